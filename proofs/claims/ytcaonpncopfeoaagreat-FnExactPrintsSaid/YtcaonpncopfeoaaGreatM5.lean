/- What the closed words for values come to. -/
import Derived.Test.YtcaonpncopfeoaaGreatM4
import Derived.Below
import Derived.ChangeArms
import Derived.ChangeOld
set_option linter.unusedVariables false
set_option linter.unusedSimpArgs false
namespace Go.Proofs.YtcaonpncopfeoaaGreat.V
open Go

theorem ltI_t {a b : Int} : ltI a b = true ↔ a < b := by simp [ltI_eq]
theorem ltI_f {a b : Int} : ltI a b = false ↔ b ≤ a := by simp [ltI_eq]
theorem leI_t {a b : Int} : leI a b = true ↔ a ≤ b := by simp [leI_eq]
theorem leI_f {a b : Int} : leI a b = false ↔ b < a := by simp [leI_eq]
theorem eqI_t {a b : Int} : eqI a b = true ↔ a = b := by simp [eqI_eq]
theorem eqI_f {a b : Int} : eqI a b = false ↔ a ≠ b := by simp [eqI_eq]
theorem notB_t {a : Bool} : notB a = true ↔ a = false := by cases a <;> simp [notB_eq]
theorem notB_f {a : Bool} : notB a = false ↔ a = true := by cases a <;> simp [notB_eq]
theorem eqB_t {a b : Bool} : eqB a b = true ↔ a = b := by simp [eqB_eq]
theorem eqB_f {a b : Bool} : eqB a b = false ↔ a ≠ b := by simp [eqB_eq]
theorem eqStr_t {a b : ByteArray} : eqStr a b = true ↔ a = b := by
  rw [eqStr_eq]
  rw [beq_iff_eq]
  constructor
  · intro h
    have h' : a.data.toList = b.data.toList := by simpa [ByteArray.toList_eq] using h
    cases a
    cases b
    simp only at h'
    congr 1
    exact Array.toList_inj.1 h'
  · intro h
    rw [h]
theorem eqStr_f {a b : ByteArray} : eqStr a b = false ↔ a ≠ b := by
  rw [Ne, ← eqStr_t]
  simp
theorem eqStr_self (a : ByteArray) : eqStr a a = true := eqStr_t.2 rfl
theorem eqI_self (a : Int) : eqI a a = true := eqI_t.2 rfl
theorem eqB_self (a : Bool) : eqB a a = true := eqB_t.2 rfl

theorem wrp_i64 {x : Int} (h0 : -9223372036854775808 ≤ x) (h1 : x ≤ 9223372036854775807) : wrp .i64 x = x := by
  have e1 : (2 : Int) ^ 64 = 18446744073709551616 := by decide
  have e2 : (2 : Int) ^ (64 - 1) = 9223372036854775808 := by decide
  simp only [wrp_eq, IntKind.wrap, IntKind.bits, IntKind.signed, e1, e2, Bool.true_and, decide_eq_true_eq]
  split <;> omega
theorem wrp_u8 {x : Int} (h0 : 0 ≤ x) (h1 : x < 256) : wrp .u8 x = x := by
  simp only [wrp_eq, IntKind.wrap, IntKind.bits, IntKind.signed]
  simp
  omega
theorem wrp_u8' {x : Int} : wrp .u8 x = x % 256 := by
  simp only [wrp_eq, IntKind.wrap, IntKind.bits, IntKind.signed]
  simp
theorem tdivOf_pos {x y : Int} (h0 : 0 ≤ x) (h1 : x ≤ 9223372036854775807) (h2 : 0 < y) : tdivOf .i64 x y = x / y := by
  rw [tdivOf_eq]
  rw [Int.tdiv_eq_ediv_of_nonneg h0]
  have a := Int.ediv_le_self y h0
  have b := Int.ediv_nonneg h0 (Int.le_of_lt h2)
  have := @wrp_i64 (x / y) (by omega) (by omega)
  rw [wrp_eq] at this
  exact this
theorem tmodOf_pos {x y : Int} (h0 : 0 ≤ x) : tmodOf x y = x % y := by
  rw [tmodOf_eq]
  rw [Int.tmod_eq_emod_of_nonneg h0]

/-- A row of numbers of one byte each. -/
def bts (xs : List Int) : List (List C) := xs.map fun v => [.sc (.int .u8 v)]
theorem bts_append (xs ys : List Int) : bts (xs ++ ys) = bts xs ++ bts ys := by simp [bts]
theorem bts_len (xs : List Int) : (bts xs).length = xs.length := by simp [bts]
theorem bts_nil : bts [] = [] := rfl
theorem bytesOf_bts (s : ByteArray) : bytesOf s = bts (s.data.toList.map fun b => (b.toNat : Int)) := by simp [bytesOf, bts]

theorem flat1 (k : IntKind) (v : Int) : Flat 1 [[.sc (.int k v)]] := by
  intro r hr
  rw [List.mem_singleton.1 hr]
  exact ⟨rfl, fun c hc => ⟨_, List.mem_singleton.1 hc, rfl⟩⟩
theorem flat_bts (xs : List Int) : Flat 1 (bts xs) := by
  intro r hr
  simp only [bts, List.mem_map] at hr
  obtain ⟨v, _, rfl⟩ := hr
  exact ⟨rfl, fun c hc => ⟨_, List.mem_singleton.1 hc, rfl⟩⟩
/-- A string's bytes as numbers. -/
def sb (s : ByteArray) : List Int := s.data.toList.map fun b => (b.toNat : Int)
theorem bytesOf_sb (s : ByteArray) : bytesOf s = bts (sb s) := bytesOf_bts s
theorem sb_len (s : ByteArray) : (sb s).length = s.size := by simp [sb]

end Go.Proofs.YtcaonpncopfeoaaGreat.V

/- From what a function is known to do to the call of a law: it returns true, and nothing that was there has turned. -/
set_option linter.unusedVariables false
set_option linter.unusedSimpArgs false
namespace Go.Proofs.YtcaonpncopfeoaaGreat.V
open Go Go.RowKit

@[reducible] def iV (x : Int) : AV := .rdv false [.sc (.int .i64 x)]
@[reducible] def sV (s : ByteArray) : AV := .rdv false [.sc (.string s)]
@[reducible] def boV (b : Bool) : AV := .rdv false [.sc (.bool b)]
@[reducible] def bV (xs : List Int) : AV := .rdv false [.sl true 1 (bts xs)]
@[reducible] def iR (x : Int) : RV := ⟨false, [.rd (.sc (.int .i64 x))]⟩
@[reducible] def sR (s : ByteArray) : RV := ⟨false, [.rd (.sc (.string s))]⟩
@[reducible] def bR (b : Bool) : RV := ⟨false, [.rd (.sc (.bool b))]⟩
@[reducible] def oR (xs : List Int) : RV := ⟨false, [.own true 1 (bts xs)]⟩

theorem wf_i64 {x : Int} (h : (Lit.int .i64 x).wf = true) : -9223372036854775808 ≤ x ∧ x ≤ 9223372036854775807 := by
  simp [Lit.wf, IntKind.min, IntKind.max, IntKind.bits, IntKind.signed] at h
  exact h
theorem wf_u8 {x : Int} (h : (Lit.int .u8 x).wf = true) : 0 ≤ x ∧ x ≤ 255 := by
  simp [Lit.wf, IntKind.min, IntKind.max, IntKind.bits, IntKind.signed] at h
  exact h

/-- All that was there is only read. -/
def Old (w : World) : Nat → Prop := fun x => x < w.heap.size

def Reads (w : World) : List AV → List Value → Prop
  | [], [] => True
  | .rdv agg cs :: as, v :: vs => ArgOk w (Old w) (fun _ => False) v (.rdv agg cs) ∧ Reads w as vs
  | _, _ => False

theorem reads_ok {w : World} : ∀ {as : List AV} {vs : List Value}, Reads w as vs → ArgsOk w (Old w) as vs (as.map fun _ _ => False) ∧ Apart (as.map fun _ _ => False) ∧ (∀ F ∈ as.map (fun _ (_ : Nat) => False), ∀ x, ¬ F x) ∧
    (∀ x, ¬ aOf as vs (as.map fun _ _ => False) x) ∧ bOf as vs = []
  | [], [], h => ⟨trivial, trivial, fun F hF => (by cases hF), fun x h => h, rfl⟩
  | .rdv agg cs :: as, v :: vs, h => by
    obtain ⟨h0, h⟩ := h
    obtain ⟨i1, i2, i3, i4, i5⟩ := reads_ok h
    refine ⟨⟨h0, i1⟩, ⟨fun x hx => hx.elim, i2⟩, fun F hF x hx => ?_, fun x hx => hx.elim False.elim (i4 x), ?_⟩
    · cases hF with
      | head => exact hx
      | tail _ hF => exact i3 F hF x hx
    · unfold bOf
      exact i5
  | [], _ :: _, h => h.elim
  | .own _ _ :: _, _, h => by cases ‹List Value› <;> exact h.elim
  | .mptr _ _ :: _, _, h => by cases ‹List Value› <;> exact h.elim
  | .rptr _ :: _, _, h => by cases ‹List Value› <;> exact h.elim
  | .nilv _ :: _, _, h => by cases ‹List Value› <;> exact h.elim
  | .ov _ _ :: _, _, h => by cases ‹List Value› <;> exact h.elim
  | .mv _ _ :: _, _, h => by cases ‹List Value› <;> exact h.elim
  | .rdv _ _ :: _, [], h => h.elim

theorem law_calls {P : Program} {f : Nat} {as : List AV} {vs : List Value} {w : World} (hf : FnV P f as fun rs outs => rs = [bR true] ∧ outs = []) (h : Reads w as vs) :
    Calls P f vs.toArray w fun e w' => e = .returned (.bool true) ∧ Below w.heap.size w w' := by
  obtain ⟨i1, i2, i3, i4, i5⟩ := reads_ok h
  rw [FnV_eq] at hf
  refine (hf.2 w (Old w) _ vs i1 i2 (fun F hF x hx => (i3 F hF x hx).elim) (fun x h => h)).mono ?_
  rintro e w' ⟨v, rs, outs, rfl, ⟨rfl, rfl⟩, hb⟩
  obtain ⟨hx, us, I', G, ⟨h1, h2⟩, h3, _⟩ := hb
  obtain ⟨u, hu, hr⟩ := h3 0 _ rfl
  obtain ⟨x, hx1, hx2⟩ := hr
  cases hx1
  have hu2 : u = .bool true := by
    have hx2' : Rd w' I' u (.sc (.bool true)) := hx2
    cases hx2'
    rfl
  have hs : us.size = 1 := by simpa using h1
  rw [dif_pos hs] at h2
  have : us[0] = u := by
    have hu' : us[0]? = some us[0] := Array.getElem?_eq_getElem (by omega)
    rw [hu'] at hu
    cases hu
    rfl
  refine ⟨by rw [h2, this, hu2], ⟨hx.os, hx.tape, hx.output, hx.size, fun k hk => hx.keep k hk (i4 k) ?_⟩⟩
  rw [i5]
  exact fun p hp => (by cases hp)

theorem str_reads {w : World} (s : ByteArray) : ArgOk w (Old w) (fun _ => False) (.string s) (sV s) := ⟨_, rfl, .sc _⟩
theorem int_reads {w : World} (x : Int) : ArgOk w (Old w) (fun _ => False) (.int .i64 x) (iV x) := ⟨_, rfl, .sc _⟩
theorem bool_reads {w : World} (b : Bool) : ArgOk w (Old w) (fun _ => False) (.bool b) (boV b) := ⟨_, rfl, .sc _⟩

/-- A row of bytes that came in. -/
def IsRow (w : World) (a : Option Addr) (len cap : Nat) (zs : List Int) : Prop :=
  (a = none ∧ len = 0 ∧ cap = 0 ∧ zs = []) ∨
  ∃ x, a = some x ∧ len ≤ cap ∧ cap ≤ maxLen ∧ zs.length = cap ∧ (∀ i, i < zs.length → w.cell? (x.add i) = some (.int .u8 (zs.getD i 0))) ∧ ∀ n ∈ zs, (Lit.int .u8 n).wf = true

theorem bytes_reads {w : World} {a : Option Addr} {len cap : Nat} {zs : List Int} (h : IsRow w a len cap zs) (hsp : ∀ x, a = some x → x.spot = none) (hlt : ∀ x, a = some x → x.block < w.heap.size) :
    ArgOk w (Old w) (fun _ => False) (.slice a len cap) (bV (zs.take len)) := by
  refine ⟨_, rfl, ?_⟩
  rcases h with ⟨rfl, rfl, rfl, rfl⟩ | ⟨x, rfl, h1, h2, h3, h4, h5⟩
  · exact .nil _ _ _ _
  · obtain ⟨b, o, sp⟩ := x
    have : sp = none := hsp _ rfl
    subst this
    refine .row b o len cap true 1 _ (fun i _ => .int .u8 (zs.getD i 0)) (hlt _ rfl) (by simp [bts, h3, h1]) h1 (fun i r hr => ?_) (fun i j hi hj => ?_) (fun _ _ _ _ => rfl) (fun i j r c hr hc => ?_)
    · simp only [bts, List.getElem?_map] at hr
      cases hq : (zs.take len)[i]? with
      | none => rw [hq] at hr; cases hr
      | some q => rw [hq] at hr; cases hr; rfl
    · have hj0 : j = 0 := by omega
      subst hj0
      have := h4 i (by omega)
      rw [add_eq] at this
      simpa using this
    · simp only [bts, List.getElem?_map] at hr
      cases hq : (zs.take len)[i]? with
      | none => rw [hq] at hr; cases hr
      | some q =>
        rw [hq] at hr
        cases hr
        cases j with
        | zero =>
          cases hc
          have hz : zs.getD i 0 = q := by
            rw [List.getElem?_take] at hq
            split at hq
            · simp [List.getD, hq]
            · cases hq
          rw [hz]
          exact .sc _
        | succ j => simp at hc

end Go.Proofs.YtcaonpncopfeoaaGreat.V

/- Whatever plain data came in is read: numbers, bools, strings, slices of such and of structs of such. -/
set_option linter.unusedVariables false
set_option linter.unusedSimpArgs false
namespace Go.Proofs.YtcaonpncopfeoaaGreat.V
open Go Classical

/-- What a cell of a type is. -/
inductive Sh where
  | int (k : IntKind)
  | bool
  | str
  | sl (row : List Sh)

inductive Ty : Sh → C → Prop
  | int (k : IntKind) (n : Int) (h : (Lit.int k n).wf = true) : Ty (.int k) (.sc (.int k n))
  | bool (b : Bool) : Ty .bool (.sc (.bool b))
  | str (s : ByteArray) (h : s.size ≤ maxLen) : Ty .str (.sc (.string s))
  | sl (row : List Sh) (es : List (List C)) (hl : es.length ≤ maxLen) (h : ∀ r ∈ es, r.length = row.length) (ht : ∀ r ∈ es, ∀ (j : Nat) (sh : Sh) (c : C), row[j]? = some sh → r[j]? = some c → Ty sh c) : Ty (.sl row) (.sl true row.length es)

def shpF (f : Nat → Option (List Sh)) : List (Nat × Nat) → Nat → Option (List Sh)
  | [], _ => some []
  | (off, t) :: r, i => if off = i then (match f t with
    | some row => (match shpF f r (i + row.length) with
      | some rest => some (row ++ rest)
      | none => none)
    | none => none) else none

def shp (τ : Nat → Option TD) : Nat → Nat → Option (List Sh)
  | 0, _ => none
  | n + 1, t => (match τ t with
    | some d => (match d.kind with
      | .int k => if d.size = 1 then some [.int k] else none
      | .bool => if d.size = 1 then some [.bool] else none
      | .str => if d.size = 1 then some [.str] else none
      | .slice e => if d.size = 1 then (match shp τ n e with
        | some row => if row.length = 0 then none else some [.sl row]
        | none => none) else none
      | .struct fs => (match shpF (shp τ n) fs 0 with
        | some row => if row.length = d.size then some row else none
        | none => none)
      | _ => none)
    | none => none)

def Cells (w : World) : List Sh → List Value → List C → Prop
  | [], [], [] => True
  | sh :: shs, v :: vs, c :: cs => (Rd w (Old w) v c ∧ Ty sh c ∧ v.oneCell' = true) ∧ Cells w shs vs cs
  | _, _, _ => False

def TyL : List Sh → List C → Prop
  | [], [] => True
  | sh :: shs, c :: cs => Ty sh c ∧ TyL shs cs
  | _, _ => False

theorem Cells.append {w : World} : ∀ {a a' : List Sh} {b b' : List Value} {c c' : List C}, Cells w a b c → Cells w a' b' c' → Cells w (a ++ a') (b ++ b') (c ++ c')
  | [], _, [], _, [], _, _, h => h
  | _ :: _, _, _ :: _, _, _ :: _, _, h, h' => ⟨h.1, h.2.append h'⟩
  | [], _, _ :: _, _, _, _, h, _ => h.elim
  | [], _, [], _, _ :: _, _, h, _ => h.elim
  | _ :: _, _, [], _, _, _, h, _ => h.elim
  | _ :: _, _, _ :: _, _, [], _, h, _ => h.elim

theorem Cells.len {w : World} : ∀ {a : List Sh} {b : List Value} {c : List C}, Cells w a b c → b.length = a.length ∧ c.length = a.length
  | [], [], [], _ => ⟨rfl, rfl⟩
  | _ :: _, _ :: _, _ :: _, h => by
    have := h.2.len
    simp [this.1, this.2]
  | [], _ :: _, _, h => h.elim
  | [], [], _ :: _, h => h.elim
  | _ :: _, [], _, h => h.elim
  | _ :: _, _ :: _, [], h => h.elim

theorem Cells.at {w : World} : ∀ {a : List Sh} {b : List Value} {c : List C}, Cells w a b c → ∀ (j : Nat) (x : C), c[j]? = some x → ∃ v sh, b[j]? = some v ∧ a[j]? = some sh ∧ Rd w (Old w) v x ∧ Ty sh x ∧ v.oneCell' = true
  | [], [], [], _, j, x, hj => by simp at hj
  | sh :: _, v :: _, c :: _, h, j, x, hj => by
    cases j with
    | zero => cases hj; exact ⟨v, sh, rfl, rfl, h.1.1, h.1.2.1, h.1.2.2⟩
    | succ j => exact h.2.at j x hj
  | [], _ :: _, _, h, _, _, _ => h.elim
  | [], [], _ :: _, h, _, _, _ => h.elim
  | _ :: _, [], _, h, _, _, _ => h.elim
  | _ :: _, _ :: _, [], h, _, _, _ => h.elim

section
variable {H : Type} {enc : TypeId × Value → H} {P : Program} {w : World} {base : Nat} {spare : Nat → Bool} {held : Bool} {τ : Nat → Option TD}

theorem shpF_read {f : Nat → Option (List Sh)} {n : Nat} {cs : List Value} (hf : ∀ t row, f t = some row → P.cellsOf t = row.length ∧ ∀ cs y, DataW.trod enc P w base spare held n t cs = some y → ∃ Cs, Cells w row cs Cs) :
    ∀ (fl : List Field) (i : Nat) (rows : List Sh), shpF f (fl.map fun x => (x.offset, x.type)) i = some rows → (∀ x ∈ fl, ∃ y, DataW.trod enc P w base spare held n x.type ((cs.drop x.offset).take (P.cellsOf x.type)) = some y) →
      i + rows.length = cs.length → ∃ Cs, Cells w rows (cs.drop i) Cs
  | [], i, rows, h, hx, hl => by
    cases h
    have : cs.drop i = [] := by
      simp at hl
      simp [hl]
    rw [this]
    exact ⟨[], trivial⟩
  | x :: r, i, rows, h, hx, hl => by
    simp only [List.map_cons, shpF] at h
    split at h
    · rename_i hoff
      split at h
      · rename_i row hrow
        split at h
        · rename_i rest hrest
          cases h
          obtain ⟨hc, hr⟩ := hf _ _ hrow
          obtain ⟨y, hy⟩ := hx x (List.mem_cons_self ..)
          rw [hoff, hc] at hy
          obtain ⟨C1, h1⟩ := hr _ _ hy
          obtain ⟨C2, h2⟩ := shpF_read hf r (i + row.length) rest hrest (fun z hz => hx z (List.mem_cons_of_mem _ hz)) (by simp at hl; omega)
          refine ⟨C1 ++ C2, ?_⟩
          have e : cs.drop i = (cs.drop i).take row.length ++ cs.drop (i + row.length) := by
            rw [← List.drop_drop]
            exact (List.take_append_drop _ _).symm
          rw [e]
          exact h1.append h2
        · cases h
      · cases h
    · cases h

theorem cellsOf_eq {t : Nat} {d : TD} (h : TyOk P t d) : P.cellsOf t = d.size := by
  obtain ⟨i, z, hi, hs, _⟩ := h.info
  simp [Program.cellsOf, hi, hs]

theorem add_spot {b o j : Nat} : (⟨b, o, none⟩ : Addr).add j = ⟨b, o + j, none⟩ := add_eq b o j

/-- What came in, read. -/
theorem read_ok (hτ : ∀ t d, τ t = some d → TyOk P t d) : ∀ (n : Nat) (t : Nat) (row : List Sh), shp τ n t = some row → P.cellsOf t = row.length ∧ ∀ (fuel : Nat) (cs : List Value) (y : DataW H × List MemPlace), DataW.trod enc P w base spare held fuel t cs = some y → ∃ Cs, Cells w row cs Cs
  | 0, t, row, h => by cases h
  | n + 1, t, row, h => by
    simp only [shp] at h
    split at h
    · rename_i d hd
      have hty := hτ t d hd
      have hk := hty.kind
      have hco := cellsOf_eq hty
      split at h
      · rename_i k hkd
        rw [hkd] at hk
        split at h
        · rename_i h1
          cases h
          refine ⟨by rw [hco, h1]; rfl, fun fuel cs y hy => ?_⟩
          obtain ⟨m, rfl, _, hwf⟩ := DataW.trod_int hk hy
          exact ⟨[.sc (.int k m)], ⟨.sc _, .int k m hwf, rfl⟩, trivial⟩
        · cases h
      · rename_i hkd
        rw [hkd] at hk
        split at h
        · rename_i h1
          cases h
          refine ⟨by rw [hco, h1]; rfl, fun fuel cs y hy => ?_⟩
          obtain ⟨b, rfl, _⟩ := DataW.trod_bool hk hy
          exact ⟨[.sc (.bool b)], ⟨.sc _, .bool b, rfl⟩, trivial⟩
        · cases h
      · rename_i hkd
        rw [hkd] at hk
        split at h
        · rename_i h1
          cases h
          refine ⟨by rw [hco, h1]; rfl, fun fuel cs y hy => ?_⟩
          obtain ⟨s, rfl, _, hs⟩ := DataW.trod_string hk hy
          exact ⟨[.sc (.string s)], ⟨.sc _, .str s hs, rfl⟩, trivial⟩
        · cases h
      · rename_i e hkd
        rw [hkd] at hk
        split at h
        · rename_i h1
          split at h
          · rename_i row0 hr0
            split at h
            · cases h
            rename_i hz0
            cases h
            refine ⟨by rw [hco, h1]; rfl, fun fuel cs y hy => ?_⟩
            obtain ⟨hce, hre⟩ := read_ok hτ n e row0 hr0
            rcases DataW.trod_slice hk hy with ⟨rfl, _⟩ | ⟨a, len, cap, elems, rest, m, rfl, rfl, _, hba, hlc, hcm, hel, hall, _⟩
            · exact ⟨[.sl true row0.length []], ⟨.nil _ _ _ _, .sl row0 [] (Nat.zero_le _) (fun r hr => (by cases hr)) (fun r hr => (by cases hr)), rfl⟩, trivial⟩
            · cases Nat.eq_zero_or_pos len with
              | inl h0 =>
                subst h0
                exact ⟨[.sl true row0.length []], ⟨.nil _ _ _ _, .sl row0 [] (Nat.zero_le _) (fun r hr => (by cases hr)) (fun r hr => (by cases hr)), rfl⟩, trivial⟩
              | inr h0 =>
                have each : ∀ i, i < len → ∃ rv Cs, w.cells? base (a.add (i * row0.length)) row0.length = some rv ∧ Cells w row0 rv Cs := fun i hi => by
                  have h2 := hall i hi
                  rw [hce] at h2
                  have h3 : elems[i]? = some elems[i] := List.getElem?_eq_getElem (by omega)
                  rw [h3] at h2
                  obtain ⟨rv, h4, h5⟩ := Option.bind_eq_some_iff.1 h2
                  obtain ⟨Cs, h6⟩ := hre _ _ _ h5
                  exact ⟨rv, Cs, h4, h6⟩
                have hcs : ∃ Cf : Nat → List C, ∀ i, i < len → ∃ rv, w.cells? base (a.add (i * row0.length)) row0.length = some rv ∧ Cells w row0 rv (Cf i) := by
                  refine ⟨fun i => if h : ∃ Cs rv, w.cells? base (a.add (i * row0.length)) row0.length = some rv ∧ Cells w row0 rv Cs then Classical.choose h else [], fun i hi => ?_⟩
                  obtain ⟨rv, Cs, q1, q2⟩ := each i hi
                  have hx : ∃ Cs rv, w.cells? base (a.add (i * row0.length)) row0.length = some rv ∧ Cells w row0 rv Cs := ⟨Cs, rv, q1, q2⟩
                  simp only [dif_pos hx]
                  exact Classical.choose_spec hx
                obtain ⟨Cf, hCf⟩ := hcs
                have hty2 : Ty (.sl row0) (.sl true row0.length ((List.range len).map Cf)) := by
                  refine .sl row0 _ (by simp; omega) (fun r hr => ?_) (fun r hr j sh c hj hc => ?_)
                  · obtain ⟨i, hi, rfl⟩ := List.mem_map.1 hr
                    obtain ⟨rv, _, q⟩ := hCf i (List.mem_range.1 hi)
                    exact q.len.2
                  · obtain ⟨i, hi, rfl⟩ := List.mem_map.1 hr
                    obtain ⟨rv, _, q⟩ := hCf i (List.mem_range.1 hi)
                    obtain ⟨v, sh', _, e1, _, e2, _⟩ := q.at j c hc
                    rw [hj] at e1
                    cases e1
                    exact e2
                refine ⟨[_], ⟨?_, hty2, rfl⟩, trivial⟩
                have hz : 0 < row0.length := Nat.pos_of_ne_zero hz0
                obtain ⟨rv, q1, q2⟩ := hCf 0 h0
                have hblk := World.cells?_block q1 hz
                obtain ⟨_, ql, qc⟩ := World.cells?_some q1
                obtain ⟨b, o, sp⟩ := a
                have hsp : sp = none := by
                  have h9 := qc 0 hz
                  obtain ⟨c0, hc0⟩ : ∃ c0, rv[0]? = some c0 := ⟨rv[0], List.getElem?_eq_getElem (by omega)⟩
                  rw [hc0] at h9
                  simp only [Nat.zero_mul, Addr.add, if_true] at h9
                  simp only [World.cell?] at h9
                  split at h9
                  · split at h9
                    · cases h9
                    · rename_i hs
                      simpa using hs
                  · cases h9
                subst hsp
                have hb2 : b < w.heap.size := by simpa [Addr.add] using hblk
                have cellAt : ∀ i j, i < len → j < row0.length → ∃ v c, w.cell? ⟨b, o + i * row0.length + j, none⟩ = some v ∧ (Cf i)[j]? = some c ∧ Rd w (Old w) v c ∧ v.oneCell' = true := fun i j hi hj => by
                  obtain ⟨rv, r1, r2⟩ := hCf i hi
                  obtain ⟨c, hc⟩ : ∃ c, (Cf i)[j]? = some c := ⟨_, List.getElem?_eq_getElem (by rw [r2.len.2]; exact hj)⟩
                  obtain ⟨v, sh, e1, _, e3, _, e5⟩ := r2.at j c hc
                  have := (World.cells?_some r1).2.2 j hj
                  rw [add_eq, add_eq, e1] at this
                  exact ⟨v, c, this, hc, e3, e5⟩
                refine .row b o len cap true row0.length _ (fun i j => (w.cell? ⟨b, o + i * row0.length + j, none⟩).getD undef) hb2 (by simp) hlc (fun i r hr => ?_) (fun i j hi hj => ?_) (fun i j hi hj => ?_) (fun i j r c hr hc => ?_)
                · rw [List.getElem?_map] at hr
                  cases hq : (List.range len)[i]? with
                  | none => rw [hq] at hr; cases hr
                  | some i' =>
                    rw [hq] at hr
                    cases hr
                    obtain ⟨rv, _, q⟩ := hCf i' (List.mem_range.1 (List.mem_of_getElem? hq))
                    exact q.len.2
                · obtain ⟨v, c, e1, _⟩ := cellAt i j hi hj
                  rw [e1]
                  rfl
                · obtain ⟨v, c, e1, _, _, e4⟩ := cellAt i j hi hj
                  rw [e1]
                  exact e4
                · rw [List.getElem?_map] at hr
                  cases hq : (List.range len)[i]? with
                  | none => rw [hq] at hr; cases hr
                  | some i' =>
                    rw [hq] at hr
                    cases hr
                    have hi' : i < len := by simpa using (List.getElem?_eq_some_iff.1 hq).1
                    have hii : i' = i := by
                      rw [List.getElem?_range hi'] at hq
                      cases hq
                      rfl
                    subst hii
                    obtain ⟨rv, _, q⟩ := hCf i' hi'
                    have hj : j < row0.length := by rw [← q.len.2]; exact (List.getElem?_eq_some_iff.1 hc).1
                    obtain ⟨v, c', e1, e2, e3, _⟩ := cellAt i' j hi' hj
                    rw [hc] at e2
                    cases e2
                    rw [e1]
                    exact e3
          · cases h
        · cases h
      · rename_i fs hkd
        rw [hkd] at hk
        obtain ⟨arr, hu, hfs⟩ := hk
        split at h
        · rename_i row0 hr0
          split at h
          · rename_i hrl
            cases h
            refine ⟨by rw [hco, hrl], fun fuel cs y hy => ?_⟩
            obtain ⟨xs, m, rfl, _, hl, hxl, hall⟩ := DataW.trod_struct hu hy
            rw [← hfs] at hr0
            obtain ⟨Cs, hC⟩ := shpF_read (enc := enc) (P := P) (w := w) (base := base) (spare := spare) (held := held) (n := m) (cs := cs) (fun t row ht => let ⟨q1, q2⟩ := read_ok hτ n t row ht; ⟨q1, fun cs y h => q2 m cs y h⟩) arr.toList 0 _ hr0 (fun f hf => by
              obtain ⟨i, hi, he⟩ := List.mem_iff_getElem.1 hf
              have hi' : i < arr.size := by simpa using hi
              have h3 := hall i f (by simp at he; simp [he, hi'])
              have h4 : xs[i]? = some xs[i] := List.getElem?_eq_getElem (by omega)
              exact ⟨xs[i], h3.trans h4⟩) (by rw [hl, hco, hrl]; simp)
            exact ⟨Cs, by simpa using hC⟩
          · cases h
        · cases h
      · cases h
    · cases h

theorem Cells.ty {w : World} : ∀ {a : List Sh} {b : List Value} {c : List C}, Cells w a b c → TyL a c
  | [], [], [], _ => trivial
  | _ :: _, _ :: _, _ :: _, h => ⟨h.1.2.1, h.2.ty⟩
  | [], _ :: _, _, h => h.elim
  | [], [], _ :: _, h => h.elim
  | _ :: _, [], _, h => h.elim
  | _ :: _, _ :: _, [], h => h.elim

theorem arg_agg (hτ : ∀ t d, τ t = some d → TyOk P t d) {n t : Nat} {row : List Sh} (hs : shp τ n t = some row) {cs : Array Value} {d : DataW H} {p : List MemPlace} (h : DataW.Trod enc P w base spare held t (.agg cs) d p) :
    ∃ Cs, TyL row Cs ∧ ArgOk w (Old w) (fun _ => False) (.agg cs) (.rdv true Cs) := by
  obtain ⟨fuel, hf⟩ := h
  obtain ⟨Cs, hC⟩ := (read_ok hτ n t row hs).2 fuel _ _ hf
  refine ⟨Cs, hC.ty, cs, rfl, ?_, fun j c hj => ?_⟩
  · have := hC.len
    simp [Value.cells] at this
    omega
  · obtain ⟨v, sh, e1, _, e3, _⟩ := hC.at j c hj
    exact ⟨v, by simpa [Value.cells] using e1, e3⟩

theorem arg_slice (hτ : ∀ t d, τ t = some d → TyOk P t d) {n t : Nat} {sh : Sh} (hs : shp τ n t = some [sh]) {a : Option Addr} {len cap : Nat} {d : DataW H} {p : List MemPlace} (h : DataW.Trod enc P w base spare held t (.slice a len cap) d p) :
    ∃ c, Ty sh c ∧ ArgOk w (Old w) (fun _ => False) (.slice a len cap) (.rdv false [c]) := by
  obtain ⟨fuel, hf⟩ := h
  obtain ⟨Cs, hC⟩ := (read_ok hτ n t _ hs).2 fuel _ _ hf
  have hl := hC.len.2
  cases Cs with
  | nil => simp at hl
  | cons c r =>
    have : r = [] := by simpa using hl
    subst this
    obtain ⟨v, sh', e1, e2, e3, e4, _⟩ := hC.at 0 c rfl
    cases e2
    have : v = .slice a len cap := by simpa [Value.cells] using e1.symm
    subst this
    exact ⟨c, e4, c, rfl, e3⟩

end
end Go.Proofs.YtcaonpncopfeoaaGreat.V

