/- Part 1 of what the row leans on: M1, M1. -/
import Derived.Calls
import Derived.ChangeKeysEq
import Derived.Laws.AppendOwn
import Derived.Laws.BytesArg
import Derived.Laws.CopyRow
import Derived.Laws.MakeOwn
import Derived.Lib.ConvBytes
import Derived.RowKit3
set_option linter.unusedVariables false

set_option linter.unusedSimpArgs false

namespace Go.Proofs.YtppfojiogappaaaDoor.V

open Go

inductive C where
  | sc (v : Value)
  | any
  | sl (own : Bool) (n : Nat) (es : List (List C))

inductive Rd (w : World) (I : Nat → Prop) : Value → C → Prop
  | sc (v : Value) : Rd w I v (.sc v)
  | any (v : Value) : Rd w I v .any
  | nil (b : Option Addr) (cap : Nat) (own : Bool) (n : Nat) : Rd w I (.slice b 0 cap) (.sl own n [])
  | row (b o len cap : Nat) (own : Bool) (n : Nat) (es : List (List C)) (u : Nat → Nat → Value)
      (hI : I b) (hlen : es.length = len) (hc : len ≤ cap)
      (hl : ∀ (i : Nat) (r : List C), es[i]? = some r → r.length = n)
      (hcell : ∀ i j, i < len → j < n → w.cell? ⟨b, o + i * n + j, none⟩ = some (u i j))
      (h1 : ∀ i j, i < len → j < n → (u i j).oneCell' = true)
      (hr : ∀ (i j : Nat) (r : List C) (c : C), es[i]? = some r → r[j]? = some c → Rd w I (u i j) c) :
      Rd w I (.slice (some ⟨b, o, none⟩) len cap) (.sl own n es)

inductive Own (w : World) (I : Nat → Prop) : (Nat → Prop) → Value → C → Prop
  | sc (F : Nat → Prop) (v : Value) : Own w I F v (.sc v)
  | any (F : Nat → Prop) (v : Value) : Own w I F v .any
  | rd (F : Nat → Prop) (v : Value) (n : Nat) (es : List (List C)) (h : Rd w I v (.sl false n es)) : Own w I F v (.sl false n es)
  | nil (F : Nat → Prop) (n : Nat) : Own w I F (.slice none 0 0) (.sl true n [])
  | row (F : Nat → Prop) (g o len cap n : Nat) (es : List (List C)) (cs : Array Value) (e : TypeId) (u : Nat → Nat → Value) (f : Nat → Nat → Nat → Prop)
      (hF : F g) (hff : ∀ i j x, f i j x → F x ∧ x ≠ g)
      (hd : ∀ i j i' j' x, f i j x → f i' j' x → i = i' ∧ j = j')
      (fr : Nat × Nat) (hfr : ∀ k, k < cs.size ∨ (k = cs.size ∧ 1 < n) → ¬ (fr.1 ≤ k ∧ k < fr.2)) (hg : w.heap[g]? = some (.cells cs e fr)) (hsz : o + cap * n ≤ cs.size) (hn : 0 < n)
      (hlen : es.length = len) (hc : len ≤ cap) (hm : cap ≤ maxLen)
      (hl : ∀ (i : Nat) (r : List C), es[i]? = some r → r.length = n)
      (hcell : ∀ i j, i < len → j < n → cs[o + i * n + j]? = some (u i j))
      (h1 : ∀ i j, i < len → j < n → (u i j).oneCell' = true)
      (hr : ∀ (i j : Nat) (r : List C) (c : C), es[i]? = some r → r[j]? = some c → Own w I (f i j) (u i j) c) :
      Own w I F (.slice (some ⟨g, o, none⟩) len cap) (.sl true n es)

theorem cell_of {w : World} {g o : Nat} {cs : Array Value} {e : TypeId} {fr : Nat × Nat} (h : w.heap[g]? = some (.cells cs e fr)) : w.cell? ⟨g, o, none⟩ = cs[o]? := by
  simp [World.cell?, h]

theorem cell_agree {w w' : World} {b o : Nat} (h : w'.heap[b]? = w.heap[b]?) : w'.cell? ⟨b, o, none⟩ = w.cell? ⟨b, o, none⟩ := by
  simp [World.cell?, h]

theorem Rd.frame {w w' : World} {I I' : Nat → Prop} {v : Value} {c : C} (h : Rd w I v c) (hi : ∀ b, I b → I' b) (ha : ∀ b, I b → w'.heap[b]? = w.heap[b]?) : Rd w' I' v c := by
  induction h with
  | sc v => exact .sc v
  | any v => exact .any v
  | nil b cap own n => exact .nil b cap own n
  | row b o len cap own n es u hI hlen hc hl hcell h1 hr ih =>
    exact .row b o len cap own n es u (hi _ hI) hlen hc hl (fun i j h1 h2 => (cell_agree (ha b hI)).trans (hcell i j h1 h2)) h1 ih

theorem Rd.flag {w : World} {I : Nat → Prop} {v : Value} {own own' : Bool} {n : Nat} {es : List (List C)} (h : Rd w I v (.sl own n es)) : Rd w I v (.sl own' n es) := by
  cases h with
  | nil b cap => exact .nil b cap own' n
  | row b o len cap _ _ _ u hI hlen hc hl hcell h1 hr => exact .row b o len cap own' n es u hI hlen hc hl hcell h1 hr

theorem Own.frame {w w' : World} {I I' F F' : Nat → Prop} {v : Value} {c : C} (h : Own w I F v c) (hi : ∀ b, I b → I' b) (hf : ∀ b, F b → F' b)
    (haI : ∀ b, I b → w'.heap[b]? = w.heap[b]?) (haF : ∀ b, F b → w'.heap[b]? = w.heap[b]?) : Own w' I' F' v c := by
  induction h generalizing F' with
  | sc F v => exact .sc F' v
  | any F v => exact .any F' v
  | rd F v n es h => exact .rd F' v n es (h.frame hi haI)
  | nil F n => exact .nil F' n
  | row F g o len cap n es cs e u f hF hff hd fr hfr hg hsz hn hlen hc hm hl hcell h1 hr ih =>
    exact .row F' g o len cap n es cs e u f (hf _ hF) (fun i j x hx => ⟨hf _ (hff i j x hx).1, (hff i j x hx).2⟩) hd fr hfr ((haF g hF).trans hg) hsz hn hlen hc hm hl hcell h1
      (fun i j r c hr1 hr2 => ih i j r c hr1 hr2 (fun b hb => hb) (fun b hb => haF b (hff i j b hb).1))

theorem Own.rdOf {w : World} {I F : Nat → Prop} {v : Value} {c : C} (h : Own w I F v c) : Rd w (fun b => I b ∨ F b) v c := by
  induction h with
  | sc F v => exact .sc v
  | any F v => exact .any v
  | rd F v n es h => exact h.frame (fun b hb => .inl hb) (fun b _ => rfl)
  | nil F n => exact .nil none 0 true n
  | row F g o len cap n es cs e u f hF hff hd fr hfr hg hsz hn hlen hc hm hl hcell h1 hr ih =>
    exact .row g o len cap true n es u (.inr hF) hlen hc hl (fun i j hi hj => (cell_of hg).trans (hcell i j hi hj)) h1
      (fun i j r c hr1 hr2 => (ih i j r c hr1 hr2).frame (fun b hb => hb.imp id (fun h => (hff i j b h).1)) (fun b _ => rfl))

theorem Own.form {w : World} {I F : Nat → Prop} {v : Value} {own : Bool} {n : Nat} {es : List (List C)} (h : Own w I F v (.sl own n es)) :
    ∃ a cap, v = .slice a es.length cap := by
  cases h with
  | rd _ _ _ _ h =>
    cases h with
    | nil b cap => exact ⟨b, cap, rfl⟩
    | row b o len cap _ _ _ u hI hlen => exact ⟨_, cap, by rw [hlen]⟩
  | nil => exact ⟨none, 0, rfl⟩
  | row _ g o len cap _ _ cs e u f hF hff hd fr hfr hg hsz hn hlen => exact ⟨_, cap, by rw [hlen]⟩

theorem Rd.form {w : World} {I : Nat → Prop} {v : Value} {own : Bool} {n : Nat} {es : List (List C)} (h : Rd w I v (.sl own n es)) :
    ∃ a cap, v = .slice a es.length cap := by
  cases h with
  | nil b cap => exact ⟨b, cap, rfl⟩
  | row b o len cap _ _ _ u hI hlen => exact ⟨_, cap, by rw [hlen]⟩

theorem Rd.elem {w : World} {I : Nat → Prop} {v : Value} {own : Bool} {n : Nat} {es : List (List C)} (h : Rd w I v (.sl own n es)) {i : Nat} {r : List C} (hr : es[i]? = some r) :
    ∃ b o cap, v = .slice (some ⟨b, o, none⟩) es.length cap ∧ I b ∧ r.length = n ∧
      ∀ (j : Nat) (c : C), r[j]? = some c → ∃ u, w.cell? ⟨b, o + i * n + j, none⟩ = some u ∧ u.oneCell' = true ∧ Rd w I u c := by
  cases h with
  | nil b cap => simp at hr
  | row b o len cap _ _ _ u hI hlen hc hl hcell h1 hrr =>
    have hi : i < len := by rw [← hlen]; exact (List.getElem?_eq_some_iff.1 hr).1
    refine ⟨b, o, cap, by rw [hlen], hI, hl i r hr, fun j c hj => ?_⟩
    have hj' : j < n := by rw [← hl i r hr]; exact (List.getElem?_eq_some_iff.1 hj).1
    exact ⟨u i j, hcell i j hi hj', h1 i j hi hj', hrr i j r c hr hj⟩

theorem Rd.part {w : World} {I : Nat → Prop} {a : Option Addr} {len cap : Nat} {own : Bool} {n : Nat} {es : List (List C)} (h : Rd w I (.slice a len cap) (.sl own n es)) (lo hi cap' : Nat) (h1 : lo ≤ hi) (h2 : hi ≤ len) (hc' : hi - lo ≤ cap') (a' : Option Addr)
    (ha : lo < hi → ∀ b o, a = some ⟨b, o, none⟩ → a' = some ⟨b, o + lo * n, none⟩) : Rd w I (.slice a' (hi - lo) cap') (.sl own n ((es.take hi).drop lo)) := by
  rcases Nat.eq_or_lt_of_le h1 with rfl | hlt
  · have : (es.take lo).drop lo = [] := by simp
    rw [this, Nat.sub_self]
    exact .nil _ _ _ _
  · cases h with
    | nil b cap => omega
    | row b o len cap _ _ _ u hI hlen hc hl hcell h1 hrr =>
      rw [ha hlt b o rfl]
      refine .row b (o + lo * n) (hi - lo) cap' own n _ (fun i j => u (lo + i) j) hI (by simp; omega) hc' (fun i r hr => ?_) (fun i j hi' hj => ?_) (fun i j hi' hj => h1 _ _ (by omega) hj) (fun i j r c hr hj => ?_)
      · rw [List.getElem?_drop, List.getElem?_take] at hr
        split at hr
        · exact hl _ r hr
        · cases hr
      · have := hcell (lo + i) j (by omega) hj
        rwa [Nat.add_mul, ← Nat.add_assoc] at this
      · rw [List.getElem?_drop, List.getElem?_take] at hr
        split at hr
        · exact hrr _ j r c hr hj
        · cases hr

end Go.Proofs.YtppfojiogappaaaDoor.V

set_option linter.unusedVariables false

set_option linter.unusedSimpArgs false

namespace Go.Proofs.YtppfojiogappaaaDoor.V

open Go

def get {α : Type} : List (Nat × α) → Nat → Option α
  | [], _ => none
  | (k, v) :: r, a => if k = a then some v else get r a

def put {α : Type} : List (Nat × α) → Nat → α → List (Nat × α)
  | [], a, x => [(a, x)]
  | (k, v) :: r, a, x => if k = a then (a, x) :: r else (k, v) :: put r a x

theorem get_put {α : Type} (l : List (Nat × α)) (a b : Nat) (x : α) : get (put l a x) b = if a = b then some x else get l b := by
  induction l with
  | nil => simp [put, get]
  | cons p r ih =>
    obtain ⟨k, v⟩ := p
    simp only [put]
    by_cases h : k = a
    · subst h
      by_cases h2 : k = b
      · simp [get, h2]
      · simp [get, h2]
    · simp only [h, if_false, get]
      by_cases h2 : k = b
      · subst h2
        simp [Ne.symm h]
      · simp [h2, ih]

theorem get_put_same {α : Type} (l : List (Nat × α)) (a : Nat) (x : α) : get (put l a x) a = some x := by simp [get_put]

theorem get_put_ne {α : Type} (l : List (Nat × α)) {a b : Nat} (x : α) (h : a ≠ b) : get (put l a x) b = get l b := by simp [get_put, h]

inductive X where
  | sc (v : Value)
  | nil (n : Nat)
  | rd (ln : Option (Nat × Nat)) (n : Nat) (es : List (List C))
  | ref (h g : Nat)
  | sub (h g lo hi : Nat)
  | inn (h iv i j : Nat)
  | fx (u : Value) (n : Nat) (es : List (List C))

def ptV (wr : Option Nat) (b o : Nat) : Value :=
  match wr with
  | none => .pointer (some ⟨b, o, none⟩)
  | some f => .func (.func f) #[] #[.pointer (some ⟨b, o, none⟩)]

def unP (wr : Option Nat) (v : Value) : Option (Nat × Nat) :=
  match wr, v with
  | none, .pointer (some ⟨b, o, _⟩) => some (b, o)
  | some _, .func _ _ ⟨[.pointer (some ⟨b, o, _⟩)]⟩ => some (b, o)
  | _, _ => none

theorem unP_ptV (wr : Option Nat) (b o : Nat) : unP wr (ptV wr b o) = some (b, o) := by cases wr <;> rfl

theorem ptV_inj {wr : Option Nat} {b o b' o' : Nat} (h : ptV wr b o = ptV wr b' o') : b = b' ∧ o = o' := by
  have h1 := unP_ptV wr b o
  rw [h, unP_ptV] at h1
  simp only [Option.some.injEq, Prod.mk.injEq] at h1
  exact ⟨h1.1.symm, h1.2.symm⟩

inductive K0 where
  | int (k : IntKind)
  | str
  | bool
  deriving DecidableEq

def kV : Value → Option K0
  | .int k _ => some (.int k)
  | .string _ => some .str
  | .bool _ => some .bool
  | _ => none

def kVs : List Value → Option (List K0)
  | [] => some []
  | v :: r => (match kV v with
    | some k => (match kVs r with
      | some ks => some (k :: ks)
      | none => none)
    | none => none)

def keyIs (ks : Option (List K0)) (v : Value) : Prop :=
  match ks with
  | none => ∃ x, v = .int .i64 x
  | some ks => ∃ us, v = .agg ⟨us⟩ ∧ kVs us = some ks

structure MapIs (ks : Option (List K0)) (mes : Array MapEntry) (clock : Nat) (es : List (Value × Int)) : Prop where
  kv : mes.toList.map (fun e => (e.key, e.val)) = es.map fun p => (p.1, Value.int .i64 p.2)
  keys : ∀ p ∈ es, keyIs ks p.1
  born : ∀ e ∈ mes.toList, e.born < clock
  nodup : (mes.toList.map (·.born)).Nodup

inductive E where
  | mapv (b h iv : Nat) (ks : Option (List K0)) (es : List (Value × Int))
  | itv (bi h iv b hm im : Nat) (left : List (Value × Int)) (cur : Option (Value × Int))
  | vals (agg : Bool) (xs : List X)
  | bptr (b g off : Nat)
  | clo (f b g : Nat)
  | eptr (h g i off : Nat)
  | rptr (ln : Option (Nat × Nat)) (row : List C) (off : Nat)
  | tup (ps : List (Bool × List X))

structure Reg where
  live : Bool
  gen : Nat
  iv : Nat
  pure : Bool
  n : Nat
  es : List (List C)

structure Box where
  gen : Nat
  cells : List X

structure S where
  slots : List (Nat × E)
  boxes : List (Nat × Box)
  regs : List (Nat × Reg)

inductive Tag where
  | none
  | imm
  | reg (h : Nat)
  | box (b : Nat)
  deriving DecidableEq

structure G where
  ow : Nat → Tag
  val : Nat → Value
  loc : Nat → Nat × Nat

def G.I (g : G) : Nat → Prop := fun x => g.ow x = .imm

def G.F (g : G) (h : Nat) : Nat → Prop := fun x => g.ow x = .reg h

def LnOk (g : G) (regs : List (Nat × Reg)) (ln : Option (Nat × Nat)) (φ : (Nat → Prop) → Prop) : Prop :=
  match ln with
  | none => φ g.I
  | some (h, iv) => ∃ r, get regs h = some r ∧ iv ≤ r.iv ∧ (r.live = true → iv = r.iv → φ (fun b => g.I b ∨ g.F h b))

def SubOf (v : Value) (n lo hi : Nat) (u : Value) : Prop :=
  (v = .slice none 0 0 ∧ u = .slice none 0 0) ∨
  ∃ g o len cap o' cap', v = .slice (some ⟨g, o, none⟩) len cap ∧ u = .slice (some ⟨g, o', none⟩) (hi - lo) cap' ∧ cap' ≤ cap - lo ∧ hi - lo ≤ cap' ∧ (o' = o + lo * n ∨ (cap' = 0 ∧ o' ≤ o + lo * n))

def XOk (w : World) (g : G) (regs : List (Nat × Reg)) (u : Value) : X → Prop
  | .sc v => u = v
  | .nil _ => u = .slice none 0 0
  | .rd ln n es => LnOk g regs ln fun I => Rd w I u (.sl true n es)
  | .ref h gn => ∃ r, get regs h = some r ∧ gn ≤ r.gen ∧ (r.live = true → gn = r.gen → u = g.val h)
  | .sub h gn lo hi => ∃ r, get regs h = some r ∧ gn ≤ r.gen ∧ (r.live = true → gn = r.gen → SubOf (g.val h) r.n lo hi u ∧ lo ≤ hi ∧ hi ≤ r.es.length)
  | .inn h iv i j => ∃ r, get regs h = some r ∧ iv ≤ r.iv ∧ (r.live = true → iv = r.iv →
      ∃ b o len cap, g.val h = .slice (some ⟨b, o, none⟩) len cap ∧ g.ow b = .reg h ∧ i < r.es.length ∧ j < r.n ∧ w.cell? ⟨b, o + i * r.n + j, none⟩ = some u)
  | .fx v n es => u = v ∧ Rd w g.I u (.sl true n es)

def CellsOk (w : World) (g : G) (regs : List (Nat × Reg)) (us : Array Value) (xs : List X) : Prop :=
  us.size = xs.length ∧ ∀ (j : Nat) (x : X), xs[j]? = some x → ∃ u, us[j]? = some u ∧ XOk w g regs u x

def ValsOk (w : World) (g : G) (regs : List (Nat × Reg)) (v : Value) (agg : Bool) (xs : List X) : Prop :=
  match agg with
  | false => ∃ x, xs = [x] ∧ XOk w g regs v x
  | true => ∃ us, v = .agg us ∧ CellsOk w g regs us xs

structure ItIs (w : World) (bi b : Nat) (left : List (Value × Int)) (cur : Option (Value × Int)) : Prop where
  is : ∃ mes clock since seen, w.heap[b]? = some (.map mes clock) ∧ w.heap[bi]? = some (.mapIter (some b) since seen clock) ∧ (∀ e ∈ mes.toList, e.born < since) ∧ since ≤ clock ∧ (mes.toList.map (·.born)).Nodup ∧
    ((mes.toList.filter fun e => !seen.contains e.born).map fun e => (e.key, e.val)) = left.map (fun p => (p.1, Value.int .i64 p.2)) ∧
    ∀ p, cur = some p → ∃ e ∈ mes.toList, seen.back? = some e.born ∧ e.key = p.1 ∧ e.val = .int .i64 p.2

def EOk (w : World) (g : G) (boxes : List (Nat × Box)) (regs : List (Nat × Reg)) (v : Value) : E → Prop
  | .mapv b h iv ks es => ∃ r, get regs h = some r ∧ iv ≤ r.iv ∧ (r.live = true → iv = r.iv → v = .map (some b) ∧ g.ow b = .reg h ∧ ∃ mes clock, w.heap[b]? = some (.map mes clock) ∧ MapIs ks mes clock es)
  | .itv bi h iv b hm im left cur => ∃ r, get regs h = some r ∧ iv ≤ r.iv ∧ ∃ r2, get regs hm = some r2 ∧ im ≤ r2.iv ∧ (r.live = true → iv = r.iv → r2.live = true → im = r2.iv →
      v = .pointer (some ⟨bi, 0, none⟩) ∧ g.ow bi = .reg h ∧ g.ow b = .reg hm ∧ ItIs w bi b left cur)
  | .vals agg xs => ValsOk w g regs v agg xs
  | .bptr b gn off => ∃ x, get boxes b = some x ∧ gn ≤ x.gen ∧ (gn = x.gen → v = .pointer (some ⟨(g.loc b).1, (g.loc b).2 + off, none⟩))
  | .clo f b gn => ∃ x, get boxes b = some x ∧ gn ≤ x.gen ∧ (gn = x.gen → v = ptV (some f) (g.loc b).1 (g.loc b).2)
  | .eptr h gn i off => ∃ r, get regs h = some r ∧ gn ≤ r.gen ∧ (r.live = true → gn = r.gen →
      ∃ b o len cap, g.val h = .slice (some ⟨b, o, none⟩) len cap ∧ i < r.es.length ∧ v = .pointer (some ⟨b, o + i * r.n + off, none⟩))
  | .rptr ln row off => LnOk g regs ln fun I => ∃ b o, v = .pointer (some ⟨b, o + off, none⟩) ∧ I b ∧ ∀ (j : Nat) (c : C), row[j]? = some c → ∃ u, w.cell? ⟨b, o + j, none⟩ = some u ∧ Rd w I u c
  | .tup ps => ∃ vs, v = .tuple vs ∧ vs.size = ps.length ∧ ∀ (k : Nat) (p : Bool × List X), ps[k]? = some p → ∃ u, vs[k]? = some u ∧ ValsOk w g regs u p.1 p.2

structure Step (g : G) (S : S) (w : World) (g' : G) (S' : V.S) (w' : World) : Prop where
  im : ∀ x, g.ow x = .imm → g'.ow x = .imm ∧ w'.heap[x]? = w.heap[x]?
  rg : ∀ h r, get S.regs h = some r → ∃ r', get S'.regs h = some r' ∧ r.gen ≤ r'.gen ∧ r.iv ≤ r'.iv ∧
    (r'.live = true → r'.gen = r.gen → r.live = true ∧ g'.val h = g.val h ∧ r'.n = r.n ∧ r'.es.length = r.es.length) ∧
    (r'.live = true → r'.iv = r.iv → r.live = true ∧ r'.gen = r.gen ∧ ∀ x, g.ow x = .reg h → g'.ow x = .reg h ∧ w'.heap[x]? = w.heap[x]?)
  bo : ∀ b x, get S.boxes b = some x → ∃ x', get S'.boxes b = some x' ∧ x.gen ≤ x'.gen ∧ (x'.gen = x.gen → g'.loc b = g.loc b)

theorem LnOk.step {g g' : G} {S S' : V.S} {w w' : World} (h : Step g S w g' S' w') {ln : Option (Nat × Nat)} {φ φ' : (Nat → Prop) → Prop}
    (hφ : ∀ I I' : Nat → Prop, (∀ x, I x → I' x ∧ w'.heap[x]? = w.heap[x]?) → φ I → φ' I') (hl : LnOk g S.regs ln φ) : LnOk g' S'.regs ln φ' := by
  cases ln with
  | none => exact hφ _ _ h.im hl
  | some p =>
    obtain ⟨k, iv⟩ := p
    obtain ⟨r, hr, hi, hk⟩ := hl
    obtain ⟨r', hr', h1, h2, h3, h4⟩ := h.rg k r hr
    refine ⟨r', hr', by omega, fun hv he => ?_⟩
    obtain ⟨hlv, _, hf⟩ := h4 hv (by omega)
    refine hφ _ _ ?_ (hk hlv (by omega))
    rintro x (hx | hx)
    · exact ⟨.inl (h.im x hx).1, (h.im x hx).2⟩
    · exact ⟨.inr (hf x hx).1, (hf x hx).2⟩

theorem XOk.step {g g' : G} {S S' : V.S} {w w' : World} (h : Step g S w g' S' w') {u : Value} {x : X} (hx : XOk w g S.regs u x) : XOk w' g' S'.regs u x := by
  cases x with
  | sc v => exact hx
  | nil n => exact hx
  | rd ln n es =>
    exact LnOk.step (φ := fun I => Rd w I u (.sl true n es)) (φ' := fun I => Rd w' I u (.sl true n es)) h (fun I I' hI hr => hr.frame (fun b hb => (hI b hb).1) (fun b hb => (hI b hb).2)) hx
  | ref k gn =>
    obtain ⟨r, hr, hi, hk⟩ := hx
    obtain ⟨r', hr', h1, h2, h3, h4⟩ := h.rg k r hr
    refine ⟨r', hr', by omega, fun hv he => ?_⟩
    obtain ⟨hlv, he', _⟩ := h3 hv (by omega)
    rw [he']
    exact hk hlv (by omega)
  | sub k gn lo hi' =>
    obtain ⟨r, hr, hi, hk⟩ := hx
    obtain ⟨r', hr', h1, h2, h3, h4⟩ := h.rg k r hr
    refine ⟨r', hr', by omega, fun hv he => ?_⟩
    obtain ⟨hlv, he', hn, hl⟩ := h3 hv (by omega)
    rw [he', hn, hl]
    exact hk hlv (by omega)
  | inn k iv i j =>
    obtain ⟨r, hr, hi, hk⟩ := hx
    obtain ⟨r', hr', h1, h2, h3, h4⟩ := h.rg k r hr
    refine ⟨r', hr', by omega, fun hv he => ?_⟩
    obtain ⟨hlv, hg, hf⟩ := h4 hv (by omega)
    obtain ⟨_, he', hn, hl⟩ := h3 hv hg
    obtain ⟨b, o, len, cap, e1, e2, e3, e4, e5⟩ := hk hlv (by omega)
    exact ⟨b, o, len, cap, he'.trans e1, (hf b e2).1, by omega, by omega, by rw [hn, cell_agree (hf b e2).2]; exact e5⟩
  | fx v n es => exact ⟨hx.1, hx.2.frame (fun b hb => (h.im b hb).1) (fun b hb => (h.im b hb).2)⟩

theorem CellsOk.step {g g' : G} {S S' : V.S} {w w' : World} (h : Step g S w g' S' w') {us : Array Value} {xs : List X} (hx : CellsOk w g S.regs us xs) : CellsOk w' g' S'.regs us xs :=
  ⟨hx.1, fun j x hj => let ⟨u, hu, ho⟩ := hx.2 j x hj; ⟨u, hu, ho.step h⟩⟩

theorem ValsOk.step {g g' : G} {S S' : V.S} {w w' : World} (h : Step g S w g' S' w') {v : Value} {agg : Bool} {xs : List X} (hx : ValsOk w g S.regs v agg xs) : ValsOk w' g' S'.regs v agg xs := by
  cases agg with
  | false => obtain ⟨x, e, ho⟩ := hx; exact ⟨x, e, ho.step h⟩
  | true => obtain ⟨us, e, ho⟩ := hx; exact ⟨us, e, ho.step h⟩

theorem ItIs.frame {w w' : World} {bi b : Nat} {left : List (Value × Int)} {cur : Option (Value × Int)} (h : ItIs w bi b left cur) (h1 : w'.heap[bi]? = w.heap[bi]?) (h2 : w'.heap[b]? = w.heap[b]?) : ItIs w' bi b left cur := by
  obtain ⟨mes, clock, since, seen, a1, a2, a3⟩ := h.is
  exact ⟨mes, clock, since, seen, h2.trans a1, h1.trans a2, a3⟩

theorem EOk.step {g g' : G} {S S' : V.S} {w w' : World} (h : Step g S w g' S' w') {v : Value} {e : E} (hx : EOk w g S.boxes S.regs v e) : EOk w' g' S'.boxes S'.regs v e := by
  cases e with
  | mapv b k iv ks es =>
    obtain ⟨r, hr, hi, hk⟩ := hx
    obtain ⟨r', hr', h1, h2, h3, h4⟩ := h.rg k r hr
    refine ⟨r', hr', by omega, fun hv he => ?_⟩
    obtain ⟨hlv, hg, hf⟩ := h4 hv (by omega)
    obtain ⟨e1, e2, mes, clock, e3, e4⟩ := hk hlv (by omega)
    exact ⟨e1, (hf b e2).1, mes, clock, (hf b e2).2.trans e3, e4⟩
  | itv bi k iv b km im left cur =>
    obtain ⟨r, hr, hi, r2, hr2, hi2, hk⟩ := hx
    obtain ⟨r', hr', h1, h2, h3, h4⟩ := h.rg k r hr
    obtain ⟨r2', hr2', m1, m2, m3, m4⟩ := h.rg km r2 hr2
    refine ⟨r', hr', by omega, r2', hr2', by omega, fun hv he hv2 he2 => ?_⟩
    obtain ⟨hlv, hg, hf⟩ := h4 hv (by omega)
    obtain ⟨hlv2, hg2, hf2⟩ := m4 hv2 (by omega)
    obtain ⟨e1, e2, e3, e4⟩ := hk hlv (by omega) hlv2 (by omega)
    exact ⟨e1, (hf bi e2).1, (hf2 b e3).1, e4.frame (hf bi e2).2 (hf2 b e3).2⟩
  | vals agg xs => exact ValsOk.step (agg := agg) (xs := xs) h hx
  | bptr b gn off =>
    obtain ⟨x, hb, hi, hk⟩ := hx
    obtain ⟨x', hb', h1, h2⟩ := h.bo b x hb
    refine ⟨x', hb', by omega, fun he => ?_⟩
    rw [h2 (by omega)]
    exact hk (by omega)
  | clo f b gn =>
    obtain ⟨x, hb, hi, hk⟩ := hx
    obtain ⟨x', hb', h1, h2⟩ := h.bo b x hb
    refine ⟨x', hb', by omega, fun he => ?_⟩
    rw [h2 (by omega)]
    exact hk (by omega)
  | eptr k gn i off =>
    obtain ⟨r, hr, hi, hk⟩ := hx
    obtain ⟨r', hr', h1, h2, h3, h4⟩ := h.rg k r hr
    refine ⟨r', hr', by omega, fun hv he => ?_⟩
    obtain ⟨hlv, he', hn, hl⟩ := h3 hv (by omega)
    rw [he', hn, hl]
    exact hk hlv (by omega)
  | rptr ln row off =>
    refine LnOk.step (φ := fun I => ∃ b o, v = .pointer (some ⟨b, o + off, none⟩) ∧ I b ∧ ∀ (j : Nat) (c : C), row[j]? = some c → ∃ u, w.cell? ⟨b, o + j, none⟩ = some u ∧ Rd w I u c)
      (φ' := fun I => ∃ b o, v = .pointer (some ⟨b, o + off, none⟩) ∧ I b ∧ ∀ (j : Nat) (c : C), row[j]? = some c → ∃ u, w'.cell? ⟨b, o + j, none⟩ = some u ∧ Rd w' I u c) h ?_ hx
    rintro I I' hI ⟨b, o, e1, e2, e3⟩
    refine ⟨b, o, e1, (hI b e2).1, fun j c hj => ?_⟩
    obtain ⟨u, hu, hr⟩ := e3 j c hj
    exact ⟨u, (cell_agree (hI b e2).2).trans hu, hr.frame (fun x hx => (hI x hx).1) (fun x hx => (hI x hx).2)⟩
  | tup ps =>
    obtain ⟨vs, e1, e2, e3⟩ := hx
    exact ⟨vs, e1, e2, fun k p hk => let ⟨u, hu, ho⟩ := e3 k p hk; ⟨u, hu, ho.step h⟩⟩

structure AA where
  a : Nat → Prop
  i : Nat → Prop
  pb : Nat → Prop
  p : Nat → Nat × Nat
  pr : Nat → Prop
  pv : Nat → Value

instance : CoeFun AA fun _ => Nat → Prop := ⟨AA.a⟩

structure Ext (w0 : World) (A : AA) (B : List (Nat × Nat × Nat)) (w : World) : Prop where
  os : w.os = w0.os
  tape : w.tape = w0.tape
  output : w.output = w0.output
  size : w0.heap.size ≤ w.heap.size
  keep : ∀ b, b < w0.heap.size → ¬ A b → (∀ p ∈ B, p.1 ≠ b) → w.heap[b]? = w0.heap[b]?
  rng : ∀ p ∈ B, ¬ A p.1 → ∀ cs e fr, w0.heap[p.1]? = some (.cells cs e fr) → ∃ cs', w.heap[p.1]? = some (.cells cs' e fr) ∧ cs'.size = cs.size ∧
    ∀ k, (∀ q ∈ B, q.1 = p.1 → k < q.2.1 ∨ q.2.1 + q.2.2 ≤ k) → cs'[k]? = cs[k]?

def BoxOk (w0 : World) (B : List (Nat × Nat × Nat)) (g : G) (regs : List (Nat × Reg)) (w : World) (b : Nat) (xs : List X) : Prop :=
  g.ow (g.loc b).1 = .box b ∧ (w0.heap.size ≤ (g.loc b).1 ∨ ((g.loc b).1, (g.loc b).2, xs.length) ∈ B) ∧
    ∃ cs e, w.heap[(g.loc b).1]? = some (.cells cs e (0, 0)) ∧ (g.loc b).2 + xs.length ≤ cs.size ∧
      ∀ (j : Nat) (y : X), xs[j]? = some y → ∃ u, cs[(g.loc b).2 + j]? = some u ∧ u.oneCell' = true ∧ XOk w g regs u y

def resv (d : Nat) : Bool := if d < 3000000 then false else if d < 4000000 then true else false

structure Mem (w0 : World) (A : AA) (B : List (Nat × Nat × Nat)) (g : G) (S : S) (w : World) : Prop where
  ext : Ext w0 A B w
  lt : ∀ x, g.ow x ≠ .none → x < w.heap.size
  fr : ∀ x h, g.ow x = .reg h → A x ∨ w0.heap.size ≤ x
  regs : ∀ h r, get S.regs h = some r → r.live = true → Own w (if r.pure then fun _ => False else g.I) (g.F h) (g.val h) (.sl true r.n r.es)
  boxes : ∀ b x, get S.boxes b = some x → BoxOk w0 B g S.regs w b x.cells
  im : ∀ x, g.ow x = .imm → A.i x ∨ A x ∨ w0.heap.size ≤ x
  pl : (∀ b, A.pb b → 1000000 ≤ b ∧ ∃ x, get S.boxes b = some x ∧ (x.gen = 0 → g.loc b = A.p b)) ∧
    ∀ d, A.pr d → resv d = true ∧ ∀ r, get S.regs d = some r → r.live = true → r.gen = 0 → g.val d = A.pv d

theorem pr_step {A : AA} {g g' : G} {S S' : V.S} {w w' : World} (hst : Step g S w g' S' w') (h : ∀ d, A.pr d → resv d = true ∧ ∀ r, get S.regs d = some r → r.live = true → r.gen = 0 → g.val d = A.pv d)
    (hnew : ∀ d r', A.pr d → get S'.regs d = some r' → r'.gen = 0 → ∃ r, get S.regs d = some r) : ∀ d, A.pr d → resv d = true ∧ ∀ r', get S'.regs d = some r' → r'.live = true → r'.gen = 0 → g'.val d = A.pv d := by
  intro d hd
  obtain ⟨h1, h2⟩ := h d hd
  refine ⟨h1, fun r' hr' hl hg => ?_⟩
  obtain ⟨r, hr⟩ := hnew d r' hd hr' hg
  obtain ⟨r2, q1, q2, _, q3, _⟩ := hst.rg d r hr
  rw [hr'] at q1
  cases q1
  obtain ⟨q4, q5, _⟩ := q3 hl (by omega)
  rw [q5]
  exact h2 r hr q4 (by omega)

def SlotsOk (g : G) (S : S) (nt : Nat) (a : Act) (w : World) : Prop :=
  ∀ d e, get S.slots d = some e → d < nt ∧ EOk w g S.boxes S.regs (a.tmps.getD d undef) e

structure Real (w0 : World) (A : AA) (B : List (Nat × Nat × Nat)) (nt : Nat) (S : S) (a : Act) (w : World) : Prop where
  df : a.defers = []
  sz : a.tmps.size = nt
  mem : ∃ g, Mem w0 A B g S w ∧ SlotsOk g S nt a w

theorem BoxOk.step {w0 : World} {B : List (Nat × Nat × Nat)} {g g' : G} {S S' : V.S} {w w' : World} (h : Step g S w g' S' w') {b : Nat} {xs : List X} (hb : BoxOk w0 B g S.regs w b xs)
    (hl : g'.loc b = g.loc b) (ho : g'.ow (g.loc b).1 = .box b) (hh : w'.heap[(g.loc b).1]? = w.heap[(g.loc b).1]?) : BoxOk w0 B g' S'.regs w' b xs := by
  obtain ⟨h1, h2, cs, e, h3, h4, h5⟩ := hb
  unfold BoxOk
  rw [hl]
  refine ⟨ho, h2, cs, e, hh.trans h3, h4, fun j y hj => ?_⟩
  obtain ⟨u, hu, h1', ho'⟩ := h5 j y hj
  exact ⟨u, hu, h1', ho'.step h⟩

theorem Step.refl (g : G) (S : V.S) (w : World) : Step g S w g S w :=
  ⟨fun x h => ⟨h, rfl⟩, fun h r hr => ⟨r, hr, Nat.le_refl _, Nat.le_refl _, fun hl _ => ⟨hl, rfl, rfl, rfl⟩, fun hl _ => ⟨hl, rfl, fun x hx => ⟨hx, rfl⟩⟩⟩, fun b x hx => ⟨x, hx, Nat.le_refl _, fun _ => rfl⟩⟩

theorem Step.trans {g g1 g2 : G} {S S1 S2 : V.S} {w w1 w2 : World} (h : Step g S w g1 S1 w1) (k : Step g1 S1 w1 g2 S2 w2) : Step g S w g2 S2 w2 := by
  refine ⟨fun x hx => ?_, fun c r hr => ?_, fun b x hx => ?_⟩
  · have h1 := h.im x hx
    have h2 := k.im x h1.1
    exact ⟨h2.1, h2.2.trans h1.2⟩
  · obtain ⟨r1, hr1, a1, a2, a3, a4⟩ := h.rg c r hr
    obtain ⟨r2, hr2, b1, b2, b3, b4⟩ := k.rg c r1 hr1
    refine ⟨r2, hr2, by omega, by omega, fun hl he => ?_, fun hl he => ?_⟩
    · obtain ⟨c1, c2, c3, c4⟩ := b3 hl (by omega)
      obtain ⟨d1, d2, d3, d4⟩ := a3 c1 (by omega)
      exact ⟨d1, c2.trans d2, c3.trans d3, c4.trans d4⟩
    · obtain ⟨c1, c2, c3⟩ := b4 hl (by omega)
      obtain ⟨d1, d2, d3⟩ := a4 c1 (by omega)
      exact ⟨d1, by omega, fun x hx => let q := d3 x hx; let q2 := c3 x q.1; ⟨q2.1, q2.2.trans q.2⟩⟩
  · obtain ⟨x1, hx1, a1, a2⟩ := h.bo b x hx
    obtain ⟨x2, hx2, b1, b2⟩ := k.bo b x1 hx1
    exact ⟨x2, hx2, by omega, fun he => (b2 (by omega)).trans (a2 (by omega))⟩

theorem Step.slots {g g1 : G} {S S1 : V.S} {w w1 : World} (h : Step g S w g1 S1 w1) (l l' : List (Nat × E)) : Step g { S with slots := l } w g1 { S1 with slots := l' } w1 := ⟨h.im, h.rg, h.bo⟩

theorem SlotsOk.step {g g' : G} {S S' : V.S} {nt : Nat} {a : Act} {w w' : World} (h : Step g S w g' S' w') (he : S'.slots = S.slots) (hs : SlotsOk g S nt a w) : SlotsOk g' S' nt a w' := by
  intro d e hd
  rw [he] at hd
  exact ⟨(hs d e hd).1, (hs d e hd).2.step h⟩

theorem SlotsOk.put {g : G} {S : V.S} {nt : Nat} {a : Act} {w : World} (hs : SlotsOk g S nt a w) (hz : a.tmps.size = nt) {d : Nat} (hd : d < nt) {v : Value} {e : E} (he : EOk w g S.boxes S.regs v e) :
    SlotsOk g { S with slots := V.put S.slots d e } nt (a.put (some d) v) w := by
  intro d' e' hd'
  simp only [get_put] at hd'
  split at hd'
  · rename_i h
    subst h
    cases hd'
    refine ⟨hd, ?_⟩
    have : (a.put (some d) v).tmps.getD d undef = v := by simp [Act.put, hz, hd]
    rw [this]
    exact he
  · rename_i h
    refine ⟨(hs d' e' hd').1, ?_⟩
    have : (a.put (some d) v).tmps.getD d' undef = a.tmps.getD d' undef := by
      simp [Act.put, Array.getElem?_setIfInBounds, h]
    rw [this]
    exact (hs d' e' hd').2

end Go.Proofs.YtppfojiogappaaaDoor.V

set_option linter.unusedVariables false

set_option linter.unusedSimpArgs false

namespace Go.Proofs.YtppfojiogappaaaDoor.V

open Go Classical

def memb : List Nat → Nat → Bool
  | [], _ => false
  | k :: r, a => if k = a then true else memb r a

def kill (l : List (Nat × Reg)) (ks : List Nat) : List (Nat × Reg) := l.map fun p => if memb ks p.1 then (p.1, { p.2 with live := false }) else p

theorem get_kill (l : List (Nat × Reg)) (ks : List Nat) (h : Nat) : get (kill l ks) h = (get l h).map fun r => if memb ks h then { r with live := false } else r := by
  induction l with
  | nil => rfl
  | cons p l ih =>
    obtain ⟨k, r⟩ := p
    simp only [kill, List.map_cons]
    by_cases hk : k = h
    · subst hk
      by_cases hm : memb ks k = true
      · simp [hm, get]
      · simp [hm, get]
    · have : get (kill l ks) h = (get l h).map fun r => if memb ks h then { r with live := false } else r := ih
      unfold kill at this
      by_cases hm : memb ks k = true
      · simp [hm, get, hk, this]
      · simp [hm, get, hk, this]

def G.release (g : G) (ks : List Nat) : G :=
  { g with ow := fun x => match g.ow x with
    | .reg k => if memb ks k then .none else .reg k
    | t => t }

theorem release_imm (g : G) (ks : List Nat) (x : Nat) : (g.release ks).ow x = .imm ↔ g.ow x = .imm := by
  unfold G.release
  cases h : g.ow x with
  | reg k => by_cases hm : memb ks k = true <;> simp [h, hm]
  | _ => simp [h]

theorem release_box (g : G) (ks : List Nat) (x b : Nat) : (g.release ks).ow x = .box b ↔ g.ow x = .box b := by
  unfold G.release
  cases h : g.ow x with
  | reg k => by_cases hm : memb ks k = true <;> simp [h, hm]
  | _ => simp [h]

theorem release_reg (g : G) (ks : List Nat) (x h : Nat) : (g.release ks).ow x = .reg h ↔ g.ow x = .reg h ∧ memb ks h = false := by
  unfold G.release
  cases e : g.ow x with
  | reg k =>
    by_cases hm : memb ks k = true
    · simp only [hm, e, if_true, Tag.reg.injEq]
      constructor
      · intro h; cases h
      · rintro ⟨rfl, h2⟩; rw [hm] at h2; cases h2
    · simp only [hm, e, Tag.reg.injEq]
      constructor
      · intro h1
        have : k = h := by simpa using h1
        subst this
        exact ⟨rfl, by simpa using hm⟩
      · rintro ⟨rfl, _⟩; simp
  | _ => simp [e]

theorem release_none (g : G) (ks : List Nat) (x : Nat) : (g.release ks).ow x = .none ↔ g.ow x = .none ∨ ∃ k, g.ow x = .reg k ∧ memb ks k = true := by
  unfold G.release
  cases e : g.ow x with
  | reg k => by_cases hm : memb ks k = true <;> simp [e, hm]
  | _ => simp [e]

theorem release_I (g : G) (ks : List Nat) : (g.release ks).I = g.I := by
  funext x
  exact propext (release_imm g ks x)

theorem Mem.change {w0 : World} {A : AA} {B : List (Nat × Nat × Nat)} {g : G} {S : V.S} {w w' : World} (hm : Mem w0 A B g S w) (ks : List Nat) (bs : Nat → Prop)
    (hx : Ext w0 A B w') (hsz : w.heap.size ≤ w'.heap.size)
    (hk : ∀ x, x < w.heap.size → (∀ k, memb ks k = true → g.ow x ≠ .reg k) → (∀ b, bs b → g.ow x ≠ .box b) → w'.heap[x]? = w.heap[x]?) :
    Step g S w (g.release ks) { S with regs := kill S.regs ks } w' ∧
      ((∀ b x, get S.boxes b = some x → bs b → BoxOk w0 B (g.release ks) (kill S.regs ks) w' b x.cells) → Mem w0 A B (g.release ks) { S with regs := kill S.regs ks } w') := by
  have hst : Step g S w (g.release ks) { S with regs := kill S.regs ks } w' := by
    refine ⟨fun x hi => ⟨(release_imm g ks x).2 hi, hk x (hm.lt x (by rw [hi]; simp)) (fun k _ => by rw [hi]; simp) (fun b _ => by rw [hi]; simp)⟩, fun h r hr => ?_, fun b x hb => ⟨x, hb, Nat.le_refl _, fun _ => rfl⟩⟩
    refine ⟨if memb ks h then { r with live := false } else r, by simp [get_kill, hr], ?_⟩
    by_cases hmb : memb ks h = true
    · simp [hmb]
    · rw [if_neg hmb]
      refine ⟨Nat.le_refl _, Nat.le_refl _, fun hl _ => ⟨hl, rfl, rfl, rfl⟩, fun hl _ => ⟨hl, rfl, fun x hx => ⟨(release_reg g ks x h).2 ⟨hx, by simpa using hmb⟩, ?_⟩⟩⟩
      refine hk x (hm.lt x (by rw [hx]; simp)) (fun k hkm e => ?_) (fun b _ => by rw [hx]; simp)
      rw [hx] at e
      cases e
      exact hmb hkm
  refine ⟨hst, fun hbs => ⟨hx, fun x hx' => ?_, fun x h hx' => hm.fr x h ((release_reg g ks x h).1 hx').1, fun h r hr hl => ?_, fun b x hb => ?_, fun x hx => hm.im x ((release_imm g ks x).1 hx), hm.pl.1, pr_step hst hm.pl.2 fun d r' _ hr' _ => by
    simp only [get_kill] at hr'
    cases h0 : get S.regs d with
    | none => rw [h0] at hr'; cases hr'
    | some r => exact ⟨r, rfl⟩⟩⟩
  · refine Nat.lt_of_lt_of_le (hm.lt x fun e => hx' ?_) hsz
    exact (release_none g ks x).2 (.inl e)
  · simp only [get_kill] at hr
    cases hr0 : get S.regs h with
    | none => rw [hr0] at hr; cases hr
    | some r0 =>
      rw [hr0] at hr
      simp only [Option.map_some, Option.some.injEq] at hr
      by_cases hmb : memb ks h = true
      · rw [if_pos hmb] at hr
        subst hr
        cases hl
      · rw [if_neg hmb] at hr
        subst hr
        have ho := hm.regs h _ hr0 hl
        refine ho.frame ?_ (fun x hx => (release_reg g ks x h).2 ⟨hx, by simpa using hmb⟩) ?_ ?_
        · intro x
          rw [release_I]
          exact id
        · intro x hx
          split at hx
          · exact hx.elim
          · exact (hst.im x hx).2
        · intro x hx
          have hx' : g.ow x = .reg h := hx
          refine hk x (hm.lt x (by rw [hx']; simp)) (fun k hkm e => ?_) (fun b _ => by rw [hx']; simp)
          rw [hx'] at e
          cases e
          exact hmb hkm
  · by_cases hb' : bs b
    · exact hbs b x hb hb'
    · have ho := hm.boxes b x hb
      refine BoxOk.step hst ho rfl ((release_box g ks _ b).2 ho.1) (hk _ (hm.lt _ (by rw [ho.1]; simp)) (fun k _ => by rw [ho.1]; simp) (fun c hc e => ?_))
      rw [ho.1] at e
      cases e
      exact hb' hc

noncomputable def G.adopt (g : G) (h : Nat) (F : Nat → Prop) (v : Value) : G :=
  { g with ow := fun x => if F x then .reg h else g.ow x, val := fun k => if k = h then v else g.val k }

theorem Mem.adopt {w0 : World} {A : AA} {B : List (Nat × Nat × Nat)} {g : G} {S : V.S} {w : World} (hm : Mem w0 A B g S w) (h : Nat) (R : Reg) (F : Nat → Prop) (v : Value)
    (hF : ∀ x, F x → g.ow x = .none ∧ x < w.heap.size ∧ (A x ∨ w0.heap.size ≤ x)) (hO : Own w (if R.pure then fun _ => False else g.I) F v (.sl true R.n R.es))
    (hnew : ∀ r, get S.regs h = some r → r.gen < R.gen ∧ r.iv < R.iv) (hpr : A.pr h → R.gen ≠ 0) :
    Step g S w (g.adopt h F v) { S with regs := put S.regs h R } w ∧ Mem w0 A B (g.adopt h F v) { S with regs := put S.regs h R } w := by
  have hI : (g.adopt h F v).I = g.I := by
    funext x
    show ((if F x then Tag.reg h else g.ow x) = .imm) = (g.ow x = .imm)
    by_cases hx : F x
    · simp [hx, (hF x hx).1]
    · simp [hx]
  have hst : Step g S w (g.adopt h F v) { S with regs := put S.regs h R } w := by
    refine ⟨fun x hi => ⟨?_, rfl⟩, fun k r hr => ?_, fun b x hb => ⟨x, hb, Nat.le_refl _, fun _ => rfl⟩⟩
    · have : (g.adopt h F v).I x := by rw [hI]; exact hi
      exact this
    · by_cases hkh : h = k
      · subst hkh
        have := hnew r hr
        refine ⟨R, get_put_same _ _ _, by omega, by omega, fun _ e => by omega, fun _ e => by omega⟩
      · refine ⟨r, by simp [get_put_ne _ _ hkh, hr], Nat.le_refl _, Nat.le_refl _, fun hl _ => ⟨hl, ?_, rfl, rfl⟩, fun hl _ => ⟨hl, rfl, fun x hx => ⟨?_, rfl⟩⟩⟩
        · show (if k = h then v else g.val k) = g.val k
          rw [if_neg (Ne.symm hkh)]
        · show (if F x then Tag.reg h else g.ow x) = .reg k
          rw [if_neg (fun hf => by rw [(hF x hf).1] at hx; cases hx)]
          exact hx
  refine ⟨hst, hm.ext, fun x hx => ?_, fun x k hx => ?_, fun k r hr hl => ?_, fun b x hb => ?_, fun x hx => hm.im x (by have h9 : (g.adopt h F v).I x := hx; rw [hI] at h9; exact h9), hm.pl.1, pr_step hst hm.pl.2 fun d r' hd hr' hg => by
    simp only [get_put] at hr'
    split at hr'
    · rename_i e
      subst e
      cases hr'
      exact absurd hg (hpr hd)
    · exact ⟨r', hr'⟩⟩
  · by_cases hf : F x
    · exact (hF x hf).2.1
    · refine hm.lt x fun e => hx ?_
      show (if F x then Tag.reg h else g.ow x) = .none
      rw [if_neg hf, e]
  · by_cases hf : F x
    · exact (hF x hf).2.2
    · have hx' : (if F x then Tag.reg h else g.ow x) = .reg k := hx
      rw [if_neg hf] at hx'
      exact hm.fr x k hx'
  · rw [hI]
    simp only [get_put] at hr
    by_cases hkh : h = k
    · subst hkh
      simp only [if_true, Option.some.injEq] at hr
      subst hr
      have : (g.adopt h F v).val h = v := by simp [G.adopt]
      rw [this]
      exact hO.frame (fun _ hb => hb) (fun x hx => by show (if F x then Tag.reg h else g.ow x) = .reg h; rw [if_pos hx]) (fun _ _ => rfl) (fun _ _ => rfl)
    · rw [if_neg hkh] at hr
      have : (g.adopt h F v).val k = g.val k := by simp [G.adopt, Ne.symm hkh]
      rw [this]
      refine (hm.regs k r hr hl).frame (fun _ hb => hb) (fun x hx => ?_) (fun _ _ => rfl) (fun _ _ => rfl)
      show (if F x then Tag.reg h else g.ow x) = .reg k
      have hx' : g.ow x = .reg k := hx
      rw [if_neg (fun hf => by rw [(hF x hf).1] at hx'; cases hx')]
      exact hx'
  · have ho := hm.boxes b x hb
    refine BoxOk.step hst ho rfl ?_ rfl
    show (if F (g.loc b).1 then Tag.reg h else g.ow (g.loc b).1) = .box b
    rw [if_neg (fun hf => by have := ho.1; rw [(hF _ hf).1] at this; cases this)]
    exact ho.1

theorem Ext.same {w0 : World} {A : AA} {B : List (Nat × Nat × Nat)} {w w' : World} (h : Ext w0 A B w) (h1 : w'.os = w.os) (h2 : w'.tape = w.tape) (h3 : w'.output = w.output)
    (h4 : w.heap.size ≤ w'.heap.size) (h5 : ∀ x, x < w0.heap.size → ¬ A x → w'.heap[x]? = w.heap[x]?) : Ext w0 A B w' := by
  refine ⟨h1.trans h.os, h2.trans h.tape, h3.trans h.output, Nat.le_trans h.size h4, fun b hb hA hB => (h5 b hb hA).trans (h.keep b hb hA hB), fun p hp hA cs e fr hc => ?_⟩
  obtain ⟨cs', hc', h6, h7⟩ := h.rng p hp hA cs e fr hc
  exact ⟨cs', (h5 _ (Array.getElem?_eq_some_iff.1 hc).1 hA).trans hc', h6, h7⟩

theorem heap_alloc_lt (w : World) (o : Obj) (x : Nat) (h : x < w.heap.size) : (w.alloc o).heap[x]? = w.heap[x]? := heap_alloc_old w o x h

theorem Ext.alloc {w0 : World} {A : AA} {B : List (Nat × Nat × Nat)} {w : World} (h : Ext w0 A B w) (o : Obj) : Ext w0 A B (w.alloc o) :=
  h.same rfl rfl rfl (by simp) fun x hx _ => heap_alloc_lt w o x (Nat.lt_of_lt_of_le hx h.size)

def boxGen (l : List (Nat × Box)) (b : Nat) : Nat := match get l b with | some x => x.gen + 1 | none => 0

def G.newBox (g : G) (b k : Nat) : G := { g with ow := fun x => if x = k then .box b else g.ow x, loc := fun c => if c = b then (k, 0) else g.loc c }

theorem Mem.newBox {w0 : World} {A : AA} {B : List (Nat × Nat × Nat)} {g : G} {S : V.S} {w : World} (hm : Mem w0 A B g S w) (b : Nat) (us : Array Value) (e : TypeId) (xs : List X)
    (hc : CellsOk w g S.regs us xs) (h1 : ∀ (j : Nat) (u : Value), us[j]? = some u → u.oneCell' = true) :
    Step g S w (g.newBox b w.heap.size) { S with boxes := put S.boxes b ⟨boxGen S.boxes b, xs⟩ } (w.alloc (.cells us e)) ∧
      Mem w0 A B (g.newBox b w.heap.size) { S with boxes := put S.boxes b ⟨boxGen S.boxes b, xs⟩ } (w.alloc (.cells us e)) := by
  have hn : ∀ x, g.ow x ≠ .none → x ≠ w.heap.size := fun x hx e => by have := hm.lt x hx; omega
  have how : ∀ x, g.ow x ≠ .none → (g.newBox b w.heap.size).ow x = g.ow x := fun x hx => by simp [G.newBox, hn x hx]
  have how' : ∀ x, (g.newBox b w.heap.size).ow x ≠ g.ow x → x = w.heap.size := fun x hx => by
    by_cases h : x = w.heap.size
    · exact h
    · simp [G.newBox, h] at hx
  have hst : Step g S w (g.newBox b w.heap.size) { S with boxes := put S.boxes b ⟨boxGen S.boxes b, xs⟩ } (w.alloc (.cells us e)) := by
    refine ⟨fun x hi => ⟨(how x (by rw [hi]; simp)).trans hi, heap_alloc_lt w _ x (hm.lt x (by rw [hi]; simp))⟩, fun h r hr => ?_, fun c x hb => ?_⟩
    · exact ⟨r, hr, Nat.le_refl _, Nat.le_refl _, fun hl _ => ⟨hl, rfl, rfl, rfl⟩, fun hl _ => ⟨hl, rfl, fun x hx => ⟨(how x (by rw [hx]; simp)).trans hx, heap_alloc_lt w _ x (hm.lt x (by rw [hx]; simp))⟩⟩⟩
    · by_cases h : b = c
      · subst h
        refine ⟨_, get_put_same _ _ _, ?_, ?_⟩ <;> simp [boxGen, hb]
      · exact ⟨x, by simp [get_put_ne _ _ h, hb], Nat.le_refl _, fun _ => by simp [G.newBox, Ne.symm h]⟩
  have hI : (g.newBox b w.heap.size).I = g.I := by
    funext x
    by_cases hx : x = w.heap.size
    · have : g.ow x = .none := by
        by_cases h : g.ow x = .none
        · exact h
        · exact absurd hx (hn x h)
      simp [G.I, G.newBox, hx]
      subst hx
      rw [this]; simp
    · simp [G.I, G.newBox, hx]
  refine ⟨hst, hm.ext.alloc _, fun x hx => ?_, fun x h hx => ?_, fun h r hr hl => ?_, fun c x hb => ?_, fun x hx => hm.im x (by have h9 : (g.newBox b w.heap.size).I x := hx; rw [hI] at h9; exact h9), ⟨fun c hc => by
    obtain ⟨hbig, x, hx, hg⟩ := hm.pl.1 c hc
    refine ⟨hbig, ?_⟩
    by_cases h : b = c
    · subst h
      exact ⟨_, get_put_same _ _ _, fun e => by simp [boxGen, hx] at e⟩
    · exact ⟨x, by simp [get_put_ne _ _ h, hx], fun e => by simp [G.newBox, Ne.symm h, hg e]⟩, pr_step hst hm.pl.2 fun d r' _ hr' _ => ⟨r', hr'⟩⟩⟩
  · by_cases h : x = w.heap.size
    · subst h; simp
    · simp only [G.newBox, h, if_false] at hx
      have := hm.lt x hx
      simp; omega
  · by_cases h' : x = w.heap.size
    · simp [G.newBox, h'] at hx
    · simp only [G.newBox, h', if_false] at hx
      exact hm.fr x h hx
  · rw [hI]
    refine (hm.regs h r hr hl).frame (fun _ hb => hb) (fun x hx => ?_) (fun x hx => ?_) (fun x hx => ?_)
    · have hx' : g.ow x = .reg h := hx
      exact (how x (by rw [hx']; simp)).trans hx'
    · split at hx
      · exact hx.elim
      · have hx' : g.ow x = .imm := hx
        exact heap_alloc_lt w _ x (hm.lt x (by rw [hx']; simp))
    · have hx' : g.ow x = .reg h := hx
      exact heap_alloc_lt w _ x (hm.lt x (by rw [hx']; simp))
  · simp only [get_put] at hb
    by_cases h : b = c
    · subst h
      simp only [if_true, Option.some.injEq] at hb
      subst hb
      have hl : (g.newBox b w.heap.size).loc b = (w.heap.size, 0) := by simp [G.newBox]
      unfold BoxOk
      rw [hl]
      refine ⟨by simp [G.newBox], .inl hm.ext.size, us, e, heap_alloc_new w _, by simp [hc.1], fun j y hj => ?_⟩
      obtain ⟨u, hu, ho⟩ := hc.2 j y hj
      exact ⟨u, by simpa using hu, h1 j u hu, ho.step hst⟩
    · rw [if_neg h] at hb
      have ho := hm.boxes c x hb
      exact BoxOk.step hst ho (by simp [G.newBox, Ne.symm h]) ((how _ (by rw [ho.1]; simp)).trans ho.1) (heap_alloc_lt w _ _ (hm.lt _ (by rw [ho.1]; simp)))

def G.takeBox (g : G) (b : Nat) (p : Nat × Nat) : G := { g with ow := fun x => if x = p.1 then .box b else g.ow x, loc := fun c => if c = b then p else g.loc c }

theorem Mem.adoptBox {w0 : World} {A : AA} {B : List (Nat × Nat × Nat)} {g : G} {S : V.S} {w : World} (hm : Mem w0 A B g S w) (b : Nat) (p : Nat × Nat) (xs : List X) (hp0 : g.ow p.1 = .none) (hp1 : p.1 < w.heap.size) (hp2 : w0.heap.size ≤ p.1)
    (hrow : ∃ cs e, w.heap[p.1]? = some (.cells cs e (0, 0)) ∧ p.2 + xs.length ≤ cs.size ∧ ∀ (j : Nat) (y : X), xs[j]? = some y → ∃ u, cs[p.2 + j]? = some u ∧ u.oneCell' = true ∧ XOk w g S.regs u y) :
    Step g S w (g.takeBox b p) { S with boxes := put S.boxes b ⟨boxGen S.boxes b, xs⟩ } w ∧ Mem w0 A B (g.takeBox b p) { S with boxes := put S.boxes b ⟨boxGen S.boxes b, xs⟩ } w := by
  have hn : ∀ x, g.ow x ≠ .none → x ≠ p.1 := fun x hx e => by rw [e] at hx; exact hx hp0
  have how : ∀ x, g.ow x ≠ .none → (g.takeBox b p).ow x = g.ow x := fun x hx => by simp [G.takeBox, hn x hx]
  have hst : Step g S w (g.takeBox b p) { S with boxes := put S.boxes b ⟨boxGen S.boxes b, xs⟩ } w := by
    refine ⟨fun x hi => ⟨(how x (by rw [hi]; simp)).trans hi, rfl⟩, fun h r hr => ?_, fun c x hb => ?_⟩
    · exact ⟨r, hr, Nat.le_refl _, Nat.le_refl _, fun hl _ => ⟨hl, rfl, rfl, rfl⟩, fun hl _ => ⟨hl, rfl, fun x hx => ⟨(how x (by rw [hx]; simp)).trans hx, rfl⟩⟩⟩
    · by_cases h : b = c
      · subst h
        refine ⟨_, get_put_same _ _ _, ?_, ?_⟩ <;> simp [boxGen, hb]
      · exact ⟨x, by simp [get_put_ne _ _ h, hb], Nat.le_refl _, fun _ => by simp [G.takeBox, Ne.symm h]⟩
  have hI : (g.takeBox b p).I = g.I := by
    funext x
    by_cases hx : x = p.1
    · simp [G.I, G.takeBox, hx]
      rw [hp0]; simp
    · simp [G.I, G.takeBox, hx]
  refine ⟨hst, hm.ext, fun x hx => ?_, fun x h hx => ?_, fun h r hr hl => ?_, fun c x hb => ?_, fun x hx => hm.im x (by have h9 : (g.takeBox b p).I x := hx; rw [hI] at h9; exact h9), ⟨fun c hc => by
    obtain ⟨hbig, x, hx, hg⟩ := hm.pl.1 c hc
    refine ⟨hbig, ?_⟩
    by_cases h : b = c
    · subst h
      exact ⟨_, get_put_same _ _ _, fun e => by simp [boxGen, hx] at e⟩
    · exact ⟨x, by simp [get_put_ne _ _ h, hx], fun e => by simp [G.takeBox, Ne.symm h, hg e]⟩, pr_step hst hm.pl.2 fun d r' _ hr' _ => ⟨r', hr'⟩⟩⟩
  · by_cases h : x = p.1
    · subst h; exact hp1
    · simp only [G.takeBox, h, if_false] at hx
      exact hm.lt x hx
  · by_cases h' : x = p.1
    · simp [G.takeBox, h'] at hx
    · simp only [G.takeBox, h', if_false] at hx
      exact hm.fr x h hx
  · rw [hI]
    refine (hm.regs h r hr hl).frame (fun _ hb => hb) (fun x hx => ?_) (fun _ _ => rfl) (fun _ _ => rfl)
    have hx' : g.ow x = .reg h := hx
    exact (how x (by rw [hx']; simp)).trans hx'
  · simp only [get_put] at hb
    by_cases h : b = c
    · subst h
      simp only [if_true, Option.some.injEq] at hb
      subst hb
      have hl : (g.takeBox b p).loc b = p := by simp [G.takeBox]
      unfold BoxOk
      rw [hl]
      obtain ⟨cs, e, h1, h2, h3⟩ := hrow
      refine ⟨by simp [G.takeBox], .inl hp2, cs, e, h1, h2, fun j y hj => ?_⟩
      obtain ⟨u, hu, h4, ho⟩ := h3 j y hj
      exact ⟨u, hu, h4, ho.step hst⟩
    · rw [if_neg h] at hb
      have ho := hm.boxes c x hb
      exact BoxOk.step hst ho (by simp [G.takeBox, Ne.symm h]) ((how _ (by rw [ho.1]; simp)).trans ho.1) rfl

theorem Mem.setBox {w0 : World} {A : AA} {B : List (Nat × Nat × Nat)} {g : G} {S : V.S} {w w' : World} (hm : Mem w0 A B g S w) (b : Nat) (bx : Box) (hb : get S.boxes b = some bx)
    (cs cs' : Array Value) (e : TypeId) (hcs : w.heap[(g.loc b).1]? = some (.cells cs e (0, 0))) (hcs' : w'.heap[(g.loc b).1]? = some (.cells cs' e (0, 0))) (hsz : cs'.size = cs.size)
    (hrest : ∀ k, (k < (g.loc b).2 ∨ (g.loc b).2 + bx.cells.length ≤ k) → cs'[k]? = cs[k]?)
    (hoth : ∀ x, x ≠ (g.loc b).1 → w'.heap[x]? = w.heap[x]?) (ho : w'.os = w.os) (ht : w'.tape = w.tape) (hout : w'.output = w.output) (hhs : w'.heap.size = w.heap.size)
    (xs' : List X) (hlen : xs'.length = bx.cells.length)
    (hin : ∀ (j : Nat) (y : X), xs'[j]? = some y → ∃ u, cs'[(g.loc b).2 + j]? = some u ∧ u.oneCell' = true ∧ XOk w g S.regs u y) :
    Step g S w g { S with boxes := put S.boxes b { bx with cells := xs' } } w' ∧ Mem w0 A B g { S with boxes := put S.boxes b { bx with cells := xs' } } w' := by
  have hbk := hm.boxes b bx hb
  have hst : Step g S w g { S with boxes := put S.boxes b { bx with cells := xs' } } w' := by
    refine ⟨fun x hi => ⟨hi, hoth x fun e => ?_⟩, fun h r hr => ⟨r, hr, Nat.le_refl _, Nat.le_refl _, fun hl _ => ⟨hl, rfl, rfl, rfl⟩, fun hl _ => ⟨hl, rfl, fun x hx => ⟨hx, hoth x fun e => ?_⟩⟩⟩, fun c x hc => ?_⟩
    · rw [e, hbk.1] at hi; cases hi
    · rw [e, hbk.1] at hx; cases hx
    · by_cases h : b = c
      · subst h
        rw [hb] at hc
        cases hc
        exact ⟨_, get_put_same _ _ _, Nat.le_refl _, fun _ => rfl⟩
      · exact ⟨x, by simp [get_put_ne _ _ h, hc], Nat.le_refl _, fun _ => rfl⟩
  refine ⟨hst, ?_, fun x hx => by rw [hhs]; exact hm.lt x hx, hm.fr, fun h r hr hl => ?_, fun c x hc => ?_, hm.im, ⟨fun c hc => by
    obtain ⟨hbig, x, hx, hg⟩ := hm.pl.1 c hc
    refine ⟨hbig, ?_⟩
    by_cases h : b = c
    · subst h
      rw [hb] at hx
      cases hx
      exact ⟨_, get_put_same _ _ _, hg⟩
    · exact ⟨x, by simp [get_put_ne _ _ h, hx], hg⟩, pr_step hst hm.pl.2 fun d r' _ hr' _ => ⟨r', hr'⟩⟩⟩
  · refine ⟨ho.trans hm.ext.os, ht.trans hm.ext.tape, hout.trans hm.ext.output, by rw [hhs]; exact hm.ext.size, fun x hx hA hB => ?_, fun p hp hA cs0 e0 fr0 hc0 => ?_⟩
    · rw [hoth x fun e => ?_]
      · exact hm.ext.keep x hx hA hB
      · rcases hbk.2.1 with h | h
        · omega
        · exact hB _ h e.symm
    · obtain ⟨cs1, h1, h2, h3⟩ := hm.ext.rng p hp hA cs0 e0 fr0 hc0
      by_cases hpe : p.1 = (g.loc b).1
      · rw [hpe] at h1
        rw [hcs] at h1
        cases h1
        refine ⟨cs', by rw [hpe]; exact hcs', hsz.trans h2, fun k hk => ?_⟩
        rw [hrest k ?_]
        · exact h3 k hk
        · rcases hbk.2.1 with h | h
          · have := (Array.getElem?_eq_some_iff.1 hc0).1
            omega
          · exact hk _ h hpe.symm
      · exact ⟨cs1, by rw [hoth _ hpe]; exact h1, h2, h3⟩
  · refine (hm.regs h r hr hl).frame (fun _ hb => hb) (fun _ hb => hb) (fun x hx => hoth x fun e => ?_) (fun x hx => hoth x fun e => ?_)
    · split at hx
      · exact hx.elim
      · have hx' : g.ow x = .imm := hx
        rw [e, hbk.1] at hx'; cases hx'
    · have hx' : g.ow x = .reg h := hx
      rw [e, hbk.1] at hx'; cases hx'
  · simp only [get_put] at hc
    by_cases h : b = c
    · subst h
      simp only [if_true, Option.some.injEq] at hc
      subst hc
      obtain ⟨q1, q2, cs1, e1, q3, q4, q5⟩ := hbk
      rw [hcs] at q3
      cases q3
      refine ⟨q1, by simpa [hlen] using q2, cs', e, hcs', by simp only [hlen]; omega, fun j y hj => ?_⟩
      obtain ⟨u, hu, h1, hx⟩ := hin j y hj
      exact ⟨u, hu, h1, hx.step hst⟩
    · rw [if_neg h] at hc
      have hk := hm.boxes c x hc
      refine BoxOk.step hst hk rfl hk.1 (hoth _ fun e => ?_)
      have := hk.1
      rw [e, hbk.1] at this
      cases this
      exact h rfl

noncomputable def G.merge (g : G) (ks : List Nat) (h : Nat) : G :=
  { g with ow := fun x => match g.ow x with
    | .reg k => if memb ks k then .reg h else .reg k
    | t => t }

theorem merge_ne {g : G} {ks : List Nat} {h x : Nat} (hx : ∀ k, g.ow x ≠ .reg k) : (g.merge ks h).ow x = g.ow x := by
  unfold G.merge
  cases e : g.ow x with
  | reg k => exact absurd e (hx k)
  | _ => simp [e]

theorem merge_reg {g : G} {ks : List Nat} {h x k : Nat} (hk : g.ow x = .reg k) : (g.merge ks h).ow x = if memb ks k then .reg h else .reg k := by
  unfold G.merge
  simp [hk]

theorem Mem.setEl {w0 : World} {A : AA} {B : List (Nat × Nat × Nat)} {g : G} {S : V.S} {w w' : World} (hm : Mem w0 A B g S w) (h : Nat) (r : Reg) (hr : get S.regs h = some r) (hl : r.live = true)
    (ks : List Nat) (hks : memb ks h = false) (es' : List (List C)) (p' : Bool) (hlen : es'.length = r.es.length)
    (hoth : ∀ x, g.ow x ≠ .reg h → w'.heap[x]? = w.heap[x]?) (ho : w'.os = w.os) (ht : w'.tape = w.tape) (hout : w'.output = w.output) (hhs : w'.heap.size = w.heap.size)
    (hO : Own w' (if p' then fun _ => False else g.I) (g.merge ks h |>.F h) (g.val h) (.sl true r.n es')) :
    Step g S w (g.merge ks h) { S with regs := put (kill S.regs ks) h { r with iv := r.iv + 1, es := es', pure := p' } } w' ∧
      Mem w0 A B (g.merge ks h) { S with regs := put (kill S.regs ks) h { r with iv := r.iv + 1, es := es', pure := p' } } w' := by
  have himm : ∀ x, g.ow x = .imm → (g.merge ks h).ow x = .imm := fun x hi => by rw [merge_ne (fun k => by rw [hi]; simp)]; exact hi
  have hI : (g.merge ks h).I = g.I := by
    funext x
    apply propext
    constructor
    · intro hx
      have hx' : (g.merge ks h).ow x = .imm := hx
      show g.ow x = .imm
      cases e : g.ow x with
      | reg k =>
        rw [merge_reg e] at hx'
        split at hx' <;> cases hx'
      | imm => rfl
      | none => rw [merge_ne (fun k => by rw [e]; simp), e] at hx'; cases hx'
      | box b => rw [merge_ne (fun k => by rw [e]; simp), e] at hx'; cases hx'
    · exact himm x
  have hst : Step g S w (g.merge ks h) { S with regs := put (kill S.regs ks) h { r with iv := r.iv + 1, es := es', pure := p' } } w' := by
    refine ⟨fun x hi => ⟨himm x hi, hoth x (by rw [hi]; simp)⟩, fun k r0 hr0 => ?_, fun c x hc => ⟨x, hc, Nat.le_refl _, fun _ => rfl⟩⟩
    by_cases hkh : h = k
    · subst hkh
      rw [hr] at hr0
      cases hr0
      exact ⟨_, get_put_same _ _ _, Nat.le_refl _, by simp, fun _ _ => ⟨hl, rfl, rfl, hlen⟩, fun _ e => by simp at e⟩
    · refine ⟨if memb ks k then { r0 with live := false } else r0, by simp [get_put_ne _ _ hkh, get_kill, hr0], ?_⟩
      by_cases hmb : memb ks k = true
      · simp [hmb]
      · rw [if_neg hmb]
        refine ⟨Nat.le_refl _, Nat.le_refl _, fun hl _ => ⟨hl, rfl, rfl, rfl⟩, fun hl _ => ⟨hl, rfl, fun x hx => ⟨?_, hoth x ?_⟩⟩⟩
        · rw [merge_reg hx, if_neg hmb]
        · rw [hx]; intro e; cases e; exact hkh rfl
  refine ⟨hst, ?_, fun x hx => ?_, fun x k hx => ?_, fun k r0 hr0 hl0 => ?_, fun c x hc => ?_, fun x hx => hm.im x (by have h9 : (g.merge ks h).I x := hx; rw [hI] at h9; exact h9), hm.pl.1, pr_step hst hm.pl.2 fun d r' _ hr' _ => by
    simp only [get_put, get_kill] at hr'
    split at hr'
    · rename_i e
      subst e
      exact ⟨r, hr⟩
    · cases h0 : get S.regs d with
      | none => rw [h0] at hr'; cases hr'
      | some r => exact ⟨r, rfl⟩⟩
  · refine hm.ext.same ho ht hout (by omega) fun x hx hA => hoth x fun e => ?_
    rcases hm.fr x h e with h1 | h1
    · exact hA h1
    · omega
  · rw [hhs]
    refine hm.lt x fun e => hx ?_
    rw [merge_ne (fun k => by rw [e]; simp)]
    exact e
  · cases e : g.ow x with
    | reg k0 => exact hm.fr x k0 e
    | _ => rw [merge_ne (fun k => by rw [e]; simp), e] at hx; first | done | cases hx
  · rw [hI]
    simp only [get_put] at hr0
    by_cases hkh : h = k
    · subst hkh
      simp only [if_true, Option.some.injEq] at hr0
      subst hr0
      exact hO
    · rw [if_neg hkh, get_kill] at hr0
      cases hr1 : get S.regs k with
      | none => rw [hr1] at hr0; cases hr0
      | some r1 =>
        rw [hr1] at hr0
        simp only [Option.map_some, Option.some.injEq] at hr0
        by_cases hmb : memb ks k = true
        · rw [if_pos hmb] at hr0; subst hr0; cases hl0
        · rw [if_neg hmb] at hr0
          subst hr0
          refine (hm.regs k _ hr1 hl0).frame (fun _ hb => hb) (fun x hx => ?_) (fun x hx => ?_) (fun x hx => ?_)
          · have hx' : g.ow x = .reg k := hx
            show (g.merge ks h).ow x = .reg k
            rw [merge_reg hx', if_neg hmb]
          · split at hx
            · exact hx.elim
            · have hx' : g.ow x = .imm := hx
              exact hoth x (by rw [hx']; simp)
          · have hx' : g.ow x = .reg k := hx
            exact hoth x (by rw [hx']; intro e; cases e; exact hkh rfl)
  · have hk := hm.boxes c x hc
    exact BoxOk.step hst hk rfl (by rw [merge_ne (fun k => by rw [hk.1]; simp)]; exact hk.1) (hoth _ (by rw [hk.1]; simp))

end Go.Proofs.YtppfojiogappaaaDoor.V

set_option linter.unusedVariables false

set_option linter.unusedSimpArgs false

namespace Go.Proofs.YtppfojiogappaaaDoor.V

open Go Classical

inductive K where
  | int (k : IntKind)
  | bool
  | str
  | slice (e : Nat)
  | struct (fs : List (Nat × Nat))
  | ptr (e : Nat)
  | other

structure TD where
  kind : K
  size : Nat
  bytes : Nat
  zero : List X

def X.v0 : X → Value
  | .sc v => v
  | _ => .slice none 0 0

def X.isZ : X → Bool
  | .sc v => v.oneCell'
  | .nil _ => true
  | _ => false

def KOk (P : Program) (t : Nat) : K → Prop
  | .int k => P.underlying t = some (.int k)
  | .bool => P.underlying t = some .bool
  | .str => P.underlying t = some .string
  | .slice e => P.underlying t = some (.slice e)
  | .struct fs => ∃ arr, P.underlying t = some (.struct arr) ∧ arr.toList.map (fun f => (f.offset, f.type)) = fs
  | .ptr e => P.underlying t = some (.pointer e)
  | .other => True

structure TyOk (P : Program) (t : Nat) (d : TD) : Prop where
  kind : KOk P t d.kind
  info : ∃ i z, P.info? t = some i ∧ i.size = d.size ∧ i.bytes = d.bytes ∧ i.zero = some z ∧ z.cells.toList = d.zero.map X.v0
  zlen : d.zero.length = d.size
  zone : d.zero.all X.isZ = true

def isAggK : K → Bool
  | .struct _ => true
  | _ => false

def aggOf (d : TD) : Bool := isAggK d.kind

def br (b : Bool) (x y : Prop) : Prop :=
  match b with
  | true => x
  | false => y

theorem br_t (x y : Prop) : br true x y = x := rfl

theorem br_f (x y : Prop) : br false x y = y := rfl

theorem br_true {x y : Prop} (h : x) : br true x y := h

theorem br_false {x y : Prop} (h : y) : br false x y := h

theorem br_if {b : Bool} {x y : Prop} (h1 : b = true → x) (h2 : b = false → y) : br b x y := by
  cases b
  · exact br_false (h2 rfl)
  · exact br_true (h1 rfl)

def S.ev (s : S) : Operand → Option E
  | .tmp t => get s.slots t
  | .const (.slice none 0 0) => some (.vals false [.nil 0])
  | .const v => some (.vals false [.sc v])
  | .func f => some (.vals false [.sc (.func (.func f) #[] #[])])
  | .global _ => none

theorem ev_ok {s : S} {g : G} {nt : Nat} {a : Act} {w : World} (hs : SlotsOk g s nt a w) {x : Operand} {e : E} (h : s.ev x = some e) : EOk w g s.boxes s.regs (a.eval x) e := by
  cases x with
  | tmp t => exact (hs t e h).2
  | const v =>
    unfold S.ev at h
    split at h
    · rename_i h2; cases h2
    · rename_i h2
      cases h2
      cases h
      exact ⟨_, rfl, rfl⟩
    · rename_i h2
      cases h2
      cases h
      exact ⟨_, rfl, rfl⟩
    · rename_i h2; cases h2
    · rename_i h2; cases h2
  | global _ => cases h
  | func f => cases h; exact ⟨_, rfl, rfl⟩

def putK (nt : Nat) (o : Oper) (s : S) (e : E) (k : S → Prop) : Prop :=
  match o.dst with
  | some d => if d < nt then k { s with slots := put s.slots d e } else False
  | none => False

section

variable {P : Program} {w0 : World} {A : AA} {B : List (Nat × Nat × Nat)} {nt : Nat}

def Sound (P : Program) (w0 : World) (A : AA) (B : List (Nat × Nat × Nat)) (nt : Nat) (o : Oper) (W : S → (S → Prop) → Prop) : Prop :=
  ∀ (s : S) (a : Act) (w : World) (k : S → Prop) (next : Act → World → Prop) (Q : Exit → Act → World → Prop), Real w0 A B nt s a w → W s k →
    (∀ s' a' w', Real w0 A B nt s' a' w' → k s' → next a' w') → o.wp P a w next Q

theorem finish {o : Oper} {s s' : S} {a : Act} {w w' : World} {g g' : G} {k : S → Prop} {next : Act → World → Prop} {Q : Exit → Act → World → Prop} {v : Value} {e : E}
    (hdf : a.defers = []) (hsz : a.tmps.size = nt) (hs : SlotsOk g s nt a w) (hst : Step g s w g' s' w') (hm : Mem w0 A B g' s' w') (hsl : s'.slots = s.slots)
    (hrun : (execOp a.eval o).run P w = .ok (.value v) w') (he : EOk w' g' s'.boxes s'.regs v e) (hK : putK nt o s' e k)
    (hn : ∀ s' a' w', Real w0 A B nt s' a' w' → k s' → next a' w') : o.wp P a w next Q := by
  unfold Oper.wp
  rw [hrun]
  show next (a.put o.dst v) w'
  unfold putK at hK
  cases hd : o.dst with
  | none => rw [hd] at hK; exact hK.elim
  | some d =>
    rw [hd] at hK
    simp only at hK
    split at hK
    · rename_i hlt
      refine hn _ _ _ ⟨?_, ?_, g', ?_, (hs.step hst hsl).put hsz hlt he⟩ hK
      · simp [Act.put, hdf]
      · simp [Act.put, hsz]
      · exact ⟨hm.ext, hm.lt, hm.fr, hm.regs, hm.boxes, hm.im, hm.pl⟩
    · exact hK.elim

theorem finish0 {o : Oper} {s s' : S} {a : Act} {w w' : World} {g g' : G} {k : S → Prop} {next : Act → World → Prop} {Q : Exit → Act → World → Prop}
    (hdf : a.defers = []) (hsz : a.tmps.size = nt) (hs : SlotsOk g s nt a w) (hst : Step g s w g' s' w') (hm : Mem w0 A B g' s' w') (hsl : s'.slots = s.slots)
    (hrun : (execOp a.eval o).run P w = .ok .skip w') (hd : o.dst = none) (hK : k s')
    (hn : ∀ s' a' w', Real w0 A B nt s' a' w' → k s' → next a' w') : o.wp P a w next Q := by
  unfold Oper.wp
  rw [hrun]
  show next (a.put o.dst undef) w'
  rw [hd]
  exact hn _ _ _ ⟨hdf, hsz, g', hm, hs.step hst hsl⟩ hK

def moveW (τ : Nat → Option TD) (nt : Nat) (o : Oper) (x : Operand) (s : S) (k : S → Prop) : Prop :=
  match s.ev x with
  | some (.vals false [.nil _]) => (match τ o.type with
    | some { kind := .slice e, .. } => (match τ e with
      | some d => putK nt o s (.vals false [.nil d.size]) k
      | none => False)
    | _ => putK nt o s (.vals false [.nil 0]) k)
  | some e => putK nt o s e k
  | none => False

theorem move_sound (τ : Nat → Option TD) (o : Oper) (x : Operand) (ho : o.op = .move x ∨ o.op = .assign x) : Sound P w0 A B nt o (moveW τ nt o x) := by
  intro s a w k next Q hr hW hn
  obtain ⟨hdf, hsz, g, hm, hs⟩ := hr
  have hrun : (execOp a.eval o).run P w = .ok (.value (a.eval x)) w := by
    rcases ho with ho | ho <;> simp [execOp, ho]
  have fin : ∀ e, EOk w g s.boxes s.regs (a.eval x) e → putK nt o s e k → o.wp P a w next Q := fun e he hK =>
    finish hdf hsz hs (Step.refl g s w) hm rfl hrun he hK hn
  unfold moveW at hW
  split at hW
  · rename_i n h
    have he := ev_ok hs h
    obtain ⟨x', hx', hv⟩ := he
    cases hx'
    have hn0 : ∀ n, EOk w g s.boxes s.regs (a.eval x) (.vals false [.nil n]) := fun n => ⟨_, rfl, hv⟩
    split at hW
    · split at hW
      · exact fin _ (hn0 _) hW
      · exact hW.elim
    · exact fin _ (hn0 _) hW
  · rename_i e _ h
    exact fin e (ev_ok hs h) hW
  · exact hW.elim

def pickW (nt : Nat) (o : Oper) (c x y : Operand) (s : S) (k : S → Prop) : Prop :=
  match s.ev c with
  | some (.vals false [.sc (.bool t)]) => br t (match s.ev x with | some e => putK nt o s e k | none => False) (match s.ev y with | some e => putK nt o s e k | none => False)
  | _ => False

theorem pick_sound (o : Oper) (c x y : Operand) (ho : o.op = .pick c x y) : Sound P w0 A B nt o (pickW nt o c x y) := by
  intro s a w k next Q hr hW hn
  obtain ⟨hdf, hsz, g, hm, hs⟩ := hr
  unfold pickW at hW
  split at hW
  · rename_i t h
    obtain ⟨x', hx', hv⟩ := ev_ok hs h
    cases hx'
    have hv' : a.eval c = .bool t := hv
    have hrun : (execOp a.eval o).run P w = .ok (.value (if t then a.eval x else a.eval y)) w := by simp [execOp, ho, hv', asBool]
    cases t with
    | true =>
      have hW' : (match s.ev x with | some e => putK nt o s e k | none => False) := by rw [br_t] at hW; exact hW
      split at hW'
      · rename_i e h
        exact finish hdf hsz hs (Step.refl g s w) hm rfl hrun (ev_ok hs h) hW' hn
      · exact hW'.elim
    | false =>
      have hW' : (match s.ev y with | some e => putK nt o s e k | none => False) := by rw [br_f] at hW; exact hW
      split at hW'
      · rename_i e h
        exact finish hdf hsz hs (Step.refl g s w) hm rfl hrun (ev_ok hs h) hW' hn
      · exact hW'.elim
  · exact hW.elim

end

end Go.Proofs.YtppfojiogappaaaDoor.V

set_option linter.unusedVariables false

set_option linter.unusedSimpArgs false

namespace Go.Proofs.YtppfojiogappaaaDoor.V

open Go Classical

noncomputable def hid {α : Type} (a : α) : { b : α // b = a } := Classical.choice ⟨⟨a, rfl⟩⟩

@[irreducible] noncomputable def wrp (k : IntKind) (x : Int) : Int := (hid (fun (k : IntKind) (x : Int) => (k.wrap x : Int))).1 k x

theorem wrp_eq (k : IntKind) (x : Int) : wrp k x = (k.wrap x) := by
  unfold wrp
  rw [(hid _).2]

def bits0 (op : BinOp) (k : IntKind) (x y : Int) : Int :=
  let a := BitVec.ofInt k.bits x
  let b := BitVec.ofInt k.bits y
  match op with
  | .and => k.wrap (a &&& b).toNat
  | .or => k.wrap (a ||| b).toNat
  | .xor => k.wrap (a ^^^ b).toNat
  | _ => k.wrap (a &&& ~~~b).toNat

@[irreducible] noncomputable def bitsOf (op : BinOp) (k : IntKind) (x y : Int) : Int := (hid bits0).1 op k x y

theorem bitsOf_eq (op : BinOp) (k : IntKind) (x y : Int) : bitsOf op k x y = bits0 op k x y := by
  unfold bitsOf
  rw [(hid _).2]

@[irreducible] noncomputable def shlOf (k : IntKind) (x : Int) (y : Int) : Int := (hid (fun (k : IntKind) (x : Int) (y : Int) => (k.wrap (x * 2 ^ (min y.toNat k.bits)) : Int))).1 k x y

theorem shlOf_eq (k : IntKind) (x : Int) (y : Int) : shlOf k x y = (k.wrap (x * 2 ^ (min y.toNat k.bits))) := by
  unfold shlOf
  rw [(hid _).2]

@[irreducible] noncomputable def shrOf (k : IntKind) (x : Int) (y : Int) : Int := (hid (fun (k : IntKind) (x : Int) (y : Int) => (x.fdiv (2 ^ (min y.toNat k.bits)) : Int))).1 k x y

theorem shrOf_eq (k : IntKind) (x : Int) (y : Int) : shrOf k x y = (x.fdiv (2 ^ (min y.toNat k.bits))) := by
  unfold shrOf
  rw [(hid _).2]

@[irreducible] noncomputable def tdivOf (k : IntKind) (x : Int) (y : Int) : Int := (hid (fun (k : IntKind) (x : Int) (y : Int) => (k.wrap (x.tdiv y) : Int))).1 k x y

theorem tdivOf_eq (k : IntKind) (x : Int) (y : Int) : tdivOf k x y = (k.wrap (x.tdiv y)) := by
  unfold tdivOf
  rw [(hid _).2]

@[irreducible] noncomputable def tmodOf (x : Int) (y : Int) : Int := (hid (fun (x : Int) (y : Int) => (x.tmod y : Int))).1 x y

theorem tmodOf_eq (x : Int) (y : Int) : tmodOf x y = (x.tmod y) := by
  unfold tmodOf
  rw [(hid _).2]

@[irreducible] noncomputable def eqStr (x : ByteArray) (y : ByteArray) : Bool := (hid (fun (x : ByteArray) (y : ByteArray) => (x.toList == y.toList : Bool))).1 x y

theorem eqStr_eq (x : ByteArray) (y : ByteArray) : eqStr x y = (x.toList == y.toList) := by
  unfold eqStr
  rw [(hid _).2]

@[irreducible] noncomputable def addStr (x : ByteArray) (y : ByteArray) : ByteArray := (hid (fun (x : ByteArray) (y : ByteArray) => (x ++ y : ByteArray))).1 x y

theorem addStr_eq (x : ByteArray) (y : ByteArray) : addStr x y = (x ++ y) := by
  unfold addStr
  rw [(hid _).2]

@[irreducible] noncomputable def eqI (x : Int) (y : Int) : Bool := (hid (fun (x : Int) (y : Int) => (x == y : Bool))).1 x y

theorem eqI_eq (x : Int) (y : Int) : eqI x y = (x == y) := by
  unfold eqI
  rw [(hid _).2]

@[irreducible] noncomputable def ltI (x : Int) (y : Int) : Bool := (hid (fun (x : Int) (y : Int) => (decide (x < y) : Bool))).1 x y

theorem ltI_eq (x : Int) (y : Int) : ltI x y = (decide (x < y)) := by
  unfold ltI
  rw [(hid _).2]

@[irreducible] noncomputable def leI (x : Int) (y : Int) : Bool := (hid (fun (x : Int) (y : Int) => (decide (x ≤ y) : Bool))).1 x y

theorem leI_eq (x : Int) (y : Int) : leI x y = (decide (x ≤ y)) := by
  unfold leI
  rw [(hid _).2]

@[irreducible] noncomputable def eqB (x : Bool) (y : Bool) : Bool := (hid (fun (x : Bool) (y : Bool) => (x == y : Bool))).1 x y

theorem eqB_eq (x : Bool) (y : Bool) : eqB x y = (x == y) := by
  unfold eqB
  rw [(hid _).2]

@[irreducible] noncomputable def notB (x : Bool) : Bool := (hid (fun (x : Bool) => (!x : Bool))).1 x

theorem notB_eq (x : Bool) : notB x = (!x) := by
  unfold notB
  rw [(hid _).2]

noncomputable def binV (τ : Nat → Option TD) (op : BinOp) (t : Nat) (x y : Value) : Option (Prop × Value) :=
  match x, y with
  | .int k a, .int k' b =>
    match op with
    | .shl => some (0 ≤ b, .int k (shlOf k a b))
    | .shr => some (0 ≤ b, .int k (shrOf k a b))
    | _ => if k = k' then
      match op with
      | .add => some (True, .int k (wrp k (a + b)))
      | .sub => some (True, .int k (wrp k (a - b)))
      | .mul => some (True, .int k (wrp k (a * b)))
      | .quo => some (b ≠ 0, .int k (tdivOf k a b))
      | .rem => some (b ≠ 0, .int k (tmodOf a b))
      | .and => some (True, .int k (bitsOf .and k a b))
      | .or => some (True, .int k (bitsOf .or k a b))
      | .xor => some (True, .int k (bitsOf .xor k a b))
      | .andNot => some (True, .int k (bitsOf .andNot k a b))
      | .eql => some (True, .bool (eqI a b))
      | .neq => some (True, .bool (notB (eqI a b)))
      | .lss => some (True, .bool (ltI a b))
      | .leq => some (True, .bool (leI a b))
      | .gtr => some (True, .bool (ltI b a))
      | .geq => some (True, .bool (leI b a))
      | _ => none
      else none
  | .bool a, .bool b => (match τ t with
    | some { kind := .bool, .. } => (match op with
      | .eql => some (True, .bool (eqB a b))
      | .neq => some (True, .bool (notB (eqB a b)))
      | _ => none)
    | _ => none)
  | .string a, .string b => (match op with
    | .add => some (((a.size + b.size : Nat) : Int) ≤ IntKind.i64.max, .string (addStr a b))
    | .eql => some (True, .bool (eqStr a b))
    | .neq => some (True, .bool (notB (eqStr a b)))
    | _ => none)
  | _, _ => none

theorem bin_run (P : Program) (τ : Nat → Option TD) (hτ : ∀ t d, τ t = some d → TyOk P t d) (a : Act) (w : World) (o : Oper) (op : BinOp) (t : Nat) (x y : Operand) (yt : Nat) (ho : o.op = .binOp op t x y yt)
    (c : Prop) (r : Value) (h : binV τ op t (a.eval x) (a.eval y) = some (c, r)) (hc : c) : (execOp a.eval o).run P w = .ok (.value r) w := by
  have e : (execOp a.eval o).run P w = ((eqGuard op t x y (a.eval x) (a.eval y)).run P w).andThen fun _ w => ((binOp op t (a.eval x) (a.eval y)).run P w).andThen fun v w => .ok (.value v) w := by
    unfold execOp
    rw [ho]
    simp [Sem.run_bind]
  rw [e]
  clear e
  generalize a.eval x = u at h ⊢
  generalize a.eval y = v at h ⊢
  unfold binV at h
  split at h
  · rename_i k p k' q
    cases op <;> simp only [reduceCtorEq, if_false] at h
    all_goals first
      | (cases h; simp [eqGuard, binOp, Op.shift, shlOf_eq, shrOf_eq, Int.not_lt.2 hc]; done)
      | (split at h
         · rename_i hk
           subst hk
           first
           | (cases h; simp [eqGuard, binOp, Op.intArith, Op.intDiv, Op.intBits, Op.intCmp, wrp_eq, tdivOf_eq, tmodOf_eq, bitsOf_eq, bits0, eqI_eq, ltI_eq, leI_eq, notB_eq, bne, hc]; done)
           | (cases h; simp [eqGuard, binOp, Op.intArith, Op.intDiv, Op.intBits, Op.intCmp, wrp_eq, tdivOf_eq, tmodOf_eq, bitsOf_eq, bits0, eqI_eq, ltI_eq, leI_eq, notB_eq, bne]; done)
           | cases h
         · cases h)
  · rename_i p q
    split at h
    · rename_i ht
      have hk : P.underlying t = some .bool := (hτ _ _ ht).kind
      cases op <;> simp only [reduceCtorEq] at h
      all_goals first
        | (cases h; simp [eqGuard, binOp, Op.equal, run_equalIn_bool w 9999 t p q hk, Op.maxDepth, eqB_eq, notB_eq]; done)
        | cases h
    · cases h
  · rename_i p q
    cases op <;> simp only [reduceCtorEq] at h
    all_goals first
      | (cases h
         have hc' : ¬ (((p.size + q.size : Nat) : Int) > IntKind.i64.max) := Int.not_lt.2 hc
         simp only [eqGuard, binOp, Op.stringOp, addStr_eq, if_neg hc']
         rfl)
      | (cases h; simp [eqGuard, binOp, Op.stringOp, eqStr_eq, notB_eq, addStr_eq]; done)
      | cases h
  · cases h

def needsC (op : BinOp) (x : Value) : Bool :=
  match op with
  | .shl => true
  | .shr => true
  | .quo => true
  | .rem => true
  | .add => (match x with
    | .string _ => true
    | _ => false)
  | _ => false

theorem needs_no {τ : Nat → Option TD} {op : BinOp} {t : Nat} {x y : Value} {c : Prop} {r : Value} (h : binV τ op t x y = some (c, r)) (hn : needsC op x = false) : c := by
  unfold binV at h
  split at h
  · cases op <;> simp only [reduceCtorEq, if_false] at h <;> first | (cases hn; done) | (split at h <;> first | (cases h; trivial) | cases h)
  · split at h
    · cases op <;> simp only [reduceCtorEq] at h <;> first | (cases h; trivial) | cases h
    · cases h
  · cases op <;> simp only [reduceCtorEq] at h <;> first | (cases hn; done) | (cases h; trivial) | cases h
  · cases h

theorem sc_ok (w : World) (g : G) (bs : List (Nat × Box)) (rs : List (Nat × Reg)) (v : Value) : EOk w g bs rs v (.vals false [.sc v]) := ⟨_, rfl, rfl⟩

section

variable {P : Program} {w0 : World} {A : AA} {B : List (Nat × Nat × Nat)} {nt : Nat} {τ : Nat → Option TD}

def binW (τ : Nat → Option TD) (nt : Nat) (o : Oper) (op : BinOp) (t : Nat) (x y : Operand) (s : S) (k : S → Prop) : Prop :=
  match s.ev x, s.ev y with
  | some (.vals false [.sc u]), some (.vals false [.sc v]) => (match binV τ op t u v with
    | some (c, r) => (match needsC op u with
      | true => c ∧ putK nt o s (.vals false [.sc r]) k
      | false => putK nt o s (.vals false [.sc r]) k)
    | none => False)
  | _, _ => False

theorem bin_sound (hτ : ∀ t d, τ t = some d → TyOk P t d) (o : Oper) (op : BinOp) (t : Nat) (x y : Operand) (yt : Nat) (ho : o.op = .binOp op t x y yt) : Sound P w0 A B nt o (binW τ nt o op t x y) := by
  intro s a w k next Q hr hW hn
  obtain ⟨hdf, hsz, g, hm, hs⟩ := hr
  unfold binW at hW
  split at hW
  · rename_i u v h1 h2
    split at hW
    · rename_i c r hb
      obtain ⟨x1, e1, hv1⟩ := ev_ok hs h1
      obtain ⟨x2, e2, hv2⟩ := ev_ok hs h2
      cases e1
      cases e2
      have hv1' : a.eval x = u := hv1
      have hv2' : a.eval y = v := hv2
      have hW' : c ∧ putK nt o s (.vals false [.sc r]) k := by
        split at hW
        · exact hW
        · rename_i hnd
          exact ⟨needs_no hb hnd, hW⟩
      rw [← hv1', ← hv2'] at hb
      exact finish hdf hsz hs (Step.refl g s w) hm rfl (bin_run P τ hτ a w o op t x y yt ho c r hb hW'.1) (sc_ok _ _ _ _ _) hW'.2 hn
    · exact hW.elim
  · exact hW.elim

noncomputable def unV (op : UnOp) (x : Value) : Option Value :=
  match op, x with
  | .not, .bool b => some (.bool (notB b))
  | .neg, .int k n => some (.int k (wrp k (0 - n)))
  | _, _ => none

def unW (nt : Nat) (o : Oper) (op : UnOp) (x : Operand) (s : S) (k : S → Prop) : Prop :=
  match s.ev x with
  | some (.vals false [.sc u]) => (match unV op u with
    | some r => putK nt o s (.vals false [.sc r]) k
    | none => False)
  | _ => False

theorem un_sound (o : Oper) (op : UnOp) (t : Nat) (x : Operand) (ho : o.op = .unOp op t x) : Sound P w0 A B nt o (unW nt o op x) := by
  intro s a w k next Q hr hW hn
  obtain ⟨hdf, hsz, g, hm, hs⟩ := hr
  unfold unW at hW
  split at hW
  · rename_i u h1
    split at hW
    · rename_i r hb
      obtain ⟨x1, e1, hv1⟩ := ev_ok hs h1
      cases e1
      have hv1' : a.eval x = u := hv1
      refine finish hdf hsz hs (Step.refl g s w) hm rfl ?_ (sc_ok _ _ _ _ _) hW hn
      unfold unV at hb
      split at hb
      · cases hb
        simp [execOp, ho, hv1', Op.unary, notB_eq]
      · cases hb
        simp [execOp, ho, hv1', Op.unary, Op.intArith, wrp_eq]
      · cases hb
    · exact hW.elim
  · exact hW.elim

@[irreducible] noncomputable def runeStr (n : Int) : ByteArray := (hid (fun (n : Int) => (Utf8.encode n : ByteArray))).1 n

theorem runeStr_eq (n : Int) : runeStr n = (Utf8.encode n) := by
  unfold runeStr
  rw [(hid _).2]

end

end Go.Proofs.YtppfojiogappaaaDoor.V

set_option linter.unusedVariables false

set_option linter.unusedSimpArgs false

namespace Go.Proofs.YtppfojiogappaaaDoor.V

open Go Classical

def G.J (g : G) : Nat → Prop := fun b => g.ow b = .imm ∨ ∃ h, g.ow b = .reg h

def lnLive (s : S) : Option (Nat × Nat) → Bool
  | none => true
  | some (h, iv) => match get s.regs h with
    | some r => if r.live then (if r.iv = iv then true else false) else false
    | none => false

def regAt (s : S) (h g : Nat) : Option Reg :=
  match get s.regs h with
  | some r => if r.live then (if r.gen = g then some r else none) else none
  | none => none

def regIv (s : S) (h iv : Nat) : Option Reg :=
  match get s.regs h with
  | some r => if r.live then (if r.iv = iv then some r else none) else none
  | none => none

theorem regAt_some {s : S} {h g : Nat} {r : Reg} (e : regAt s h g = some r) : get s.regs h = some r ∧ r.live = true ∧ r.gen = g := by
  unfold regAt at e
  split at e
  · split at e
    · split at e
      · cases e
        exact ⟨by assumption, by assumption, by assumption⟩
      · cases e
    · cases e
  · cases e

theorem regIv_some {s : S} {h g : Nat} {r : Reg} (e : regIv s h g = some r) : get s.regs h = some r ∧ r.live = true ∧ r.iv = g := by
  unfold regIv at e
  split at e
  · split at e
    · split at e
      · cases e
        exact ⟨by assumption, by assumption, by assumption⟩
      · cases e
    · cases e
  · cases e

theorem lnLive_some {s : S} {h iv : Nat} (e : lnLive s (some (h, iv)) = true) : ∃ r, get s.regs h = some r ∧ r.live = true ∧ r.iv = iv := by
  simp only [lnLive] at e
  split at e
  · split at e
    · split at e
      · exact ⟨_, by assumption, by assumption, by assumption⟩
      · exact absurd e (by simp)
    · exact absurd e (by simp)
  · exact absurd e (by simp)

def withC (s : S) (x : X) (k : Nat → List (List C) → Prop) : Prop :=
  match x with
  | .sc _ => False
  | .nil n => k n []
  | .rd ln n es => if lnLive s ln then k n es else False
  | .ref h g => (match regAt s h g with
    | some r => k r.n r.es
    | none => False)
  | .sub h g lo hi => (match regAt s h g with
    | some r => k r.n ((r.es.take hi).drop lo)
    | none => False)
  | .inn h iv i j => (match regIv s h iv with
    | some r => ∃ row n es, r.es[i]? = some row ∧ row[j]? = some (.sl true n es) ∧ k n es
    | none => False)
  | .fx _ n es => k n es

theorem J_I {g : G} {b : Nat} (h : g.I b) : g.J b := .inl h

theorem J_F {g : G} {h b : Nat} (k : g.F h b) : g.J b := .inr ⟨h, k⟩

theorem Ln_J {g : G} {regs : List (Nat × Reg)} {s : S} (hr : s.regs = regs) {ln : Option (Nat × Nat)} {φ : (Nat → Prop) → Prop} (h : LnOk g regs ln φ) (hl : lnLive s ln = true)
    (hm : ∀ I : Nat → Prop, (∀ b, I b → g.J b) → φ I → φ g.J) : φ g.J := by
  subst hr
  cases ln with
  | none => exact hm _ (fun b hb => J_I hb) h
  | some p =>
    obtain ⟨k, iv⟩ := p
    obtain ⟨r, h1, h2, h3⟩ := lnLive_some hl
    obtain ⟨r', h4, h5, h6⟩ := h
    rw [h1] at h4
    cases h4
    exact hm _ (fun b hb => hb.elim J_I J_F) (h6 h2 h3.symm)

theorem reg_rd {w0 : World} {A : AA} {B : List (Nat × Nat × Nat)} {g : G} {s : S} {w : World} (hm : Mem w0 A B g s w) {h : Nat} {r : Reg} (hr : get s.regs h = some r) (hl : r.live = true) :
    Rd w g.J (g.val h) (.sl true r.n r.es) := by
  refine (hm.regs h r hr hl).rdOf.frame ?_ (fun _ _ => rfl)
  rintro b (hb | hb)
  · split at hb
    · exact hb.elim
    · exact J_I hb
  · exact J_F hb

theorem sub_rd {w : World} {I : Nat → Prop} {v u : Value} {own : Bool} {n : Nat} {es : List (List C)} (h : Rd w I v (.sl own n es)) {lo hi : Nat} (hs : SubOf v n lo hi u) (h1 : lo ≤ hi) (h2 : hi ≤ es.length) :
    Rd w I u (.sl own n ((es.take hi).drop lo)) := by
  rcases hs with ⟨rfl, rfl⟩ | ⟨g, o, len, cap, o', cap', rfl, rfl, h3, h4, h5⟩
  · cases h with
    | nil => simp; exact .nil _ _ _ _
  · obtain ⟨a, cap2, e⟩ := h.form
    cases e
    refine Rd.part h lo hi cap' h1 h2 h4 _ fun hlt b ob ha => ?_
    cases ha
    rcases h5 with rfl | ⟨h6, _⟩
    · rfl
    · omega

theorem withC_rd {w0 : World} {A : AA} {B : List (Nat × Nat × Nat)} {g : G} {s : S} {w : World} (hm : Mem w0 A B g s w) {u : Value} {x : X} {k : Nat → List (List C) → Prop} (hx : XOk w g s.regs u x) (h : withC s x k) :
    ∃ n es, Rd w g.J u (.sl true n es) ∧ k n es := by
  cases x with
  | sc v => exact h.elim
  | nil n =>
    have : u = .slice none 0 0 := hx
    subst this
    exact ⟨n, [], .nil _ _ _ _, h⟩
  | rd ln n es =>
    simp only [withC] at h
    split at h
    · rename_i hl
      refine ⟨n, es, ?_, h⟩
      exact Ln_J (φ := fun I => Rd w I u (.sl true n es)) rfl hx hl fun I hI hr => hr.frame hI fun _ _ => rfl
    · exact h.elim
  | ref c gn =>
    simp only [withC] at h
    split at h
    · rename_i r hr
      obtain ⟨h1, h2, h3⟩ := regAt_some hr
      obtain ⟨r', h4, h5, h6⟩ := hx
      rw [h1] at h4
      cases h4
      rw [h6 h2 h3.symm]
      exact ⟨_, _, reg_rd hm h1 h2, h⟩
    · exact h.elim
  | sub c gn lo hi =>
    simp only [withC] at h
    split at h
    · rename_i r hr
      obtain ⟨h1, h2, h3⟩ := regAt_some hr
      obtain ⟨r', h4, h5, h6⟩ := hx
      rw [h1] at h4
      cases h4
      obtain ⟨h7, h8, h9⟩ := h6 h2 h3.symm
      exact ⟨_, _, sub_rd (reg_rd hm h1 h2) h7 h8 h9, h⟩
    · exact h.elim
  | inn c iv i j =>
    simp only [withC] at h
    split at h
    · rename_i r hr
      obtain ⟨h1, h2, h3⟩ := regIv_some hr
      obtain ⟨r', h4, h5, h6⟩ := hx
      rw [h1] at h4
      cases h4
      obtain ⟨b, o, len, cap, e1, e2, e3, e4, e5⟩ := h6 h2 h3.symm
      obtain ⟨row, n, es, hrow, hj, hk⟩ := h
      obtain ⟨b', o', cap', f1, f2, f3, f4⟩ := (reg_rd hm h1 h2).elem hrow
      rw [e1] at f1
      cases f1
      obtain ⟨u', hu, _, hr'⟩ := f4 j _ hj
      rw [e5] at hu
      cases hu
      exact ⟨n, es, hr', hk⟩
    · exact h.elim
  | fx v n es => exact ⟨n, es, hx.2.frame (fun b hb => J_I hb) (fun _ _ => rfl), h⟩

end Go.Proofs.YtppfojiogappaaaDoor.V

set_option linter.unusedVariables false

set_option linter.unusedSimpArgs false

namespace Go.Proofs.YtppfojiogappaaaDoor.V

open Go Classical

theorem add_eq (b o j : Nat) : (⟨b, o, none⟩ : Addr).add j = ⟨b, o + j, none⟩ := by unfold Addr.add; split <;> simp_all

def okKind : K → Bool
  | .other => false
  | _ => true

def mkE (d : TD) (xs : List X) : Option E :=
  if xs.length = d.size then
    (if aggOf d then some (.vals true xs) else match xs with
      | [x] => some (.vals false [x])
      | _ => none)
  else none

def boxAt (s : S) (b g : Nat) : Option (List X) :=
  match get s.boxes b with
  | some x => if x.gen = g then some x.cells else none
  | none => none

theorem boxAt_some {s : S} {b g : Nat} {xs : List X} (e : boxAt s b g = some xs) : ∃ x, get s.boxes b = some x ∧ x.gen = g ∧ x.cells = xs := by
  unfold boxAt at e
  split at e
  · split at e
    · cases e
      exact ⟨_, by assumption, by assumption, rfl⟩
    · cases e
  · cases e

def cX (h iv i j : Nat) : C → Option X
  | .sc v => some (.sc v)
  | .any => none
  | .sl true _ _ => some (.inn h iv i j)
  | .sl false n es => some (.rd none n es)

def cXs (h iv i : Nat) : Nat → List C → Option (List X)
  | _, [] => some []
  | j, c :: r => match cX h iv i j c, cXs h iv i (j + 1) r with
    | some x, some xs => some (x :: xs)
    | _, _ => none

def rX (ln : Option (Nat × Nat)) : C → Option X
  | .sc v => some (.sc v)
  | .any => none
  | .sl _ n es => some (.rd ln n es)

def rXs (ln : Option (Nat × Nat)) : List C → Option (List X)
  | [] => some []
  | c :: r => match rX ln c, rXs ln r with
    | some x, some xs => some (x :: xs)
    | _, _ => none

theorem cXs_at {h iv i : Nat} : ∀ {j : Nat} {cs : List C} {xs : List X}, cXs h iv i j cs = some xs → xs.length = cs.length ∧ ∀ (m : Nat) (x : X), xs[m]? = some x → ∃ c, cs[m]? = some c ∧ cX h iv i (j + m) c = some x
  | j, [], xs, e => by cases e; exact ⟨rfl, fun m x hm => by simp at hm⟩
  | j, c :: r, xs, e => by
    simp only [cXs] at e
    split at e
    · rename_i x0 xs0 h1 h2
      cases e
      obtain ⟨hl, hk⟩ := cXs_at h2
      refine ⟨by simp [hl], fun m x hm => ?_⟩
      cases m with
      | zero =>
        simp at hm
        subst hm
        exact ⟨c, rfl, h1⟩
      | succ m =>
        simp at hm
        obtain ⟨c', e1, e2⟩ := hk m x hm
        exact ⟨c', by simpa using e1, by rw [show j + (m + 1) = j + 1 + m by omega]; exact e2⟩
    · cases e

theorem rXs_at {ln : Option (Nat × Nat)} : ∀ {cs : List C} {xs : List X}, rXs ln cs = some xs → xs.length = cs.length ∧ ∀ (m : Nat) (x : X), xs[m]? = some x → ∃ c, cs[m]? = some c ∧ rX ln c = some x
  | [], xs, e => by cases e; exact ⟨rfl, fun m x hm => by simp at hm⟩
  | c :: r, xs, e => by
    simp only [rXs] at e
    split at e
    · rename_i x0 xs0 h1 h2
      cases e
      obtain ⟨hl, hk⟩ := rXs_at h2
      refine ⟨by simp [hl], fun m x hm => ?_⟩
      cases m with
      | zero =>
        simp at hm
        subst hm
        exact ⟨c, rfl, h1⟩
      | succ m =>
        simp at hm
        obtain ⟨c', e1, e2⟩ := hk m x hm
        exact ⟨c', by simpa using e1, e2⟩
    · cases e

section

variable {P : Program} {w0 : World} {A : AA} {B : List (Nat × Nat × Nat)} {nt : Nat} {τ : Nat → Option TD}

theorem load_run {t : Nat} {d : TD} (hd : TyOk P t d) (hk : okKind d.kind = true) (w : World) (g : G) (bs : List (Nat × Box)) (rs : List (Nat × Reg)) (b o : Nat) (xs : List X) (e : E) (hm : mkE d xs = some e)
    (hc : ∀ (j : Nat) (x : X), xs[j]? = some x → ∃ u, w.cell? ⟨b, o + j, none⟩ = some u ∧ XOk w g rs u x) :
    ∃ v, (loadVar t ⟨b, o, none⟩).run P w = .ok v w ∧ EOk w g bs rs v e := by
  unfold mkE at hm
  split at hm
  · rename_i hlen
    have hf : ∃ f : Nat → Value, ∀ (j : Nat) (x : X), xs[j]? = some x → w.cell? ⟨b, o + j, none⟩ = some (f j) ∧ XOk w g rs (f j) x := by
      refine ⟨fun j => (w.cell? ⟨b, o + j, none⟩).getD undef, fun j x hx => ?_⟩
      obtain ⟨u, hu, ho⟩ := hc j x hx
      simp [hu, ho]
    obtain ⟨f, hf⟩ := hf
    obtain ⟨i, z, hi, hsz, _⟩ := hd.info
    split at hm
    · rename_i hag
      cases hm
      have hagg : (isAgg t).run P w = .ok true w := by
        have := hd.kind
        unfold aggOf isAggK at hag
        split at hag
        · rename_i fs hkd
          rw [hkd] at this
          obtain ⟨arr, hu, _⟩ := this
          simp [isAgg, run_underlying hu]
        · cases hag
      have hl : (loadCells ⟨b, o, none⟩ d.size).run P w = .ok ((List.range d.size).map f).toArray w := by
        refine run_loadCells w _ _ f fun j hj => ?_
        have hjx : j < xs.length := by omega
        have := (hf j xs[j] (by simp)).1
        rw [add_eq]
        exact this
      refine ⟨.agg ((List.range d.size).map f).toArray, ?_, ((List.range d.size).map f).toArray, rfl, ?_, fun j x hx => ?_⟩
      · simp [loadVar, hagg, sizeOf, typeInfo, hi, hsz, hl]
      · simp [hlen]
      · have hjx : j < d.size := by rw [← hlen]; exact (List.getElem?_eq_some_iff.1 hx).1
        exact ⟨f j, by simp [hjx], (hf j x hx).2⟩
    · rename_i hag
      split at hm
      · rename_i x
        cases hm
        have hagg : (isAgg t).run P w = .ok false w := by
          have := hd.kind
          cases hkd : d.kind with
          | other => rw [hkd] at hk; cases hk
          | struct fs => exact absurd (by unfold aggOf; rw [hkd]; rfl) hag
          | _ =>
            rw [hkd] at this
            simp [isAgg, run_underlying this]
        obtain ⟨h1, h2⟩ := hf 0 x rfl
        refine ⟨f 0, ?_, x, rfl, h2⟩
        simp only [Nat.add_zero] at h1
        simp [loadVar, hagg, h1]
      · cases hm
  · cases hm

def loadK (τ : Nat → Option TD) (t : Nat) (p : Operand) (s : S) (k : E → Prop) : Prop :=
  match τ t with
  | none => False
  | some d => if okKind d.kind then
      (match s.ev p with
      | some (.bptr b g off) => (match boxAt s b g with
        | some cells => (match mkE d ((cells.drop off).take d.size) with
          | some e => k e
          | none => False)
        | none => False)
      | some (.eptr h g i off) => (match regAt s h g with
        | some r => ∃ row, r.es[i]? = some row ∧ (match cXs h r.iv i off ((row.drop off).take d.size) with
          | some xs => (match mkE d xs with
            | some e => k e
            | none => False)
          | none => False)
        | none => False)
      | some (.rptr ln row off) => if lnLive s ln then (match rXs ln ((row.drop off).take d.size) with
          | some xs => (match mkE d xs with
            | some e => k e
            | none => False)
          | none => False) else False
      | _ => False)
    else False

def loadW (τ : Nat → Option TD) (nt : Nat) (o : Oper) (t : Nat) (p : Operand) (s : S) (k : S → Prop) : Prop := loadK τ t p s fun e => putK nt o s e k

theorem own_cells {w : World} {I F : Nat → Prop} {v : Value} {n : Nat} {es : List (List C)} (h : Own w I F v (.sl true n es)) {i : Nat} {row : List C} (hr : es[i]? = some row) :
    ∃ b o cap, v = .slice (some ⟨b, o, none⟩) es.length cap ∧ F b ∧ row.length = n ∧ ∀ (j : Nat) (c : C), row[j]? = some c → ∃ u, w.cell? ⟨b, o + i * n + j, none⟩ = some u ∧ u.oneCell' = true ∧ Own w I F u c := by
  cases h with
  | nil => simp at hr
  | row _ g o len cap _ _ cs e u f hF hff hd fr hfr hg hsz hn hlen hc hm hl hcell h1 hrr =>
    refine ⟨g, o, cap, by rw [hlen], hF, hl i row hr, fun j c hj => ?_⟩
    have hi : i < len := by rw [← hlen]; exact (List.getElem?_eq_some_iff.1 hr).1
    have hj' : j < n := by rw [← hl i row hr]; exact (List.getElem?_eq_some_iff.1 hj).1
    exact ⟨u i j, (cell_of hg).trans (hcell i j hi hj'), h1 i j hi hj', (hrr i j row c hr hj).frame (fun _ h => h) (fun x hx => (hff i j x hx).1) (fun _ _ => rfl) (fun _ _ => rfl)⟩

theorem load_ok (hτ : ∀ t d, τ t = some d → TyOk P t d) (o : Oper) (t : Nat) (p : Operand) (ho : o.op = .load t p) {s : S} {a : Act} {w : World} {g : G} (hm : Mem w0 A B g s w) (hs : SlotsOk g s nt a w) {k : E → Prop}
    (hW : loadK τ t p s k) : ∃ e u, k e ∧ (execOp a.eval o).run P w = .ok (.value u) w ∧ EOk w g s.boxes s.regs u e := by
  unfold loadK at hW
  split at hW
  · exact hW.elim
  · rename_i d hd
    have hT := hτ _ _ hd
    split at hW
    · rename_i hk
      have fin : ∀ (b oo : Nat) (xs : List X) (e : E), mkE d xs = some e → a.eval p = .pointer (some ⟨b, oo, none⟩) →
          (∀ (j : Nat) (x : X), xs[j]? = some x → ∃ u, w.cell? ⟨b, oo + j, none⟩ = some u ∧ XOk w g s.regs u x) → k e → ∃ e u, k e ∧ (execOp a.eval o).run P w = .ok (.value u) w ∧ EOk w g s.boxes s.regs u e := by
        intro b oo xs e hme hp hc hK
        obtain ⟨v, hv, he⟩ := load_run hT hk w g s.boxes s.regs b oo xs e hme hc
        refine ⟨e, v, hK, ?_, he⟩
        simp [execOp, ho, hp, Instr.loadAt, Instr.sureAddr, hv]
      split at hW
      · rename_i b gn off hp
        split at hW
        · rename_i cells hb
          split at hW
          · rename_i e hme
            obtain ⟨x, h1, h2, h3⟩ := boxAt_some hb
            obtain ⟨x', h4, h5, h6⟩ := ev_ok hs hp
            rw [h1] at h4
            cases h4
            obtain ⟨_, _, cs, el, h7, h8, h9⟩ := hm.boxes b x h1
            refine fin _ _ _ e hme (h6 h2.symm) (fun j y hj => ?_) hW
            rw [List.getElem?_take] at hj
            split at hj
            · rw [List.getElem?_drop, ← h3] at hj
              obtain ⟨u, hu, _, hx⟩ := h9 _ y hj
              exact ⟨u, by rw [cell_of h7, Nat.add_assoc]; exact hu, hx⟩
            · cases hj
          · exact hW.elim
        · exact hW.elim
      · rename_i h gn i off hp
        split at hW
        · rename_i r hreg
          obtain ⟨row, hrow, hW⟩ := hW
          split at hW
          · rename_i xs hxs
            split at hW
            · rename_i e hme
              obtain ⟨h1, h2, h3⟩ := regAt_some hreg
              obtain ⟨r', h4, h5, h6⟩ := ev_ok hs hp
              rw [h1] at h4
              cases h4
              obtain ⟨b, oo, len, cap, e1, e2, e3⟩ := h6 h2 h3.symm
              obtain ⟨b', o', cap', f1, f2, f3, f4⟩ := own_cells (hm.regs h r h1 h2) hrow
              rw [e1] at f1
              cases f1
              refine fin _ _ _ e hme e3 (fun j y hj => ?_) hW
              obtain ⟨hl, hk⟩ := cXs_at hxs
              obtain ⟨c, hc, hcx⟩ := hk j y hj
              rw [List.getElem?_take] at hc
              split at hc
              · rw [List.getElem?_drop] at hc
                obtain ⟨u, hu, _, hO⟩ := f4 _ c hc
                rw [← Nat.add_assoc] at hu
                refine ⟨u, hu, ?_⟩
                cases c with
                | sc v =>
                  cases hcx
                  cases hO
                  exact rfl
                | any => cases hcx
                | sl own n es =>
                  cases own with
                  | true =>
                    cases hcx
                    refine ⟨r, h1, Nat.le_refl _, fun _ _ => ⟨b, oo, r.es.length, cap, e1, f2, e2, ?_, ?_⟩⟩
                    · have := (List.getElem?_eq_some_iff.1 hc).1
                      omega
                    · rw [← Nat.add_assoc]; exact hu
                  | false =>
                    cases hcx
                    cases hO with
                    | rd _ _ _ _ hR =>
                      show Rd w g.I u (.sl true n es)
                      refine (hR.frame (fun b hb => ?_) fun _ _ => rfl).flag
                      split at hb
                      · exact hb.elim
                      · exact hb
              · cases hc
            · exact hW.elim
          · exact hW.elim
        · exact hW.elim
      · rename_i ln row off hp
        split at hW
        · rename_i hl
          split at hW
          · rename_i xs hxs
            split at hW
            · rename_i e hme
              have hv := ev_ok hs hp
              have key : ∃ I : Nat → Prop, (∀ (m : Nat) (x : X) (c : C) (u : Value), rX ln c = some x → Rd w I u c → XOk w g s.regs u x) ∧
                  ∃ b o', a.eval p = .pointer (some ⟨b, o' + off, none⟩) ∧ I b ∧ ∀ (j : Nat) (c : C), row[j]? = some c → ∃ u, w.cell? ⟨b, o' + j, none⟩ = some u ∧ Rd w I u c := by
                cases ln with
                | none =>
                  refine ⟨g.I, fun m x c u hx hR => ?_, hv⟩
                  cases c with
                  | sc v => cases hx; cases hR; exact rfl
                  | any => cases hx
                  | sl own n es => cases hx; exact hR.flag
                | some q =>
                  obtain ⟨hh, iv⟩ := q
                  obtain ⟨r, h1, h2, h3⟩ := lnLive_some hl
                  obtain ⟨r', h4, h5, h6⟩ := hv
                  rw [h1] at h4
                  cases h4
                  refine ⟨_, fun m x c u hx hR => ?_, h6 h2 h3.symm⟩
                  cases c with
                  | sc v => cases hx; cases hR; exact rfl
                  | any => cases hx
                  | sl own n es => cases hx; exact ⟨r, h1, by omega, fun _ _ => hR.flag⟩
              obtain ⟨I, hI, b, o', e1, e2, e3⟩ := key
              refine fin _ _ _ e hme e1 (fun j y hj => ?_) hW
              obtain ⟨hl, hk⟩ := rXs_at hxs
              obtain ⟨c, hc, hcx⟩ := hk j y hj
              rw [List.getElem?_take] at hc
              split at hc
              · rw [List.getElem?_drop] at hc
                obtain ⟨u, hu, hR⟩ := e3 _ c hc
                rw [← Nat.add_assoc] at hu
                exact ⟨u, hu, hI j y c u hcx hR⟩
              · cases hc
            · exact hW.elim
          · exact hW.elim
        · exact hW.elim
      · exact hW.elim
    · exact hW.elim

theorem load_sound (hτ : ∀ t d, τ t = some d → TyOk P t d) (o : Oper) (t : Nat) (p : Operand) (ho : o.op = .load t p) : Sound P w0 A B nt o (loadW τ nt o t p) := by
  intro s a w k next Q hr hW hn
  obtain ⟨hdf, hsz, g, hm, hs⟩ := hr
  obtain ⟨e, u, h1, h2, h3⟩ := load_ok hτ o t p ho hm hs hW
  exact finish hdf hsz hs (Step.refl g s w) hm rfl h2 h3 h1 hn

end

end Go.Proofs.YtppfojiogappaaaDoor.V

set_option linter.unusedVariables false

set_option linter.unusedSimpArgs false

namespace Go.Proofs.YtppfojiogappaaaDoor.V

open Go Classical

def spl (cs : Array Value) (o : Nat) (vs : List Value) : Array Value := (cs.toList.take o ++ vs ++ cs.toList.drop (o + vs.length)).toArray

theorem spl_size (cs : Array Value) (o : Nat) (vs : List Value) (h : o + vs.length ≤ cs.size) : (spl cs o vs).size = cs.size := by
  simp [spl]; omega

theorem spl_in (cs : Array Value) (o : Nat) (vs : List Value) (h : o + vs.length ≤ cs.size) (j : Nat) (hj : j < vs.length) : (spl cs o vs)[o + j]? = vs[j]? := by
  simp only [spl, List.getElem?_toArray, List.append_assoc]
  rw [List.getElem?_append_right (by simp; omega), List.getElem?_append_left (by simp; omega)]
  congr 1
  simp; omega

theorem spl_out (cs : Array Value) (o : Nat) (vs : List Value) (h : o + vs.length ≤ cs.size) (k : Nat) (hk : k < o ∨ o + vs.length ≤ k) : (spl cs o vs)[k]? = cs[k]? := by
  simp only [spl, List.getElem?_toArray, List.append_assoc]
  rcases hk with hk | hk
  · rw [List.getElem?_append_left (by simp; omega), List.getElem?_take, if_pos hk]
    simp
  · rw [List.getElem?_append_right (by simp; omega), List.getElem?_append_right (by simp; omega), List.getElem?_drop]
    simp only [List.length_take, Array.length_toList]
    rw [show min o cs.size = o by omega, show o + vs.length + (k - o - vs.length) = k by omega]
    simp

theorem run_stores {P : Program} (g o : Nat) (t : TypeId) (fr : Nat × Nat) : ∀ (vs : List Value) (i : Nat) (cur : Array Value) (w : World), w.heap[g]? = some (.cells cur t fr) → (∀ k, k < cur.size → ¬ (fr.1 ≤ k ∧ k < fr.2)) →
    o + i + vs.length ≤ cur.size → (∀ v ∈ vs, v.oneCell' = true) → (storeCells ⟨g, o, none⟩ vs i).run P w = .ok () (w.setRow g (spl cur (o + i) vs))
  | [], i, cur, w, hg, hfr, _, _ => by
    simp only [storeCells, spl, List.append_nil, List.length_nil, Nat.add_zero, List.take_append_drop, Array.toArray_toList]
    rw [setRow_self w g cur t fr hg]
    rfl
  | v :: rest, i, cur, w, hg, hfr, hl, h1 => by
    have hi : o + i < cur.size := by simp at hl; omega
    have hcell : w.cell? ⟨g, o + i, none⟩ = some cur[o + i] := by simp [World.cell?, hg, hi]
    have hfro : w.frozen? ⟨g, o + i, none⟩ = false := by
      have := hfr (o + i) hi
      simp [World.frozen?, hg]
      intro h
      omega
    have hst : (store ((⟨g, o, none⟩ : Addr).add i) v).run P w = .ok () (w.setRow g (cur.setIfInBounds (o + i) v)) := by
      rw [add_eq, run_store P w _ v _ (h1 v (by simp)), hcell]
      simp [hfro, setCell_eq_setRow w g (o + i) cur t fr v hg]
    have ih := run_stores (P := P) g o t fr rest (i + 1) (cur.setIfInBounds (o + i) v) (w.setRow g (cur.setIfInBounds (o + i) v)) (setRow_heap w g cur _ t _ hg) (by simpa using hfr) (by simp at hl ⊢; omega) (fun x hx => h1 x (by simp [hx]))
    simp only [storeCells, Sem.run_bind, hst, Result.andThen_ok, ih, setRow_setRow]
    have e := list_seg_step cur.toList (o + i) v rest (by simp at hl ⊢; omega)
    have e2 : spl (cur.setIfInBounds (o + i) v) (o + (i + 1)) rest = spl cur (o + i) (v :: rest) := by
      unfold spl
      rw [Array.toList_setIfInBounds, show o + (i + 1) = o + i + 1 by omega, e]
      rfl
    rw [e2]

def X.st : X → Bool
  | .sc v => v.oneCell'
  | _ => true

theorem rd_one {w : World} {I : Nat → Prop} {u : Value} {own : Bool} {n : Nat} {es : List (List C)} (h : Rd w I u (.sl own n es)) : u.oneCell' = true := by
  obtain ⟨a, cap, rfl⟩ := h.form
  rfl

def okX (s : S) : X → Bool
  | .sc v => v.oneCell'
  | .nil _ => true
  | .rd ln _ _ => lnLive s ln
  | .ref h g => (regAt s h g).isSome
  | .sub h g _ _ => (regAt s h g).isSome
  | .inn h iv _ _ => (regIv s h iv).isSome
  | .fx _ _ _ => true

theorem okX_one {w0 : World} {A : AA} {B : List (Nat × Nat × Nat)} {g : G} {s : S} {w : World} (hm : Mem w0 A B g s w) {u : Value} {x : X} (hx : XOk w g s.regs u x) (h : okX s x = true) : u.oneCell' = true := by
  cases x with
  | sc v =>
    have : u = v := hx
    subst this
    exact h
  | nil n =>
    have : u = .slice none 0 0 := hx
    subst this
    rfl
  | rd ln n es =>
    obtain ⟨n', es', hr, _⟩ := withC_rd hm (k := fun _ _ => True) hx (by simp only [withC]; rw [if_pos (show lnLive s ln = true from h)]; trivial)
    exact rd_one hr
  | ref c gn =>
    obtain ⟨r, hr⟩ := Option.isSome_iff_exists.1 h
    obtain ⟨n', es', hr, _⟩ := withC_rd hm (k := fun _ _ => True) hx (by simp only [withC]; rw [hr]; trivial)
    exact rd_one hr
  | sub c gn lo hi =>
    obtain ⟨r, hr⟩ := Option.isSome_iff_exists.1 h
    obtain ⟨n', es', hr, _⟩ := withC_rd hm (k := fun _ _ => True) hx (by simp only [withC]; rw [hr]; trivial)
    exact rd_one hr
  | inn c iv i j =>
    obtain ⟨r, hr⟩ := Option.isSome_iff_exists.1 h
    obtain ⟨h1, h2, h3⟩ := regIv_some hr
    obtain ⟨r', h4, h5, h6⟩ := hx
    rw [h1] at h4
    cases h4
    obtain ⟨b, o, len, cap, e1, e2, e3, e4, e5⟩ := h6 h2 h3.symm
    obtain ⟨row, hrow⟩ : ∃ row, r.es[i]? = some row := ⟨r.es[i], by simp⟩
    obtain ⟨b', o', cap', f1, f2, f3, f4⟩ := own_cells (hm.regs c r h1 h2) hrow
    rw [e1] at f1
    cases f1
    obtain ⟨cc, hcc⟩ : ∃ cc, row[j]? = some cc := ⟨row[j]'(by omega), by simp⟩
    obtain ⟨u', hu, h1', _⟩ := f4 j cc hcc
    rw [e5] at hu
    cases hu
    exact h1'
  | fx v n es => exact rd_one hx.2

def splX (cells : List X) (off : Nat) (xs : List X) : List X := cells.take off ++ xs ++ cells.drop (off + xs.length)

theorem vals_cells {w : World} {g : G} {rs : List (Nat × Reg)} {v : Value} {agg : Bool} {xs : List X} (h : ValsOk w g rs v agg xs) (h1 : agg = false → ∀ u x, xs = [x] → XOk w g rs u x → u.oneCell' = true) :
    v.cells.size = xs.length ∧ ∀ (j : Nat) (x : X), xs[j]? = some x → ∃ u, v.cells[j]? = some u ∧ XOk w g rs u x := by
  cases agg with
  | false =>
    obtain ⟨x, rfl, hx⟩ := h
    have ho := h1 rfl v x rfl hx
    have hv : v.cells = #[v] := by
      cases v <;> first | rfl | (simp [Value.oneCell'] at ho)
    rw [hv]
    refine ⟨rfl, fun j y hj => ?_⟩
    cases j with
    | zero => simp at hj; subst hj; exact ⟨v, rfl, hx⟩
    | succ j => simp at hj
  | true =>
    obtain ⟨us, rfl, hc⟩ := h
    exact hc

def mvX (s : S) : X → Option (C × List Nat × Bool)
  | .sc v => if v.oneCell' then some (.sc v, [], true) else none
  | .nil n => some (.sl true n [], [], true)
  | .rd none n es => some (.sl false n es, [], false)
  | .rd (some _) _ _ => none
  | .ref h g => (match regAt s h g with
    | some r => some (.sl true r.n r.es, [h], r.pure)
    | none => none)
  | .sub h g lo hi => (match regAt s h g with
    | some r => some (.sl true r.n ((r.es.take hi).drop lo), [h], r.pure)
    | none => none)
  | .inn _ _ _ _ => none
  | .fx _ _ _ => none

def mvXs (s : S) : List X → Option (List C × List Nat × Bool)
  | [] => some ([], [], true)
  | x :: r => match mvX s x, mvXs s r with
    | some (c, k1, p1), some (cs, k2, p2) => some (c :: cs, k1 ++ k2, p1 && p2)
    | _, _ => none

def nodup : List Nat → Bool
  | [] => true
  | k :: r => if memb r k then false else nodup r

def splC (row : List C) (off : Nat) (cs : List C) : List C := row.take off ++ cs ++ row.drop (off + cs.length)

def storeW (τ : Nat → Option TD) (t : Nat) (p x : Operand) (o : Oper) (s : S) (k : S → Prop) : Prop :=
  match o.dst, τ t, s.ev p, s.ev x with
  | none, some d, some (.bptr b g off), some (.vals agg xs) => (match get s.boxes b with
    | some bx => if bx.gen = g then (if xs.length = d.size then (if off + xs.length ≤ bx.cells.length then (if xs.all (okX s) then k { s with boxes := put s.boxes b { bx with cells := splX bx.cells off xs } } else False) else False) else False) else False
    | none => False)
  | none, some d, some (.eptr h g i off), some (.vals agg xs) => (match regAt s h g with
    | some r => (match mvXs s xs with
      | some (cs, ks, pr) => if xs.length = d.size then (if off + xs.length ≤ r.n then (if nodup ks then (if memb ks h then False else
          ∃ row, r.es[i]? = some row ∧ k { s with regs := put (kill s.regs ks) h { r with iv := r.iv + 1, es := r.es.set i (splC row off cs), pure := r.pure && pr } }) else False) else False) else False
      | none => False)
    | none => False)
  | _, _, _, _ => False

end Go.Proofs.YtppfojiogappaaaDoor.V

set_option linter.unusedVariables false

set_option linter.unusedSimpArgs false

namespace Go.Proofs.YtppfojiogappaaaDoor.V

open Go Classical

theorem splC_len (row : List C) (off : Nat) (cs : List C) (h : off + cs.length ≤ row.length) : (splC row off cs).length = row.length := by
  simp [splC]; omega

theorem splC_in (row : List C) (off : Nat) (cs : List C) (h : off + cs.length ≤ row.length) (j : Nat) (hj : j < cs.length) : (splC row off cs)[off + j]? = cs[j]? := by
  simp only [splC, List.append_assoc]
  rw [List.getElem?_append_right (by simp; omega), List.getElem?_append_left (by simp; omega)]
  congr 1
  simp; omega

theorem splC_out (row : List C) (off : Nat) (cs : List C) (h : off + cs.length ≤ row.length) (k : Nat) (hk : k < off ∨ off + cs.length ≤ k) : (splC row off cs)[k]? = row[k]? := by
  simp only [splC, List.append_assoc]
  rcases hk with hk | hk
  · rw [List.getElem?_append_left (by simp; omega), List.getElem?_take, if_pos hk]
  · rw [List.getElem?_append_right (by simp; omega), List.getElem?_append_right (by simp; omega), List.getElem?_drop]
    simp only [List.length_take]
    rw [show min off row.length = off by omega, show off + cs.length + (k - off - cs.length) = k by omega]

theorem splX_len (row : List X) (off : Nat) (cs : List X) (h : off + cs.length ≤ row.length) : (splX row off cs).length = row.length := by
  simp [splX]; omega

theorem splX_in (row : List X) (off : Nat) (cs : List X) (h : off + cs.length ≤ row.length) (j : Nat) (hj : j < cs.length) : (splX row off cs)[off + j]? = cs[j]? := by
  simp only [splX, List.append_assoc]
  rw [List.getElem?_append_right (by simp; omega), List.getElem?_append_left (by simp; omega)]
  congr 1
  simp; omega

theorem splX_out (row : List X) (off : Nat) (cs : List X) (h : off + cs.length ≤ row.length) (k : Nat) (hk : k < off ∨ off + cs.length ≤ k) : (splX row off cs)[k]? = row[k]? := by
  simp only [splX, List.append_assoc]
  rcases hk with hk | hk
  · rw [List.getElem?_append_left (by simp; omega), List.getElem?_take, if_pos hk]
  · rw [List.getElem?_append_right (by simp; omega), List.getElem?_append_right (by simp; omega), List.getElem?_drop]
    simp only [List.length_take]
    rw [show min off row.length = off by omega, show off + cs.length + (k - off - cs.length) = k by omega]

theorem place_inj {n i j i' j' : Nat} (hj : j < n) (hj' : j' < n) (h : i * n + j = i' * n + j') : i = i' ∧ j = j' := by
  have h1 : (i * n + j) / n = i := by rw [Nat.add_comm, Nat.add_mul_div_right _ _ (by omega), Nat.div_eq_of_lt hj]; omega
  have h2 : (i' * n + j') / n = i' := by rw [Nat.add_comm, Nat.add_mul_div_right _ _ (by omega), Nat.div_eq_of_lt hj']; omega
  have h3 : i = i' := by rw [← h1, ← h2, h]
  subst h3
  exact ⟨rfl, by omega⟩

theorem place_lt {n i j len : Nat} (hi : i < len) (hj : j < n) : i * n + j < len * n := by
  have : (i + 1) * n ≤ len * n := Nat.mul_le_mul_right n hi
  rw [Nat.add_mul] at this
  omega

theorem Own.set {w : World} {I F : Nat → Prop} {v : Value} {n : Nat} {es : List (List C)} (h : Own w I F v (.sl true n es)) {i : Nat} {row : List C} (hi : es[i]? = some row)
    (off : Nat) (vs : List Value) (cs : List C) (hlen : vs.length = cs.length) (hoff : off + cs.length ≤ n) (hone : ∀ u ∈ vs, u.oneCell' = true)
    (I' F' : Nat → Prop) (fs : Nat → Nat → Prop) (hI : ∀ b, I b → I' b) (hIF : ∀ b, F b → ¬ I' b) (hF : ∀ b, F b → F' b)
    (hfs : ∀ (j : Nat) (c : C), cs[j]? = some c → ∃ u, vs[j]? = some u ∧ Own w I' (fs j) u c)
    (hfF : ∀ j x, fs j x → F' x ∧ ¬ F x) (hfd : ∀ j j' x, fs j x → fs j' x → j = j') :
    ∃ g o cap cur e fr, v = .slice (some ⟨g, o, none⟩) es.length cap ∧ w.heap[g]? = some (.cells cur e fr) ∧ (∀ k, k < cur.size → ¬ (fr.1 ≤ k ∧ k < fr.2)) ∧ o + i * n + off + vs.length ≤ cur.size ∧ F g ∧
      Own (w.setRow g (spl cur (o + i * n + off) vs)) I' F' v (.sl true n (es.set i (splC row off cs))) := by
  cases h with
  | nil => simp at hi
  | row _ g o len cap _ _ cur e u f hFg hff hd fr hfr hg hsz hn hl0 hc hm hl hcell h1 hrr =>
    have hil : i < len := by rw [← hl0]; exact (List.getElem?_eq_some_iff.1 hi).1
    have hrow : row.length = n := hl i row hi
    have hbound : o + i * n + off + vs.length ≤ cur.size := by
      have h1 : (i + 1) * n ≤ cap * n := Nat.mul_le_mul_right n (by omega)
      rw [Nat.add_mul] at h1
      omega
    have hw : ∀ b, b ≠ g → (w.setRow g (spl cur (o + i * n + off) vs)).heap[b]? = w.heap[b]? := fun b hb => setRow_other w g b _ hb
    refine ⟨g, o, cap, cur, e, fr, by rw [hl0], hg, fun k hk => hfr k (.inl hk), hbound, hFg, ?_⟩
    refine .row F' g o len cap n _ (spl cur (o + i * n + off) vs) e (fun a b => if a = i ∧ off ≤ b ∧ b < off + cs.length then vs.getD (b - off) undef else u a b)
      (fun a b x => if a = i ∧ off ≤ b ∧ b < off + cs.length then fs (b - off) x else f a b x) (hF _ hFg) (fun a b x hx => ?_) (fun a b a' b' x hx hx' => ?_) fr (by rw [spl_size _ _ _ hbound]; exact hfr)
      (setRow_heap w g cur _ e fr hg) (by rw [spl_size _ _ _ hbound]; exact hsz) hn (by simpa using hl0) hc hm (fun a r hr => ?_) (fun a b ha hb => ?_) (fun a b ha hb => ?_) (fun a b r c hr hb => ?_)
    · try simp only at hx
      split at hx
      · exact ⟨(hfF _ _ hx).1, fun e => (hfF _ _ hx).2 (e ▸ hFg)⟩
      · exact ⟨hF _ (hff a b x hx).1, (hff a b x hx).2⟩
    · try simp only at hx hx'
      split at hx
      · rename_i h1
        split at hx'
        · rename_i h2
          have := hfd _ _ _ hx hx'
          omega
        · exact absurd (hff a' b' x hx').1 (hfF _ _ hx).2
      · split at hx'
        · exact absurd (hff a b x hx).1 (hfF _ _ hx').2
        · exact hd a b a' b' x hx hx'
    · rw [List.getElem?_set] at hr
      split at hr
      · split at hr
        · cases hr
          rw [splC_len _ _ _ (by omega), hrow]
        · cases hr
      · exact hl a r hr
    · by_cases hin : a = i ∧ off ≤ b ∧ b < off + cs.length
      · rw [if_pos hin]
        obtain ⟨rfl, hb1, hb2⟩ := hin
        have := spl_in cur (o + a * n + off) vs hbound (b - off) (by omega)
        rw [show o + a * n + off + (b - off) = o + a * n + b by omega] at this
        rw [this, List.getElem?_eq_getElem (by omega)]
        simp [List.getD, List.getElem?_eq_getElem (show b - off < vs.length by omega)]
      · rw [if_neg hin]
        rw [spl_out _ _ _ hbound _ ?_]
        · exact hcell a b ha hb
        · by_cases hai : a = i
          · subst hai
            have : ¬ (off ≤ b ∧ b < off + cs.length) := fun h => hin ⟨rfl, h⟩
            omega
          · rcases Nat.lt_or_gt_of_ne hai with hlt | hgt
            · left
              have : (a + 1) * n ≤ i * n := Nat.mul_le_mul_right n hlt
              rw [Nat.add_mul] at this
              omega
            · right
              have : (i + 1) * n ≤ a * n := Nat.mul_le_mul_right n hgt
              rw [Nat.add_mul] at this
              omega
    · by_cases hin : a = i ∧ off ≤ b ∧ b < off + cs.length
      · rw [if_pos hin]
        have hbl : b - off < vs.length := by omega
        have : vs.getD (b - off) undef = vs[b - off] := by simp [List.getD, List.getElem?_eq_getElem hbl]
        rw [this]
        exact hone _ (by simp)
      · rw [if_neg hin]
        exact h1 a b ha hb
    · rw [List.getElem?_set] at hr
      by_cases hai : i = a
      · subst hai
        simp only [if_true] at hr
        split at hr
        · cases hr
          by_cases hin : off ≤ b ∧ b < off + cs.length
          · simp only [true_and, hin, and_self, if_true]
            have := splC_in row off cs (by omega) (b - off) (by omega)
            rw [show off + (b - off) = b by omega] at this
            rw [this] at hb
            obtain ⟨u', hu', hO⟩ := hfs _ c hb
            have hg' : vs.getD (b - off) undef = u' := by simp [List.getD, hu']
            rw [hg']
            refine hO.frame (fun _ h => h) (fun _ h => h) (fun x hx => hw x fun e => ?_) (fun x hx => hw x fun e => ?_)
            · exact hIF g hFg (e ▸ hx)
            · exact (hfF _ _ hx).2 (e ▸ hFg)
          · simp only [true_and, hin, if_false]
            rw [splC_out row off cs (by omega) b (by omega)] at hb
            refine (hrr i b row c hi hb).frame hI (fun _ h => h) (fun x hx => hw x fun e => ?_) (fun x hx => hw x fun e => ?_)
            · exact hIF g hFg (e ▸ hI _ hx)
            · exact (hff i b x hx).2 e
        · cases hr
      · rw [if_neg hai] at hr
        have hai' : ¬ (a = i ∧ off ≤ b ∧ b < off + cs.length) := fun h => hai h.1.symm
        simp only [hai', if_false]
        refine (hrr a b r c hr hb).frame hI (fun _ h => h) (fun x hx => hw x fun e => ?_) (fun x hx => hw x fun e => ?_)
        · exact hIF g hFg (e ▸ hI _ hx)
        · exact (hff a b x hx).2 e

end Go.Proofs.YtppfojiogappaaaDoor.V

set_option linter.unusedVariables false

set_option linter.unusedSimpArgs false

namespace Go.Proofs.YtppfojiogappaaaDoor.V

open Go Classical

theorem memb_iff {l : List Nat} {a : Nat} : memb l a = true ↔ a ∈ l := by
  induction l with
  | nil => simp [memb]
  | cons k r ih =>
    simp only [memb]
    by_cases h : k = a
    · simp [h]
    · simp [h, ih, Ne.symm h]

theorem memb_append {l l' : List Nat} {a : Nat} : memb (l ++ l') a = true ↔ memb l a = true ∨ memb l' a = true := by
  simp [memb_iff]

theorem nodup_append {l l' : List Nat} (h : nodup (l ++ l') = true) : nodup l' = true ∧ ∀ a, memb l a = true → memb l' a = true → False := by
  induction l with
  | nil => exact ⟨h, fun a ha => by simp [memb] at ha⟩
  | cons k r ih =>
    simp only [List.cons_append, nodup] at h
    split at h
    · cases h
    · rename_i hk
      obtain ⟨h1, h2⟩ := ih h
      refine ⟨h1, fun a ha ha' => ?_⟩
      simp only [memb] at ha
      split at ha
      · rename_i e
        subst e
        exact hk (memb_append.2 (.inr ha'))
      · exact h2 a ha ha'

theorem Own.sub {w : World} {I F : Nat → Prop} {v u : Value} {n : Nat} {es : List (List C)} (h : Own w I F v (.sl true n es)) {lo hi : Nat} (hs : SubOf v n lo hi u) (h1 : lo ≤ hi) (h2 : hi ≤ es.length) :
    Own w I F u (.sl true n ((es.take hi).drop lo)) := by
  cases h with
  | nil =>
    simp at h2
    subst h2
    have : lo = 0 := by omega
    subst this
    rcases hs with ⟨_, rfl⟩ | ⟨g, o, len, cap, o', cap', e, _⟩
    · exact .nil F n
    · cases e
  | row _ g o len cap _ _ cs e u' f hF hff hd fr hfr hg hsz hn hlen hc hm hl hcell h1' hr =>
    rcases hs with ⟨e, _⟩ | ⟨g', og, leng, capg, o', cap', e, rfl, h3, h4, ho'⟩
    · cases e
    · cases e
      refine .row F g o' (hi - lo) cap' n _ cs _ (fun i j => u' (lo + i) j) (fun i j => f (lo + i) j) hF (fun i j x hx => hff _ _ x hx) (fun i j i' j' x hx hx' => ?_) fr hfr hg ?_ hn
        (by simp; omega) (by omega) (by omega) (fun i r hr' => ?_) (fun i j hi' hj => ?_) (fun i j hi' hj => h1' _ _ (by omega) hj) (fun i j r c hr' hj => ?_)
      · have := hd _ _ _ _ x hx hx'
        omega
      · rcases ho' with rfl | ⟨rfl, e⟩
        · rcases Nat.lt_or_ge cap lo with hcl | hcl
          · have : cap' = 0 := by omega
            subst this
            omega
          · have : lo * n + (cap - lo) * n = cap * n := by rw [← Nat.add_mul]; congr 1; omega
            have : cap' * n ≤ (cap - lo) * n := Nat.mul_le_mul_right n h3
            omega
        · have : lo * n ≤ cap * n := Nat.mul_le_mul_right n (by omega)
          omega
      · rw [List.getElem?_drop, List.getElem?_take] at hr'
        split at hr'
        · exact hl _ r hr'
        · cases hr'
      · rcases ho' with rfl | ⟨rfl, e⟩
        · have := hcell (lo + i) j (by omega) hj
          rwa [Nat.add_mul, ← Nat.add_assoc] at this
        · omega
      · rw [List.getElem?_drop, List.getElem?_take] at hr'
        split at hr'
        · exact hr _ j r c hr' hj
        · cases hr'

section

variable {P : Program} {w0 : World} {A : AA} {B : List (Nat × Nat × Nat)} {nt : Nat} {τ : Nat → Option TD}

theorem mvX_own {g : G} {s : S} {w : World} (hm : Mem w0 A B g s w) {u : Value} {x : X} (hx : XOk w g s.regs u x) {c : C} {ks : List Nat} {pr : Bool} (h : mvX s x = some (c, ks, pr)) :
    u.oneCell' = true ∧ Own w (if pr then fun _ => False else g.I) (fun b => ∃ k, memb ks k = true ∧ g.F k b) u c := by
  cases x with
  | sc v =>
    simp only [mvX] at h
    split at h
    · rename_i h1
      cases h
      have : u = v := hx
      subst this
      exact ⟨h1, .sc _ _⟩
    · cases h
  | nil n =>
    cases h
    have : u = .slice none 0 0 := hx
    subst this
    exact ⟨rfl, .nil _ _⟩
  | rd ln n es =>
    cases ln with
    | none =>
      cases h
      have hR : Rd w g.I u (.sl true n es) := hx
      exact ⟨rd_one hR, .rd _ _ _ _ hR.flag⟩
    | some q => cases h
  | ref k gn =>
    simp only [mvX] at h
    split at h
    · rename_i r hr
      cases h
      obtain ⟨h1, h2, h3⟩ := regAt_some hr
      obtain ⟨r', h4, h5, h6⟩ := hx
      rw [h1] at h4
      cases h4
      rw [h6 h2 h3.symm]
      refine ⟨rd_one (reg_rd hm h1 h2), (hm.regs k r h1 h2).frame (fun _ h => h) (fun b hb => ⟨k, by simp [memb], hb⟩) (fun _ _ => rfl) (fun _ _ => rfl)⟩
    · cases h
  | sub k gn lo hi =>
    simp only [mvX] at h
    split at h
    · rename_i r hr
      cases h
      obtain ⟨h1, h2, h3⟩ := regAt_some hr
      obtain ⟨r', h4, h5, h6⟩ := hx
      rw [h1] at h4
      cases h4
      obtain ⟨h7, h8, h9⟩ := h6 h2 h3.symm
      refine ⟨rd_one (sub_rd (reg_rd hm h1 h2) h7 h8 h9), ((hm.regs k r h1 h2).sub h7 h8 h9).frame (fun _ h => h) (fun b hb => ⟨k, by simp [memb], hb⟩) (fun _ _ => rfl) (fun _ _ => rfl)⟩
    · cases h
  | inn _ _ _ _ => cases h
  | fx _ _ _ => cases h

theorem mvXs_own {g : G} {s : S} {w : World} (hm : Mem w0 A B g s w) : ∀ {xs : List X} {cs : List C} {ks : List Nat} {pr : Bool}, mvXs s xs = some (cs, ks, pr) → nodup ks = true →
    cs.length = xs.length ∧ ∃ fs : Nat → Nat → Prop, (∀ j b, fs j b → ∃ k, memb ks k = true ∧ g.F k b) ∧ (∀ j j' b, fs j b → fs j' b → j = j') ∧
      ∀ (j : Nat) (x : X) (c : C), xs[j]? = some x → cs[j]? = some c → ∀ u, XOk w g s.regs u x → u.oneCell' = true ∧ Own w (if pr then fun _ => False else g.I) (fs j) u c
  | [], cs, ks, pr, h, _ => by
    cases h
    exact ⟨rfl, fun _ _ => False, fun j b hb => hb.elim, fun j j' b hb => hb.elim, fun j x c hx => by simp at hx⟩
  | x :: r, cs, ks, pr, h, hnd => by
    simp only [mvXs] at h
    split at h
    · rename_i c0 k1 p1 cs0 k2 p2 h1 h2
      cases h
      obtain ⟨hnd2, hdis⟩ := nodup_append hnd
      obtain ⟨hl, fs, f1, f2, f3⟩ := mvXs_own hm h2 hnd2
      refine ⟨by simp [hl], fun j b => match j with | 0 => ∃ k, memb k1 k = true ∧ g.F k b | j + 1 => fs j b, fun j b hb => ?_, fun j j' b hb hb' => ?_, fun j y c hy hc u hu => ?_⟩
      · cases j with
        | zero =>
          obtain ⟨k, hk, hf⟩ := hb
          exact ⟨k, memb_append.2 (.inl hk), hf⟩
        | succ j =>
          obtain ⟨k, hk, hf⟩ := f1 j b hb
          exact ⟨k, memb_append.2 (.inr hk), hf⟩
      · cases j with
        | zero =>
          cases j' with
          | zero => rfl
          | succ j' =>
            obtain ⟨k, hk, hf⟩ := hb
            obtain ⟨k', hk', hf'⟩ := f1 j' b hb'
            have : g.ow b = .reg k := hf
            have e : g.ow b = .reg k' := hf'
            rw [this] at e
            cases e
            exact (hdis k hk hk').elim
        | succ j =>
          cases j' with
          | zero =>
            obtain ⟨k, hk, hf⟩ := hb'
            obtain ⟨k', hk', hf'⟩ := f1 j b hb
            have : g.ow b = .reg k := hf
            have e : g.ow b = .reg k' := hf'
            rw [this] at e
            cases e
            exact (hdis k hk hk').elim
          | succ j' => rw [f2 j j' b hb hb']
      · cases j with
        | zero =>
          simp at hy hc
          subst hy
          subst hc
          obtain ⟨q1, q2⟩ := mvX_own hm hu h1
          refine ⟨q1, q2.frame (fun b hb => ?_) (fun _ h => h) (fun _ _ => rfl) (fun _ _ => rfl)⟩
          cases p1 <;> cases p2 <;> simp_all
        | succ j =>
          simp at hy hc
          obtain ⟨q1, q2⟩ := f3 j y c hy hc u hu
          refine ⟨q1, q2.frame (fun b hb => ?_) (fun _ h => h) (fun _ _ => rfl) (fun _ _ => rfl)⟩
          cases p1 <;> cases p2 <;> simp_all
    · cases h

theorem storeVar_run {t : Nat} {d : TD} (hd : TyOk P t d) (w : World) (b o : Nat) (v : Value) (cur : Array Value) (e : TypeId) (fr : Nat × Nat) (hg : w.heap[b]? = some (.cells cur e fr)) (hfr : ∀ k, k < cur.size → ¬ (fr.1 ≤ k ∧ k < fr.2))
    (hsz : v.cells.size = d.size) (hb : o + v.cells.size ≤ cur.size) (h1 : ∀ u ∈ v.cells.toList, u.oneCell' = true) :
    (storeVar t ⟨b, o, none⟩ v).run P w = .ok () (w.setRow b (spl cur o v.cells.toList)) := by
  obtain ⟨i, z, hi, hs, _⟩ := hd.info
  have := run_stores (P := P) b o e fr v.cells.toList 0 cur w hg hfr (by simpa using hb) h1
  simp only [Nat.add_zero] at this
  simp [storeVar, sizeOf, typeInfo, hi, hs, hsz, this]

theorem store_sound (hτ : ∀ t d, τ t = some d → TyOk P t d) (o : Oper) (t : Nat) (p x : Operand) (ho : o.op = .store t p x) : Sound P w0 A B nt o (storeW τ t p x o) := by
  intro s a w k next Q hr hW hn
  obtain ⟨hdf, hsz, g, hm, hs⟩ := hr
  unfold storeW at hW
  split at hW
  · rename_i d b gn off agg xs hdst hd hp hx
    have hT := hτ _ _ hd
    split at hW
    · rename_i bx hbx
      split at hW
      · rename_i hgen
        split at hW
        · rename_i hlen
          split at hW
          · rename_i hoff
            split at hW
            · rename_i hall
              obtain ⟨x', h4, h5, h6⟩ := ev_ok hs hp
              rw [hbx] at h4
              cases h4
              have hp' := h6 hgen.symm
              have hv := ev_ok hs hx
              obtain ⟨hc1, hc2⟩ := vals_cells (v := a.eval x) hv (fun _ u y hy hxo => okX_one hm hxo (by rw [hy] at hall; simpa using hall))
              obtain ⟨q1, q2, cs, el, q3, q4, q5⟩ := hm.boxes b bx hbx
              have hone : ∀ u ∈ (a.eval x).cells.toList, u.oneCell' = true := by
                intro u hu
                obtain ⟨j, hj, rfl⟩ := List.mem_iff_getElem.1 hu
                obtain ⟨u', hu', hxo⟩ := hc2 j (xs[j]'(by simp at hj; omega)) (by simp)
                have : (a.eval x).cells.toList[j] = u' := by
                  rw [Array.getElem_toList]
                  simp at hj
                  rw [Array.getElem?_eq_getElem hj] at hu'
                  exact Option.some.inj hu'
                rw [this]
                exact okX_one hm hxo (List.all_eq_true.1 hall _ (by simp))
              have hrun := storeVar_run hT w (g.loc b).1 ((g.loc b).2 + off) (a.eval x) cs el (0, 0) q3 (fun k _ h => by simp at h) (by omega) (by omega) hone
              have hvl : (a.eval x).cells.toList.length = xs.length := by simpa using hc1
              have hb1 : (g.loc b).2 + off + (a.eval x).cells.toList.length ≤ cs.size := by omega
              obtain ⟨hst, hm'⟩ := hm.setBox b bx hbx cs (spl cs ((g.loc b).2 + off) (a.eval x).cells.toList) el q3 (setRow_heap w _ cs _ el _ q3) (spl_size _ _ _ hb1)
                (fun k hk => spl_out _ _ _ hb1 k (by omega)) (fun y hy => setRow_other w _ y _ hy) rfl rfl rfl (by simp) (splX bx.cells off xs) (splX_len _ _ _ hoff) (fun j y hj => by
                  by_cases hin : off ≤ j ∧ j < off + xs.length
                  · have h1 := splX_in bx.cells off xs hoff (j - off) (by omega)
                    rw [show off + (j - off) = j by omega] at h1
                    rw [h1] at hj
                    obtain ⟨u, hu, hxo⟩ := hc2 _ y hj
                    have h2 := spl_in cs ((g.loc b).2 + off) (a.eval x).cells.toList hb1 (j - off) (by omega)
                    rw [show (g.loc b).2 + off + (j - off) = (g.loc b).2 + j by omega] at h2
                    refine ⟨u, ?_, hone u ?_, hxo⟩
                    · rw [h2]; simpa using hu
                    · exact List.mem_of_getElem? (by simpa using hu)
                  · rw [splX_out bx.cells off xs hoff j (by omega)] at hj
                    obtain ⟨u, hu, h1, hxo⟩ := q5 j y hj
                    exact ⟨u, by rw [spl_out _ _ _ hb1 _ (by omega)]; exact hu, h1, hxo⟩)
              refine finish0 hdf hsz hs hst hm' rfl ?_ hdst hW hn
              simp [execOp, ho, hp', Instr.storeAt, Instr.sureAddr, hrun]
            · exact hW.elim
          · exact hW.elim
        · exact hW.elim
      · exact hW.elim
    · exact hW.elim
  · rename_i d h gn i off agg xs hdst hd hp hx
    have hT := hτ _ _ hd
    split at hW
    · rename_i r hreg
      split at hW
      · rename_i cs ks pr hmv
        split at hW
        · rename_i hlen
          split at hW
          · rename_i hoff
            split at hW
            · rename_i hnd
              split at hW
              · exact hW.elim
              · rename_i hkh
                obtain ⟨row, hrow, hW⟩ := hW
                obtain ⟨h1, h2, h3⟩ := regAt_some hreg
                obtain ⟨r', h4, h5, h6⟩ := ev_ok hs hp
                rw [h1] at h4
                cases h4
                obtain ⟨b, oo, len, cap, e1, e2, e3⟩ := h6 h2 h3.symm
                obtain ⟨hcl, fs, f1, f2, f3⟩ := mvXs_own hm hmv hnd
                have hv := ev_ok hs hx
                obtain ⟨hc1, hc2⟩ := vals_cells (v := a.eval x) hv (fun _ u y hy hxo => by
                  subst hy
                  have : ∃ c, cs[0]? = some c := ⟨cs[0]'(by simp at hcl; omega), by simp⟩
                  obtain ⟨c, hc⟩ := this
                  exact (f3 0 y c rfl hc u hxo).1)
                have hvl : (a.eval x).cells.toList.length = cs.length := by simp [hc1, hcl]
                have hone : ∀ u ∈ (a.eval x).cells.toList, u.oneCell' = true := by
                  intro u hu
                  obtain ⟨j, hj, rfl⟩ := List.mem_iff_getElem.1 hu
                  obtain ⟨u', hu', hxo⟩ := hc2 j (xs[j]'(by simp at hj; omega)) (by simp)
                  have : (a.eval x).cells.toList[j] = u' := by
                    rw [Array.getElem_toList]
                    simp at hj
                    rw [Array.getElem?_eq_getElem hj] at hu'
                    exact Option.some.inj hu'
                  rw [this]
                  exact (f3 j _ (cs[j]'(by omega)) (by simp) (by simp) u' hxo).1
                have hFI : ∀ b, g.F h b → ¬ (if (r.pure && pr) then fun _ => False else g.I) b := by
                  intro b hb hI
                  split at hI
                  · exact hI
                  · have q1 : g.ow b = .reg h := hb
                    have q2 : g.ow b = .imm := hI
                    rw [q1] at q2
                    cases q2
                obtain ⟨gb, og, capg, cur, e, fr, g1, g2, g3, g4, g5, g6⟩ := (hm.regs h r h1 h2).set hrow off (a.eval x).cells.toList cs hvl (by omega) hone
                  (if (r.pure && pr) then fun _ => False else g.I) ((g.merge ks h).F h) fs (fun b hb => by
                    cases hpu : r.pure <;> cases pr <;> simp_all)
                  hFI (fun b hb => by
                    have hb' : g.ow b = .reg h := hb
                    show (g.merge ks h).ow b = .reg h
                    rw [merge_reg hb']
                    split <;> rfl)
                  (fun j c hc => by
                    have hj : j < xs.length := by rw [← hcl]; exact (List.getElem?_eq_some_iff.1 hc).1
                    obtain ⟨u, hu, hxo⟩ := hc2 j xs[j] (by simp)
                    refine ⟨u, by simpa using hu, ((f3 j _ c (by simp) hc u hxo).2).frame (fun b hb => ?_) (fun _ h => h) (fun _ _ => rfl) (fun _ _ => rfl)⟩
                    cases hpu : r.pure <;> cases pr <;> simp_all)
                  (fun j y hy => by
                    obtain ⟨k, hk, hf⟩ := f1 j y hy
                    have hf' : g.ow y = .reg k := hf
                    refine ⟨?_, fun hb => ?_⟩
                    · show (g.merge ks h).ow y = .reg h
                      rw [merge_reg hf', if_pos hk]
                    · have hb' : g.ow y = .reg h := hb
                      rw [hf'] at hb'
                      cases hb'
                      exact hkh hk)
                  (fun j j' y hy hy' => f2 j j' y hy hy')
                rw [e1] at g1
                cases g1
                obtain ⟨hst, hm'⟩ := hm.setEl (w' := w.setRow b (spl cur (oo + i * r.n + off) (a.eval x).cells.toList)) h r h1 h2 ks (by simpa using hkh) (r.es.set i (splC row off cs)) (r.pure && pr) (by simp)
                  (fun y hy => setRow_other w b y _ (fun e => hy (by rw [e]; exact g5))) rfl rfl rfl (by simp) g6
                have hrun := storeVar_run hT w b (oo + i * r.n + off) (a.eval x) cur e fr g2 g3 (by omega) (by simpa using g4) hone
                refine finish0 hdf hsz hs hst hm' rfl ?_ hdst hW hn
                simp [execOp, ho, e3, Instr.storeAt, Instr.sureAddr, hrun]
            · exact hW.elim
          · exact hW.elim
        · exact hW.elim
      · exact hW.elim
    · exact hW.elim
  · exact hW.elim

end

end Go.Proofs.YtppfojiogappaaaDoor.V

set_option linter.unusedVariables false

set_option linter.unusedSimpArgs false

namespace Go.Proofs.YtppfojiogappaaaDoor.V

open Go Classical

section

variable {P : Program} {w0 : World} {A : AA} {B : List (Nat × Nat × Nat)} {nt : Nat} {τ : Nat → Option TD}

def boxW (nt : Nat) (o : Oper) (x : Operand) (s : S) (k : S → Prop) : Prop :=
  match o.dst, s.ev x with
  | some d, some (.vals agg xs) => if xs.all (okX s) then putK nt o { s with boxes := put s.boxes d ⟨boxGen s.boxes d, xs⟩ } (.bptr d (boxGen s.boxes d) 0) k else False
  | _, _ => False

theorem box_sound (o : Oper) (el : Nat) (x : Operand) (ho : o.op = .box el x) : Sound P w0 A B nt o (boxW nt o x) := by
  intro s a w k next Q hr hW hn
  obtain ⟨hdf, hsz, g, hm, hs⟩ := hr
  unfold boxW at hW
  split at hW
  · rename_i d agg xs hd hx
    split at hW
    · rename_i hall
      have hv := ev_ok hs hx
      obtain ⟨hc1, hc2⟩ := vals_cells (v := a.eval x) hv (fun _ u y hy hxo => okX_one hm hxo (by rw [hy] at hall; simpa using hall))
      obtain ⟨hst, hm'⟩ := hm.newBox d (a.eval x).cells el xs ⟨hc1, hc2⟩ (fun j u hu => by
        have hj : j < xs.length := by rw [← hc1]; exact (Array.getElem?_eq_some_iff.1 hu).1
        obtain ⟨u', hu', hxo⟩ := hc2 j xs[j] (by simp)
        rw [hu] at hu'
        cases hu'
        exact okX_one hm hxo (List.all_eq_true.1 hall _ (by simp)))
      refine finish hdf hsz hs hst hm' rfl (v := .pointer (some ⟨w.heap.size, 0, none⟩)) ?_ ?_ hW hn
      · simp [execOp, ho, Instr.box, newVar, newRow]
      · exact ⟨_, get_put_same _ _ _, Nat.le_refl _, fun _ => by simp [G.newBox]⟩
    · exact hW.elim
  · exact hW.elim

def allocW (τ : Nat → Option TD) (nt : Nat) (o : Oper) (el : Nat) (s : S) (k : S → Prop) : Prop :=
  match o.dst, τ el with
  | some d, some td => putK nt o { s with boxes := put s.boxes d ⟨boxGen s.boxes d, td.zero⟩ } (.bptr d (boxGen s.boxes d) 0) k
  | _, _ => False

theorem zero_cells {t : Nat} {d : TD} (hd : TyOk P t d) (w : World) (g : G) (rs : List (Nat × Reg)) :
    ∃ i z, P.info? t = some i ∧ i.zero = some z ∧ z.cells.size = d.size ∧ CellsOk w g rs z.cells d.zero ∧ ∀ (j : Nat) (u : Value), z.cells[j]? = some u → u.oneCell' = true := by
  obtain ⟨i, z, h1, h2, h3, h4, h5⟩ := hd.info
  have hl : z.cells.size = d.zero.length := by
    have := congrArg List.length h5
    simpa using this
  have hat : ∀ (j : Nat) (x : X), d.zero[j]? = some x → z.cells[j]? = some x.v0 := by
    intro j x hx
    have : z.cells.toList[j]? = some x.v0 := by rw [h5]; simp [hx]
    simpa using this
  have hone : ∀ (j : Nat) (x : X), d.zero[j]? = some x → x.v0.oneCell' = true ∧ XOk w g rs x.v0 x := by
    intro j x hx
    have := List.all_eq_true.1 hd.zone x (List.mem_of_getElem? hx)
    cases x with
    | sc v => exact ⟨this, rfl⟩
    | nil n => exact ⟨rfl, rfl⟩
    | _ => cases this
  refine ⟨i, z, h1, h4, by rw [hl, hd.zlen], ⟨hl, fun j x hx => ⟨_, hat j x hx, (hone j x hx).2⟩⟩, fun j u hu => ?_⟩
  have hj : j < d.zero.length := by rw [← hl]; exact (Array.getElem?_eq_some_iff.1 hu).1
  have h6 := hat j d.zero[j] (by simp)
  rw [hu] at h6
  cases h6
  exact (hone j d.zero[j] (by simp)).1

theorem alloc_sound (hτ : ∀ t d, τ t = some d → TyOk P t d) (o : Oper) (el : Nat) (ho : o.op = .alloc el) : Sound P w0 A B nt o (allocW τ nt o el) := by
  intro s a w k next Q hr hW hn
  obtain ⟨hdf, hsz, g, hm, hs⟩ := hr
  unfold allocW at hW
  split at hW
  · rename_i d td hd ht
    obtain ⟨i, z, h1, h2, _, h3, h4⟩ := zero_cells (hτ _ _ ht) w g s.regs
    obtain ⟨hst, hm'⟩ := hm.newBox d z.cells el td.zero h3 h4
    refine finish hdf hsz hs hst hm' rfl (v := .pointer (some ⟨w.heap.size, 0, none⟩)) ?_ ?_ hW hn
    · simp [execOp, ho, Instr.alloc, zeroValue, typeInfo, h1, h2, newVar, newRow]
    · exact ⟨_, get_put_same _ _ _, Nat.le_refl _, fun _ => by simp [G.newBox]⟩
  · exact hW.elim

def ptrK (s : S) (e : E) (off : Nat) (k : E → Prop) : Prop :=
  match e with
  | .bptr b g o => (match boxAt s b g with | some _ => k (.bptr b g (o + off)) | none => False)
  | .eptr h g i o => (match regAt s h g with | some _ => k (.eptr h g i (o + off)) | none => False)
  | .rptr ln row o => if lnLive s ln then k (.rptr ln row (o + off)) else False
  | _ => False

theorem ptrK_ok {g : G} {s : S} {w : World} {v : Value} {e : E} {off : Nat} {k : E → Prop} (hv : EOk w g s.boxes s.regs v e) (h : ptrK s e off k) :
    ∃ b o e', v = .pointer (some ⟨b, o, none⟩) ∧ EOk w g s.boxes s.regs (.pointer (some ⟨b, o + off, none⟩)) e' ∧ k e' := by
  cases e with
  | vals _ _ => exact h.elim
  | tup _ => exact h.elim
  | mapv _ _ _ _ _ => exact h.elim
  | itv _ _ _ _ _ _ _ _ => exact h.elim
  | clo _ _ _ => exact h.elim
  | bptr b gn o =>
    simp only [ptrK] at h
    split at h
    · rename_i cells hb
      obtain ⟨x, h1, h2, h3⟩ := boxAt_some hb
      obtain ⟨x', h4, h5, h6⟩ := hv
      rw [h1] at h4
      cases h4
      exact ⟨_, _, .bptr b gn (o + off), h6 h2.symm, ⟨x, h1, h5, fun _ => by rw [Nat.add_assoc]⟩, h⟩
    · exact h.elim
  | eptr c gn i o =>
    simp only [ptrK] at h
    split at h
    · rename_i r hr
      obtain ⟨h1, h2, h3⟩ := regAt_some hr
      obtain ⟨r', h4, h5, h6⟩ := hv
      rw [h1] at h4
      cases h4
      obtain ⟨b, oo, len, cap, e1, e2, e3⟩ := h6 h2 h3.symm
      exact ⟨_, _, .eptr c gn i (o + off), e3, ⟨r, h1, h5, fun _ _ => ⟨b, oo, len, cap, e1, e2, by rw [Nat.add_assoc]⟩⟩, h⟩
    · exact h.elim
  | rptr ln row o =>
    simp only [ptrK] at h
    split at h
    · rename_i hl
      have key : ∃ b oo, v = .pointer (some ⟨b, oo + o, none⟩) ∧ EOk w g s.boxes s.regs (.pointer (some ⟨b, oo + o + off, none⟩)) (.rptr ln row (o + off)) := by
        cases ln with
        | none =>
          obtain ⟨b, oo, e1, e2, e3⟩ := hv
          exact ⟨b, oo, e1, b, oo, by rw [Nat.add_assoc], e2, e3⟩
        | some q =>
          obtain ⟨c, iv⟩ := q
          obtain ⟨r, h1, h2, h3⟩ := lnLive_some hl
          obtain ⟨r', h4, h5, h6⟩ := hv
          rw [h1] at h4
          cases h4
          obtain ⟨b, oo, e1, e2, e3⟩ := h6 h2 h3.symm
          exact ⟨b, oo, e1, r, h1, h5, fun _ _ => ⟨b, oo, by rw [Nat.add_assoc], e2, e3⟩⟩
      obtain ⟨b, oo, e1, e2⟩ := key
      exact ⟨_, _, _, e1, e2, h⟩
    · exact h.elim

def fieldAddrW (τ : Nat → Option TD) (nt : Nat) (o : Oper) (t : Nat) (p : Operand) (f : Nat) (s : S) (k : S → Prop) : Prop :=
  match τ t, s.ev p with
  | some { kind := .struct fs, .. }, some e => (match fs[f]? with
    | some (off, ft) => (match τ ft with
      | some df => if df.size = 0 then False else ptrK s e off fun e' => putK nt o s e' k
      | none => False)
    | none => False)
  | _, _ => False

theorem fieldAddr_sound (hτ : ∀ t d, τ t = some d → TyOk P t d) (o : Oper) (t : Nat) (p : Operand) (f : Nat) (ho : o.op = .fieldAddr t p f) : Sound P w0 A B nt o (fieldAddrW τ nt o t p f) := by
  intro s a w k next Q hr hW hn
  obtain ⟨hdf, hsz, g, hm, hs⟩ := hr
  unfold fieldAddrW at hW
  split at hW
  · rename_i fs _ _ _ e ht he
    split at hW
    · rename_i off ft hf
      split at hW
      · rename_i df hdf'
        split at hW
        · exact hW.elim
        · rename_i hsz0
          obtain ⟨b, oo, e', h1, h2, h3⟩ := ptrK_ok (ev_ok hs he) hW
          refine finish hdf hsz hs (Step.refl g s w) hm rfl ?_ h2 h3 hn
          obtain ⟨arr, hu, ha⟩ := (hτ _ _ ht).kind
          obtain ⟨i, z, hi, hisz, _⟩ := (hτ _ _ hdf').info
          have hfld : ∃ fl, arr[f]? = some fl ∧ fl.offset = off ∧ fl.type = ft := by
            rw [← ha] at hf
            simp only [List.getElem?_map, Array.getElem?_toList] at hf
            cases hq : arr[f]? with
            | none => rw [hq] at hf; cases hf
            | some fl => rw [hq] at hf; cases hf; exact ⟨fl, rfl, rfl, rfl⟩
          obtain ⟨fl, g1, g2, g3⟩ := hfld
          subst g2
          subst g3
          have : ¬ (i.size = 0) := by rw [hisz]; exact hsz0
          simp [execOp, ho, h1, Instr.fieldAt, run_underlying hu, g1, Instr.sureAddr, fieldPlace, sizeOf, typeInfo, hi, this, add_eq]
      · exact hW.elim
    · exact hW.elim
  · exact hW.elim

def nilCheckW (nt : Nat) (o : Oper) (p : Operand) (s : S) (k : S → Prop) : Prop :=
  match s.ev p with
  | some e => ptrK s e 0 fun e' => putK nt o s e' k
  | none => False

theorem nilCheck_sound (o : Oper) (p : Operand) (ho : o.op = .nilCheck p) : Sound P w0 A B nt o (nilCheckW nt o p) := by
  intro s a w k next Q hr hW hn
  obtain ⟨hdf, hsz, g, hm, hs⟩ := hr
  unfold nilCheckW at hW
  split at hW
  · rename_i e he
    obtain ⟨b, oo, e', h1, h2, h3⟩ := ptrK_ok (ev_ok hs he) hW
    refine finish hdf hsz hs (Step.refl g s w) hm rfl ?_ h2 h3 hn
    simp [execOp, ho, h1]
  · exact hW.elim

def fieldW (τ : Nat → Option TD) (nt : Nat) (o : Oper) (t : Nat) (x : Operand) (f : Nat) (s : S) (k : S → Prop) : Prop :=
  match τ t, s.ev x with
  | some { kind := .struct fs, .. }, some (.vals true xs) => (match fs[f]? with
    | some (off, ft) => (match τ ft with
      | some df => if okKind df.kind then (match mkE df ((xs.drop off).take df.size) with
        | some e => putK nt o s e k
        | none => False) else False
      | none => False)
    | none => False)
  | _, _ => False

theorem isAgg_run {t : Nat} {d : TD} (hd : TyOk P t d) (hk : okKind d.kind = true) (w : World) : (isAgg t).run P w = .ok (aggOf d) w := by
  have := hd.kind
  cases hkd : d.kind with
  | other => rw [hkd] at hk; cases hk
  | struct fs =>
    rw [hkd] at this
    obtain ⟨arr, hu, _⟩ := this
    simp [isAgg, run_underlying hu, aggOf, hkd, isAggK]
  | _ =>
    rw [hkd] at this
    simp [isAgg, run_underlying this, aggOf, hkd, isAggK]

theorem field_sound (hτ : ∀ t d, τ t = some d → TyOk P t d) (o : Oper) (t : Nat) (x : Operand) (f : Nat) (ho : o.op = .field t x f) : Sound P w0 A B nt o (fieldW τ nt o t x f) := by
  intro s a w k next Q hr hW hn
  obtain ⟨hdf, hsz, g, hm, hs⟩ := hr
  unfold fieldW at hW
  split at hW
  · rename_i fs _ _ _ xs ht hx
    split at hW
    · rename_i off ft hf
      split at hW
      · rename_i df hdf'
        split at hW
        · rename_i hk
          split at hW
          · rename_i e hme
            obtain ⟨us, hus, hc1, hc2⟩ := ev_ok hs hx
            obtain ⟨arr, hu, ha⟩ := (hτ _ _ ht).kind
            obtain ⟨i, z, hi, hisz, _⟩ := (hτ _ _ hdf').info
            have hfld : ∃ fl, arr[f]? = some fl ∧ fl.offset = off ∧ fl.type = ft := by
              rw [← ha] at hf
              simp only [List.getElem?_map, Array.getElem?_toList] at hf
              cases hq : arr[f]? with
              | none => rw [hq] at hf; cases hf
              | some fl => rw [hq] at hf; cases hf; exact ⟨fl, rfl, rfl, rfl⟩
            obtain ⟨fl, g1, g2, g3⟩ := hfld
            subst g2
            subst g3
            have hag := isAgg_run (hτ _ _ hdf') hk w
            unfold mkE at hme
            split at hme
            · rename_i hlen
              split at hme
              · rename_i hagg
                cases hme
                refine finish hdf hsz hs (Step.refl g s w) hm rfl (v := .agg (us.extract fl.offset (fl.offset + df.size))) (e := .vals true ((xs.drop fl.offset).take df.size)) ?_ ⟨_, rfl, ?_, fun j y hj => ?_⟩ hW hn
                · simp [execOp, ho, hus, Instr.field, run_underlying hu, g1, asAgg, part, hag, hagg, sizeOf, typeInfo, hi, hisz]
                · simp at hlen ⊢
                  omega
                · rw [List.getElem?_take] at hj
                  split at hj
                  · rw [List.getElem?_drop] at hj
                    obtain ⟨u, hu', hxo⟩ := hc2 _ y hj
                    refine ⟨u, ?_, hxo⟩
                    rw [Array.getElem?_extract, if_pos]
                    · exact hu'
                    · have := (Array.getElem?_eq_some_iff.1 hu').1
                      omega
                  · cases hj
              · rename_i hagg
                split at hme
                · rename_i y hy
                  cases hme
                  have h0 : ((xs.drop fl.offset).take df.size)[0]? = some y := by rw [hy]; rfl
                  rw [List.getElem?_take] at h0
                  split at h0
                  · rw [List.getElem?_drop] at h0
                    obtain ⟨u, hu', hxo⟩ := hc2 _ y h0
                    refine finish hdf hsz hs (Step.refl g s w) hm rfl (v := u) (e := .vals false [y]) ?_ ⟨_, rfl, hxo⟩ hW hn
                    simp only [Nat.add_zero] at hu'
                    have hagg' : aggOf df = false := by simpa using hagg
                    simp [execOp, ho, hus, Instr.field, run_underlying hu, g1, asAgg, part, hag, hagg', hu']
                  · cases h0
                · cases hme
            · cases hme
          · exact hW.elim
        · exact hW.elim
      · exact hW.elim
    · exact hW.elim
  · exact hW.elim

def extractW (nt : Nat) (o : Oper) (t : Operand) (i : Nat) (s : S) (k : S → Prop) : Prop :=
  match s.ev t with
  | some (.tup ps) => (match ps[i]? with
    | some p => putK nt o s (.vals p.1 p.2) k
    | none => False)
  | _ => False

theorem extract_sound (o : Oper) (t : Operand) (i : Nat) (ho : o.op = .extract t i) : Sound P w0 A B nt o (extractW nt o t i) := by
  intro s a w k next Q hr hW hn
  obtain ⟨hdf, hsz, g, hm, hs⟩ := hr
  unfold extractW at hW
  split at hW
  · rename_i ps ht
    split at hW
    · rename_i p hp
      obtain ⟨vs, h1, h2, h3⟩ := ev_ok hs ht
      obtain ⟨u, hu, hv⟩ := h3 i p hp
      refine finish hdf hsz hs (Step.refl g s w) hm rfl (v := u) (e := .vals p.1 p.2) ?_ hv hW hn
      simp [execOp, ho, h1, Instr.extract, hu]
    · exact hW.elim
  · exact hW.elim

def lenW (τ : Nat → Option TD) (nt : Nat) (o : Oper) (t : Nat) (x : Operand) (s : S) (k : S → Prop) : Prop :=
  match τ t, s.ev x with
  | some { kind := .str, .. }, some (.vals false [.sc (.string b)]) => putK nt o s (.vals false [.sc (.int .i64 (b.size : Int))]) k
  | some { kind := .slice _, .. }, some (.vals false [y]) => withC s y fun _ es => putK nt o s (.vals false [.sc (.int .i64 (es.length : Int))]) k
  | _, _ => False

theorem len_sound (hτ : ∀ t d, τ t = some d → TyOk P t d) (o : Oper) (t : Nat) (x : Operand) (ho : o.op = .call { callee := .builtin .len, args := #[x], argTypes := #[t] }) : Sound P w0 A B nt o (lenW τ nt o t x) := by
  intro s a w k next Q hr hW hn
  obtain ⟨hdf, hsz, g, hm, hs⟩ := hr
  unfold lenW at hW
  split at hW
  · rename_i b ht hx
    obtain ⟨y, e1, hv⟩ := ev_ok hs hx
    cases e1
    have hv' : a.eval x = .string b := hv
    have hu : P.underlying t = some .string := (hτ _ _ ht).kind
    refine finish hdf hsz hs (Step.refl g s w) hm rfl ?_ (sc_ok _ _ _ _ _) hW hn
    simp [execOp, ho, resolve, invoke, builtin, hv', Builtin.len_, run_underlying hu, goInt]
  · rename_i e y ht hx
    obtain ⟨y', e1, hv⟩ := ev_ok hs hx
    cases e1
    obtain ⟨n, es, hR, hK⟩ := withC_rd hm hv hW
    obtain ⟨b, cap, hf⟩ := hR.form
    have hu : P.underlying t = some (.slice _) := (hτ _ _ ht).kind
    refine finish hdf hsz hs (Step.refl g s w) hm rfl ?_ (sc_ok _ _ _ _ _) hK hn
    simp [execOp, ho, resolve, invoke, builtin, hf, Builtin.len_, run_underlying hu, goInt]
  · exact hW.elim

@[irreducible] noncomputable def btOf (s : ByteArray) (i : Int) : Int := (hid (fun (s : ByteArray) (i : Int) => (if h : i.toNat < s.size then ((s[i.toNat]'h).toNat : Int) else 0 : Int))).1 s i

theorem btOf_eq (s : ByteArray) (i : Int) : btOf s i = (if h : i.toNat < s.size then ((s[i.toNat]'h).toNat : Int) else 0) := by
  unfold btOf
  rw [(hid _).2]

def indexW (τ : Nat → Option TD) (nt : Nat) (o : Oper) (t : Nat) (x i : Operand) (s : S) (k : S → Prop) : Prop :=
  match τ t, s.ev x, s.ev i with
  | some { kind := .str, .. }, some (.vals false [.sc (.string b)]), some (.vals false [.sc (.int _ n)]) => 0 ≤ n ∧ n < (b.size : Int) ∧ putK nt o s (.vals false [.sc (.int .u8 (btOf b n))]) k
  | _, _, _ => False

theorem index_sound (hτ : ∀ t d, τ t = some d → TyOk P t d) (o : Oper) (t : Nat) (x i : Operand) (ho : o.op = .index t x i) : Sound P w0 A B nt o (indexW τ nt o t x i) := by
  intro s a w k next Q hr hW hn
  obtain ⟨hdf, hsz, g, hm, hs⟩ := hr
  unfold indexW at hW
  split at hW
  · rename_i b _ n ht hx hi
    obtain ⟨y, e1, hv⟩ := ev_ok hs hx
    cases e1
    obtain ⟨y, e1, hv2⟩ := ev_ok hs hi
    cases e1
    have hv' : a.eval x = .string b := hv
    have hv2' : a.eval i = .int _ n := hv2
    have hu : P.underlying t = some .string := (hτ _ _ ht).kind
    obtain ⟨h0, h1, hK⟩ := hW
    refine finish hdf hsz hs (Step.refl g s w) hm rfl ?_ (sc_ok _ _ _ _ _) hK hn
    have hlt : n.toNat < b.size := by omega
    have hb : b[n.toNat]? = some b[n.toNat] := by simp [hlt]
    simp [execOp, ho, Instr.index, hv', hv2', asIntOf, run_underlying hu, h0, hb, btOf_eq, hlt]
  · exact hW.elim

end

end Go.Proofs.YtppfojiogappaaaDoor.V

