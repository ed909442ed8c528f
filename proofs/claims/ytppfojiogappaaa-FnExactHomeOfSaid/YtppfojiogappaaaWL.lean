/- From what a function is known to do to the call of a law: it returns true, and nothing that was there has turned. -/
import Derived.Test.YtppfojiogappaaaWA
import Derived.Below
set_option linter.unusedVariables false
set_option linter.unusedSimpArgs false
namespace Go.Proofs.Ytppfojiogappaaa.V
open Go Go.RowKit

@[reducible] def iV (x : Int) : AV := .rdv false [.sc (.int .i64 x)]
@[reducible] def sV (s : ByteArray) : AV := .rdv false [.sc (.string s)]
@[reducible] def boV (b : Bool) : AV := .rdv false [.sc (.bool b)]
@[reducible] def bV (xs : List Int) : AV := .rdv false [.sl true 1 (bts xs)]
@[reducible] def iR (x : Int) : RV := ⟨false, [.rd (.sc (.int .i64 x))]⟩
@[reducible] def sR (s : ByteArray) : RV := ⟨false, [.rd (.sc (.string s))]⟩
@[reducible] def bR (b : Bool) : RV := ⟨false, [.rd (.sc (.bool b))]⟩
@[reducible] def oR (xs : List Int) : RV := ⟨false, [.own true 1 (bts xs)]⟩

theorem wf_i64 {x : Int} (h : (Lit.int .i64 x).wf = true) : -9223372036854775808 ≤ x ∧ x ≤ 9223372036854775807 := by
  simp [Lit.wf, IntKind.min, IntKind.max, IntKind.bits, IntKind.signed] at h
  exact h
theorem wf_u8 {x : Int} (h : (Lit.int .u8 x).wf = true) : 0 ≤ x ∧ x ≤ 255 := by
  simp [Lit.wf, IntKind.min, IntKind.max, IntKind.bits, IntKind.signed] at h
  exact h

/-- All that was there is only read. -/
def Old (w : World) : Nat → Prop := fun x => x < w.heap.size

def Reads (w : World) : List AV → List Value → Prop
  | [], [] => True
  | .rdv agg cs :: as, v :: vs => ArgOk w (Old w) (fun _ => False) v (.rdv agg cs) ∧ Reads w as vs
  | _, _ => False

theorem reads_ok {w : World} : ∀ {as : List AV} {vs : List Value}, Reads w as vs → ArgsOk w (Old w) as vs (as.map fun _ _ => False) ∧ Apart (as.map fun _ _ => False) ∧ (∀ F ∈ as.map (fun _ (_ : Nat) => False), ∀ x, ¬ F x) ∧
    (∀ x, ¬ aOf as (as.map fun _ _ => False) x) ∧ bOf as vs = []
  | [], [], h => ⟨trivial, trivial, fun F hF => (by cases hF), fun x h => h, rfl⟩
  | .rdv agg cs :: as, v :: vs, h => by
    obtain ⟨h0, h⟩ := h
    obtain ⟨i1, i2, i3, i4, i5⟩ := reads_ok h
    refine ⟨⟨h0, i1⟩, ⟨fun x hx => hx.elim, i2⟩, fun F hF x hx => ?_, fun x hx => i4 x hx, ?_⟩
    · cases hF with
      | head => exact hx
      | tail _ hF => exact i3 F hF x hx
    · unfold bOf
      exact i5
  | [], _ :: _, h => h.elim
  | .own _ _ :: _, _, h => by cases ‹List Value› <;> exact h.elim
  | .mptr _ _ :: _, _, h => by cases ‹List Value› <;> exact h.elim
  | .rptr _ :: _, _, h => by cases ‹List Value› <;> exact h.elim
  | .nilv _ :: _, _, h => by cases ‹List Value› <;> exact h.elim
  | .rdv _ _ :: _, [], h => h.elim

theorem law_calls {P : Program} {f : Nat} {as : List AV} {vs : List Value} {w : World} (hf : FnV P f as fun rs outs => rs = [bR true] ∧ outs = []) (h : Reads w as vs) :
    Calls P f vs.toArray w fun e w' => e = .returned (.bool true) ∧ Below w.heap.size w w' := by
  obtain ⟨i1, i2, i3, i4, i5⟩ := reads_ok h
  rw [FnV_eq] at hf
  refine (hf.2 w (Old w) _ vs i1 i2 (fun F hF x hx => (i3 F hF x hx).elim) (fun x h => h)).mono ?_
  rintro e w' ⟨v, rs, outs, rfl, ⟨rfl, rfl⟩, hb⟩
  obtain ⟨hx, us, I', G, ⟨h1, h2⟩, h3, _⟩ := hb
  obtain ⟨u, hu, hr⟩ := h3 0 _ rfl
  obtain ⟨x, hx1, hx2⟩ := hr
  cases hx1
  have hu2 : u = .bool true := by
    have hx2' : Rd w' I' u (.sc (.bool true)) := hx2
    cases hx2'
    rfl
  have hs : us.size = 1 := by simpa using h1
  rw [dif_pos hs] at h2
  have : us[0] = u := by
    have hu' : us[0]? = some us[0] := Array.getElem?_eq_getElem (by omega)
    rw [hu'] at hu
    cases hu
    rfl
  refine ⟨by rw [h2, this, hu2], ⟨hx.os, hx.tape, hx.output, hx.size, fun k hk => hx.keep k hk (i4 k) ?_⟩⟩
  rw [i5]
  exact fun p hp => (by cases hp)

theorem str_reads {w : World} (s : ByteArray) : ArgOk w (Old w) (fun _ => False) (.string s) (sV s) := ⟨_, rfl, .sc _⟩
theorem int_reads {w : World} (x : Int) : ArgOk w (Old w) (fun _ => False) (.int .i64 x) (iV x) := ⟨_, rfl, .sc _⟩
theorem bool_reads {w : World} (b : Bool) : ArgOk w (Old w) (fun _ => False) (.bool b) (boV b) := ⟨_, rfl, .sc _⟩

/-- A row of bytes that came in. -/
def IsRow (w : World) (a : Option Addr) (len cap : Nat) (zs : List Int) : Prop :=
  (a = none ∧ len = 0 ∧ cap = 0 ∧ zs = []) ∨
  ∃ x, a = some x ∧ len ≤ cap ∧ cap ≤ maxLen ∧ zs.length = cap ∧ (∀ i, i < zs.length → w.cell? (x.add i) = some (.int .u8 (zs.getD i 0))) ∧ ∀ n ∈ zs, (Lit.int .u8 n).wf = true

theorem bytes_reads {w : World} {a : Option Addr} {len cap : Nat} {zs : List Int} (h : IsRow w a len cap zs) (hsp : ∀ x, a = some x → x.spot = none) (hlt : ∀ x, a = some x → x.block < w.heap.size) :
    ArgOk w (Old w) (fun _ => False) (.slice a len cap) (bV (zs.take len)) := by
  refine ⟨_, rfl, ?_⟩
  rcases h with ⟨rfl, rfl, rfl, rfl⟩ | ⟨x, rfl, h1, h2, h3, h4, h5⟩
  · exact .nil _ _ _ _
  · obtain ⟨b, o, sp⟩ := x
    have : sp = none := hsp _ rfl
    subst this
    refine .row b o len cap true 1 _ (fun i _ => .int .u8 (zs.getD i 0)) (hlt _ rfl) (by simp [bts, h3, h1]) h1 (fun i r hr => ?_) (fun i j hi hj => ?_) (fun _ _ _ _ => rfl) (fun i j r c hr hc => ?_)
    · simp only [bts, List.getElem?_map] at hr
      cases hq : (zs.take len)[i]? with
      | none => rw [hq] at hr; cases hr
      | some q => rw [hq] at hr; cases hr; rfl
    · have hj0 : j = 0 := by omega
      subst hj0
      have := h4 i (by omega)
      rw [add_eq] at this
      simpa using this
    · simp only [bts, List.getElem?_map] at hr
      cases hq : (zs.take len)[i]? with
      | none => rw [hq] at hr; cases hr
      | some q =>
        rw [hq] at hr
        cases hr
        cases j with
        | zero =>
          cases hc
          have hz : zs.getD i 0 = q := by
            rw [List.getElem?_take] at hq
            split at hq
            · simp [List.getD, hq]
            · cases hq
          rw [hz]
          exact .sc _
        | succ j => simp at hc

end Go.Proofs.Ytppfojiogappaaa.V
