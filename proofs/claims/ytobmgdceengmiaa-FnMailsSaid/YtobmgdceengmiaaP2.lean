/- What DeedOk comes to. -/
import Derived.Test.YtobmgdceengmiaaP1
import Derived.Test.YtobmgdceengmiaaWR
set_option linter.unusedVariables false
set_option linter.unusedSimpArgs false
namespace Go.Proofs.Ytobmgdceengmiaa.V
open Go

def deedOk (k a b : Int) : Bool :=
  if a < 0 ∨ b < 0 then false else if k = 1 then decide (b ≤ 50) else if k = 2 then true else if k = 3 ∨ k = 4 ∨ k = 5 then decide (b = 0) else false

@[reducible] def dV (k a b : Int) : AV := .rdv true [.sc (.int .i64 k), .sc (.int .i64 a), .sc (.int .i64 b)]
@[reducible] def dR (k a b : Int) : RV := ⟨true, [.rd (.sc (.int .i64 k)), .rd (.sc (.int .i64 a)), .rd (.sc (.int .i64 b))]⟩

def Md2 (f : Nat) : List Mode :=
  match f with
  | 11 => [.rd]
  | 12 => [.rd]
  | 13 => [.rd]
  | 28 => [.rd, .rd, .rd]
  | _ => []
def En2 : Env := ⟨τ, Md2⟩

theorem bR_eq {x y : Bool} (h : x = y) : [bR x] = [bR y] ∧ ([] : List (List C)) = [] := by rw [h]; exact ⟨rfl, rfl⟩

set_option maxRecDepth 100000 in
theorem f28_ok (x y z : Int) : FnV Try.prog 28 [iV x, iV y, iV z] fun rs outs => rs = [bR (decide (y ≤ x ∧ x ≤ z))] ∧ outs = [] := by
  refine fn_ok (E := En2) τ_ok mixed Try.func28 (by rfl) (by rfl) false (by simp [Try.f28]) ?_
  conv => whnf
  repeat' (refine br_if (fun h => ?_) (fun h => ?_) <;> (try rw [h]) <;> (conv => whnf))
  all_goals refine bR_eq ?_
  all_goals simp [leI_eq] at *
  all_goals omega

set_option maxRecDepth 100000 in
theorem f12_ok (k a b : Int) : FnV Try.prog 12 [dV k a b] fun rs outs => rs = [dR k a b] ∧ outs = [] := by
  refine fn_ok (E := En2) τ_ok mixed Try.func12 (by rfl) (by rfl) false (by simp [Try.f12]) ?_
  conv => whnf
  exact ⟨rfl, rfl⟩

set_option maxRecDepth 100000 in
theorem f11_ok (k a b : Int) : FnV Try.prog 11 [dV k a b] fun rs outs => rs = [bR (deedOk k a b)] ∧ outs = [] := by
  refine fn_ok (E := En2) τ_ok mixed Try.func11 (by rfl) (by rfl) false (by simp [Try.f11]) ?_
  conv => whnf
  repeat' (refine br_if (fun h => ?_) (fun h => ?_) <;> (try rw [h]) <;> (conv => whnf))
  all_goals refine bR_eq ?_
  all_goals simp only [leI_eq, ltI_eq, eqI_eq, beq_iff_eq, beq_eq_false_iff_ne, decide_eq_true_eq, decide_eq_false_iff_not, Int.not_lt] at *
  all_goals unfold deedOk
  all_goals repeat' split
  all_goals first | rfl | omega | (simp; omega)

set_option maxRecDepth 100000 in
theorem f13_ok (k a b : Int) : FnV Try.prog 13 [dV k a b] fun rs outs => rs = [bR (deedOk k a b)] ∧ outs = [] := by
  refine fn_ok (E := En2) τ_ok mixed Try.func13 (by rfl) (by rfl) false (by simp [Try.f13]) ?_
  conv => whnf
  refine (f28_ok _ _ _).mono ?_
  rintro _ _ ⟨rfl, rfl⟩
  conv => whnf
  repeat' (refine br_if (fun h => ?_) (fun h => ?_) <;> (try rw [h]) <;> (conv => whnf))
  all_goals refine bR_eq ?_
  all_goals simp only [leI_eq, ltI_eq, eqI_eq, notB_eq, Bool.not_eq_true', Bool.not_eq_false', beq_iff_eq, beq_eq_false_iff_ne, decide_eq_true_eq, decide_eq_false_iff_not, Int.not_lt] at *
  all_goals unfold deedOk
  all_goals repeat' split
  all_goals first | rfl | omega | (simp; omega)

set_option maxRecDepth 100000 in
theorem f4_ok (k a b : Int) : FnV Try.prog 4 [dV k a b] fun rs outs => rs = [bR true] ∧ outs = [] := by
  refine fn_ok (E := En2) τ_ok mixed Try.func4 (by rfl) (by rfl) false (by simp [Try.f4]) ?_
  conv => whnf
  refine (f12_ok _ _ _).mono ?_
  rintro _ _ ⟨rfl, rfl⟩
  conv => whnf
  refine (f11_ok _ _ _).mono ?_
  rintro _ _ ⟨rfl, rfl⟩
  conv => whnf
  refine (f12_ok _ _ _).mono ?_
  rintro _ _ ⟨rfl, rfl⟩
  conv => whnf
  refine (f13_ok _ _ _).mono ?_
  rintro _ _ ⟨rfl, rfl⟩
  conv => whnf
  refine br_if (fun h => ?_) (fun h => ?_) <;> (try rw [h]) <;> (conv => whnf)
  · rw [notB_t, eqB_self] at h
    cases h
  · exact ⟨rfl, rfl⟩

theorem tyl_deed {Cs : List C} (h : TyL [.int .i64, .int .i64, .int .i64] Cs) : ∃ k a b : Int, Cs = [.sc (.int .i64 k), .sc (.int .i64 a), .sc (.int .i64 b)] ∧ (Lit.int .i64 k).wf = true ∧ (Lit.int .i64 a).wf = true ∧ (Lit.int .i64 b).wf = true := by
  match Cs, h with
  | [c0, c1, c2], ⟨h0, h1, h2, _⟩ =>
    cases h0
    cases h1
    cases h2
    exact ⟨_, _, _, rfl, by assumption, by assumption, by assumption⟩

theorem f4_all {Cs : List C} (h : TyL [.int .i64, .int .i64, .int .i64] Cs) : FnV Try.prog 4 [.rdv true Cs] fun rs outs => rs = [bR true] ∧ outs = [] := by
  obtain ⟨k, a, b, rfl, _⟩ := tyl_deed h
  exact f4_ok k a b

end Go.Proofs.Ytobmgdceengmiaa.V
