/- What the functions heldT of the laws come to, T a value. -/
import Derived.Test.YtcaonpncopfeoaaGreatH6
set_option linter.unusedVariables false
set_option linter.unusedSimpArgs false
namespace Go.Proofs.YtcaonpncopfeoaaGreat.V
open Go

def MdEVh (f : Nat) : List Mode :=
  match f with
  | 43 => [.rd, .rd]
  | 95 => [.rd, .rd]
  | 190 => [.rd, .rd]
  | 235 => [.rd, .rd]
  | _ => []
def EVh : Env := ⟨τ, MdEVh⟩

set_option maxRecDepth 100000 in
theorem heldPool_ok (a : DPool) (k : Int) (h0 : 0 ≤ k) (hk : k + a.wz ≤ 1000000000) : FnV Tryz.prog 190 [.rdv true (a.mw k).c, iV k] fun rs outs => rs = [iR (k + a.wz)] ∧ outs = [] := by
  have n0 := a.wz_nonneg
  refine fn_ok (E := EVh) τ_ok mixed Tryz.func190 (by rfl) (by rfl) false (by simp [Tryz.f190]) ?_
  conv => whnf
  refine (heldNodeS_ok a.xNodes k h0 hk).mono ?_
  rintro _ _ ⟨rfl, rfl⟩
  conv => whnf
  refine br_if (fun h => ?_) (fun h => ?_) <;> (try rw [h]) <;> (conv => whnf)
  · rw [ltI_t] at h
    have : k + a.wz < 0 := h
    omega
  · exact ⟨rfl, rfl⟩

set_option maxRecDepth 100000 in
theorem heldMachine_ok (a : DMachine) (k : Int) (h0 : 0 ≤ k) (hk : k + a.wz ≤ 1000000000) : FnV Tryz.prog 95 [.rdv true (a.mw k).c, iV k] fun rs outs => rs = [iR (k + a.wz)] ∧ outs = [] := by
  have n0 := a.wz_nonneg
  refine fn_ok (E := EVh) τ_ok mixed Tryz.func95 (by rfl) (by rfl) false (by simp [Tryz.f95]) ?_
  conv => whnf
  refine (heldPool_ok a.xPool k h0 hk).mono ?_
  rintro _ _ ⟨rfl, rfl⟩
  conv => whnf
  refine br_if (fun h => ?_) (fun h => ?_) <;> (try rw [h]) <;> (conv => whnf)
  · rw [ltI_t] at h
    have : k + a.wz < 0 := h
    omega
  · exact ⟨rfl, rfl⟩

set_option maxRecDepth 100000 in
theorem heldProc_ok (a : DProc) (k : Int) (h0 : 0 ≤ k) (hk : k + a.wz ≤ 1000000000) : FnV Tryz.prog 25 [.rdv true (a.mw k).c, iV k] fun rs outs => rs = [iR (k + a.wz)] ∧ outs = [] := by
  have n1 := szL_nonneg DNode.mz_nonneg a.xM.xPool.xNodes
  have n2 := mzS_nonneg a.xBox
  have n3 := mzS_nonneg a.xOut
  have e : a.wz = szL DNode.mz a.xM.xPool.xNodes + mzS a.xBox + mzS a.xOut := rfl
  have e1 : a.xM.wz = szL DNode.mz a.xM.xPool.xNodes := rfl
  refine fn_ok (E := EVh) τ_ok mixed Tryz.func25 (by rfl) (by rfl) false (by simp [Tryz.f25]) ?_
  conv => whnf
  refine (heldMachine_ok a.xM k h0 (by omega)).mono ?_
  rintro _ _ ⟨rfl, rfl⟩
  conv => whnf
  refine br_if (fun h1 => ?_) (fun h1 => ?_) <;> (try rw [h1]) <;> (conv => whnf)
  · rw [ltI_t] at h1
    omega
  refine (heldStringS_ok a.xBox (k + a.xM.wz) (by omega) (by omega)).mono ?_
  rintro _ _ ⟨rfl, rfl⟩
  conv => whnf
  refine br_if (fun h2 => ?_) (fun h2 => ?_) <;> (try rw [h2]) <;> (conv => whnf)
  · rw [ltI_t] at h2
    omega
  refine (heldStringS_ok a.xOut (k + a.xM.wz + mzS a.xBox) (by omega) (by omega)).mono ?_
  rintro _ _ ⟨rfl, rfl⟩
  conv => whnf
  refine br_if (fun h3 => ?_) (fun h3 => ?_) <;> (try rw [h3]) <;> (conv => whnf)
  · rw [ltI_t] at h3
    omega
  · exact mk_eq (by omega) rfl

end Go.Proofs.YtcaonpncopfeoaaGreat.V
