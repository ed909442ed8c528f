/- What the functions markT of the laws come to, T a value. -/
import Derived.Test.YtcaonpncopfeoaaGreatT
import Derived.Test.YtcaonpncopfeoaaGreatD4
import Derived.Test.YtcaonpncopfeoaaGreatQ1
import Derived.Test.YtcaonpncopfeoaaGreatH4
import Derived.Test.YtcaonpncopfeoaaGreatH5
set_option linter.unusedVariables false
set_option linter.unusedSimpArgs false
namespace Go.Proofs.YtcaonpncopfeoaaGreat.V
open Go

def MdEVm (f : Nat) : List Mode :=
  match f with
  | 42 => [.mi, .rd]
  | 91 => [.mv [true], .rd]
  | 92 => [.mi, .rd]
  | 93 => [.mi, .rd]
  | 94 => [.mv [true, false, false, false, false, false, false, false], .rd]
  | 189 => [.mi, .rd]
  | _ => []
def EVm : Env := ⟨τ, MdEVm⟩

/-- What comes back of a value's cells: its slices. -/
def oC (cs : List C) : List C :=
  match cs with
  | [] => []
  | .sl true n es :: r => .sl true n es :: oC r
  | _ :: r => .any :: oC r
theorem mk_eq {x y : Int} {o o' : List (List C)} (h : x = y) (h2 : o = o') : [iR x] = [iR y] ∧ o = o' := ⟨by rw [h], h2⟩

set_option maxRecDepth 100000 in
theorem markPool_ok (a : DPool) (k : Int) (h0 : 0 ≤ k) (hk : k + a.wz ≤ 1000000000) : FnV Tryz.prog 91 [.mv true a.c, iV k] fun rs outs => rs = [iR (k + a.wz)] ∧ outs = [oC (a.mw k).c] := by
  unfold DPool.wz at hk
  refine fn_ok (E := EVm) τ_ok mixed Tryz.func91 (by rfl) (by rfl) false (by simp [Tryz.f91]) ?_
  conv => whnf
  refine (markNodeS_ok a.xNodes k h0 hk).mono ?_
  rintro _ _ ⟨rfl, rfl⟩
  conv => whnf
  exact ⟨rfl, rfl⟩

set_option maxRecDepth 100000 in
theorem markMachine_ok (a : DMachine) (k : Int) (h0 : 0 ≤ k) (hk : k + a.wz ≤ 1000000000) : FnV Tryz.prog 94 [.mv true a.c, iV k] fun rs outs => rs = [iR (k + a.wz)] ∧ outs = [oC (a.mw k).c] := by
  refine fn_ok (E := EVm) τ_ok mixed Tryz.func94 (by rfl) (by rfl) false (by simp [Tryz.f94]) ?_
  conv => whnf
  refine (markPool_ok a.xPool k h0 hk).mono ?_
  rintro _ _ ⟨rfl, rfl⟩
  conv => whnf
  exact ⟨rfl, rfl⟩

set_option maxRecDepth 100000 in
theorem markProc_ok (a : DProc) (k : Int) (h0 : 0 ≤ k) (hk : k + a.wz ≤ 1000000000) : FnV Tryz.prog 24 [.mv true a.c, iV k] fun rs outs => rs = [iR (k + a.wz)] ∧ outs = [oC (a.mw k).c] := by
  have n1 := szL_nonneg DNode.mz_nonneg a.xM.xPool.xNodes
  have n2 := mzS_nonneg a.xBox
  have n3 := mzS_nonneg a.xOut
  have e : a.wz = szL DNode.mz a.xM.xPool.xNodes + mzS a.xBox + mzS a.xOut := rfl
  have e1 : a.xM.wz = szL DNode.mz a.xM.xPool.xNodes := rfl
  refine fn_ok (E := EVm) τ_ok mixed Tryz.func24 (by rfl) (by rfl) false (by simp [Tryz.f24]) ?_
  conv => whnf
  refine (markMachine_ok a.xM k h0 (by omega)).mono ?_
  rintro _ _ ⟨rfl, rfl⟩
  conv => whnf
  refine (markStringS_ok a.xBox (k + a.xM.wz) (by omega) (by omega)).mono ?_
  rintro _ _ ⟨rfl, rfl⟩
  conv => whnf
  refine (markStringS_ok a.xOut (k + a.xM.wz + mzS a.xBox) (by omega) (by omega)).mono ?_
  rintro _ _ ⟨rfl, rfl⟩
  conv => whnf
  exact mk_eq (by omega) rfl

set_option maxRecDepth 100000 in
theorem markCode_ok (a : DCode) (k : Int) (h0 : 0 ≤ k) (hk : k + a.wz ≤ 1000000000) : FnV Tryz.prog 23 [.mv true a.c, iV k] fun rs outs => rs = [iR (k + a.wz)] ∧ outs = [oC (a.mw k).c] := by
  have n1 := szL_nonneg DNode.mz_nonneg a.xPool.xNodes
  have n2 := szL_nonneg DInstr.mz_nonneg a.xList
  have n3 := szL_nonneg DDef.mz_nonneg a.xDefs
  have e : a.wz = szL DNode.mz a.xPool.xNodes + szL DInstr.mz a.xList + szL DDef.mz a.xDefs := rfl
  have e1 : a.xPool.wz = szL DNode.mz a.xPool.xNodes := rfl
  refine fn_ok (E := EVm) τ_ok mixed Tryz.func23 (by rfl) (by rfl) false (by simp [Tryz.f23]) ?_
  conv => whnf
  refine (markPool_ok a.xPool k h0 (by omega)).mono ?_
  rintro _ _ ⟨rfl, rfl⟩
  conv => whnf
  refine (markInstrS_ok a.xList (k + a.xPool.wz) (by omega) (by omega)).mono ?_
  rintro _ _ ⟨rfl, rfl⟩
  conv => whnf
  refine (markDefS_ok a.xDefs (k + a.xPool.wz + szL DInstr.mz a.xList) (by omega) (by omega)).mono ?_
  rintro _ _ ⟨rfl, rfl⟩
  conv => whnf
  exact mk_eq (by omega) rfl

end Go.Proofs.YtcaonpncopfeoaaGreat.V
