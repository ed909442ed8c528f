/- What markWorld comes to. -/
import Derived.Test.YtcaonpncopfeoaaGreatH6
import Derived.Test.YtcaonpncopfeoaaGreatH4B
set_option linter.unusedVariables false
set_option linter.unusedSimpArgs false
namespace Go.Proofs.YtcaonpncopfeoaaGreat.V
open Go

def MdEVw (f : Nat) : List Mode :=
  match f with
  | 23 => [.mv [true, true, true], .rd]
  | 133 => [.mi, .rd]
  | 134 => [.mi, .rd]
  | 135 => [.mi, .rd]
  | 136 => [.mi, .rd]
  | 137 => [.mi, .rd]
  | _ => []
def EVw : Env := ⟨τ, MdEVw⟩

set_option maxRecDepth 100000 in
set_option maxHeartbeats 4000000 in
theorem markWorld_ok (a : DWorld) (k : Int) (h0 : 0 ≤ k) (hk : k + a.wz ≤ 1000000000) (ho : a.ok) : FnV Tryz.prog 37 [.mv true a.c, iV k] fun rs outs => rs = [iR (k + a.wz)] ∧ outs = [oC (a.mw k).c] := by
  have n1 := szL_nonneg DNode.mz_nonneg a.xCode.xPool.xNodes
  have n2 := szL_nonneg DInstr.mz_nonneg a.xCode.xList
  have n3 := szL_nonneg DDef.mz_nonneg a.xCode.xDefs
  have n4 := szL_nonneg DHome.mz_nonneg a.xHomes
  have n5 := szL_nonneg DLink.mz_nonneg a.xLinks
  have n6 := szL_nonneg DGram.mz_nonneg a.xGrams
  have n7 := szL_nonneg DParked.mz_nonneg a.xParked
  have n8 := szL_nonneg mzS_nonneg a.xGave
  have n9 := szL_nonneg mzS_nonneg a.xTook
  have l1 := ho.2.2.2.2.2.2.2.1.1
  have l2 := ho.2.2.2.2.2.2.2.2.1
  have e : a.wz = szL DNode.mz a.xCode.xPool.xNodes + szL DInstr.mz a.xCode.xList + szL DDef.mz a.xCode.xDefs + szL DHome.mz a.xHomes + szL DLink.mz a.xLinks + szL DGram.mz a.xGrams + szL DParked.mz a.xParked + szL mzS a.xGave + szL mzS a.xTook := rfl
  have e1 : a.xCode.wz = szL DNode.mz a.xCode.xPool.xNodes + szL DInstr.mz a.xCode.xList + szL DDef.mz a.xCode.xDefs := rfl
  refine fn_ok (E := EVw) τ_ok mixed Tryz.func37 (by rfl) (by rfl) false (by simp [Tryz.f37]) ?_
  conv => whnf
  refine (markCode_ok a.xCode k h0 (by omega)).mono ?_
  rintro _ _ ⟨rfl, rfl⟩
  conv => whnf
  rw [show k + a.xCode.wz = k + szL DNode.mz a.xCode.xPool.xNodes + szL DInstr.mz a.xCode.xList + szL DDef.mz a.xCode.xDefs by omega]
  refine (markHomeS_ok a.xHomes (k + szL DNode.mz a.xCode.xPool.xNodes + szL DInstr.mz a.xCode.xList + szL DDef.mz a.xCode.xDefs) (by omega) (by omega)).mono ?_
  rintro _ _ ⟨rfl, rfl⟩
  conv => whnf
  refine (markLinkS_ok a.xLinks (k + szL DNode.mz a.xCode.xPool.xNodes + szL DInstr.mz a.xCode.xList + szL DDef.mz a.xCode.xDefs + szL DHome.mz a.xHomes) (by omega) (by omega)).mono ?_
  rintro _ _ ⟨rfl, rfl⟩
  conv => whnf
  refine (markGramS_ok a.xGrams (k + szL DNode.mz a.xCode.xPool.xNodes + szL DInstr.mz a.xCode.xList + szL DDef.mz a.xCode.xDefs + szL DHome.mz a.xHomes + szL DLink.mz a.xLinks) (by omega) (by omega)).mono ?_
  rintro _ _ ⟨rfl, rfl⟩
  conv => whnf
  refine (markParkedS_ok a.xParked (k + szL DNode.mz a.xCode.xPool.xNodes + szL DInstr.mz a.xCode.xList + szL DDef.mz a.xCode.xDefs + szL DHome.mz a.xHomes + szL DLink.mz a.xLinks + szL DGram.mz a.xGrams) (by omega) (by omega)).mono ?_
  rintro _ _ ⟨rfl, rfl⟩
  conv => whnf
  refine (markStringSS_ok a.xGave (k + szL DNode.mz a.xCode.xPool.xNodes + szL DInstr.mz a.xCode.xList + szL DDef.mz a.xCode.xDefs + szL DHome.mz a.xHomes + szL DLink.mz a.xLinks + szL DGram.mz a.xGrams + szL DParked.mz a.xParked) (by omega) (by omega) l1).mono ?_
  rintro _ _ ⟨rfl, rfl⟩
  conv => whnf
  refine (markStringSS_ok a.xTook (k + szL DNode.mz a.xCode.xPool.xNodes + szL DInstr.mz a.xCode.xList + szL DDef.mz a.xCode.xDefs + szL DHome.mz a.xHomes + szL DLink.mz a.xLinks + szL DGram.mz a.xGrams + szL DParked.mz a.xParked + szL mzS a.xGave) (by omega) (by omega) l2).mono ?_
  rintro _ _ ⟨rfl, rfl⟩
  conv => whnf
  refine mk_eq (by omega) ?_
  rfl

end Go.Proofs.YtcaonpncopfeoaaGreat.V
