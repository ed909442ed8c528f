/- What the functions markT of the laws come to. (printed by wip/tools/mk.py): the other half. -/
import Derived.Test.YtcaonpncopfeoaaGreatT
import Derived.Test.YtcaonpncopfeoaaGreatD4
import Derived.Test.YtcaonpncopfeoaaGreatQ1
import Derived.Test.YtcaonpncopfeoaaGreatH4
set_option linter.unusedVariables false
set_option linter.unusedSimpArgs false
namespace Go.Proofs.YtcaonpncopfeoaaGreat.V
open Go

def MdEMkB (f : Nat) : List Mode :=
  match f with
  | 42 => [.mi, .rd]
  | 147 => [.rd]
  | 189 => [.mi, .rd]
  | 232 => [.mi, .rd]
  | _ => []
def EMkB : Env := ⟨τ, MdEMkB⟩

set_option maxRecDepth 100000 in
set_option maxHeartbeats 4000000 in
theorem markPieceS_ok (xs : List DPiece) (k : Int) (h0 : 0 ≤ k) (hk : k + szL DPiece.mz xs ≤ 1000000000) : FnV Tryz.prog 232 [.mv false [.sl true 2 (xs.map DPiece.c)], iV k] fun rs outs => rs = [iR (k + szL DPiece.mz xs)] ∧ outs = [[.sl true 2 ((mkL DPiece.me DPiece.mz xs k).map DPiece.c)]] := by
  have hl := szL_len (f := DPiece.mz) (fun x => by show 1 ≤ 2; omega) xs
  refine fn_ok (E := EMkB) τ_ok mixed Tryz.func232 (by rfl) (by rfl) false (by simp [Tryz.f232]) ?_
  conv => whnf
  refine ⟨fun m s => ∃ (i : Int) (es : List (List C)), s = ⟨[(0, .vals false [.ref 3000000 0]), (1, .vals false [.sc (.int .i64 (k + szL DPiece.mz (xs.take i.toNat)))]), (4, .vals false [.sc (.int .i64 0)]), (5, .vals false [.sc (.int .i64 i)])], [], [(3000000, ⟨true, 0, 0, true, 2, es⟩)]⟩ ∧ m = xs.length - i.toNat ∧ 0 ≤ i ∧ i ≤ xs.length ∧ es = (mkTo DPiece.me DPiece.mz xs k i.toNat).map DPiece.c,
    ⟨_, _, norm_wk (keep := [0, 1, 4, 5]) (kb := []) (ρ := [(3000000, some 3000000)]) rfl, ⟨0, _, by simp [szL]; rfl, rfl, by omega, by omega, by simp [mkTo_zero]⟩⟩, ?_⟩
  rintro m _ ⟨i, es, rfl, rfl, i0, i1, he⟩
  have hel : es.length = xs.length := by rw [he, List.length_map, mkTo_len]
  conv => whnf
  rw [hel]
  refine br_if (fun h => ?_) (fun h => ?_) <;> (try rw [h]) <;> (conv => whnf)
  · rw [ltI_t] at h
    obtain ⟨x, hx⟩ : ∃ x, xs[i.toNat]? = some x := ⟨_, List.getElem?_eq_getElem (by omega)⟩
    have hrow : es[i.toNat]? = some (DPiece.c x) := by rw [he, List.getElem?_map, mkTo_at DPiece.me DPiece.mz hx]; rfl
    have hsucc := szL_succ (f := DPiece.mz) hx
    have htk := szL_take (f := DPiece.mz) DPiece.mz_nonneg xs (i.toNat + 1)
    have h00 := szL_nonneg (f := DPiece.mz) DPiece.mz_nonneg (xs.take i.toNat)
    have hmz : x.mz = 2 := rfl
    have hin : i.toNat < es.length := by omega
    generalize hK : k + szL DPiece.mz (xs.take i.toNat) = K
    refine ⟨i0, by simp only [List.length_set]; omega, ?_⟩
    conv => whnf
    refine ⟨[.sc (.int .i64 x.xNo), .sc (.string x.xText)], hrow, ?_⟩
    conv => whnf
    rw [show wrp .i64 (K + 1) = K + 1 from (wrp_i64 (by omega) (by omega)).trans (by omega)]
    refine (markText_ok (K + 1) (by omega)).mono ?_
    rintro _ _ ⟨rfl, rfl⟩
    conv => whnf
    refine ⟨i0, by simp only [List.length_set]; omega, ?_⟩
    conv => whnf
    refine ⟨[.sc (.int .i64 (K)), .sc (.string x.xText)], List.getElem?_set_self (by simp only [List.length_set]; omega), ?_⟩
    conv => whnf
    rw [show wrp .i64 (K + 1 + 1) = K + 2 from (wrp_i64 (by omega) (by omega)).trans (by omega)]
    rw [wrp_i64 (x := i + 1) (by omega) (by omega)]
    have eK : k + szL DPiece.mz (xs.take (i.toNat + 1)) = K + 2 := by omega
    have fin : es.set i.toNat [.sc (.int .i64 (K)), .sc (.string (mkT (K + 1)))] = (mkTo DPiece.me DPiece.mz xs k (i + 1).toNat).map DPiece.c := by
      rw [show (i + 1).toNat = i.toNat + 1 by omega, ← mkTo_set DPiece.me DPiece.mz hx k, List.map_set, ← he, hK]
      try rfl
    refine ⟨xs.length - (i + 1).toNat, ?_⟩
    apply Exists.intro
    refine ⟨by omega, ?_, ?_⟩
    · exact norm_wk (keep := [0, 1, 4, 5]) (kb := []) (ρ := [(3000000, some 3000000)]) rfl
    refine ⟨i + 1, es.set i.toNat [.sc (.int .i64 (K)), .sc (.string (mkT (K + 1)))], ?_, rfl, by omega, by omega, fin⟩
    rw [show (i + 1).toNat = i.toNat + 1 by omega, eK]
    simp only [List.set_set]
    rfl
  · rw [ltI_f] at h
    rw [List.take_of_length_le (by omega)]
    rw [mkTo_all _ _ _ _ (by omega)] at he
    rw [he]
    exact ⟨rfl, rfl⟩

set_option maxRecDepth 100000 in
set_option maxHeartbeats 4000000 in
theorem markLinkS_ok (xs : List DLink) (k : Int) (h0 : 0 ≤ k) (hk : k + szL DLink.mz xs ≤ 1000000000) : FnV Tryz.prog 134 [.mv false [.sl true 5 (xs.map DLink.c)], iV k] fun rs outs => rs = [iR (k + szL DLink.mz xs)] ∧ outs = [[.sl true 5 ((mkL DLink.me DLink.mz xs k).map DLink.c)]] := by
  have hl := szL_len (f := DLink.mz) (fun x => by have := mzS_nonneg x.xQueue; have := szL_nonneg DPiece.mz_nonneg x.xHeld; show 1 ≤ 3 + mzS x.xQueue + szL DPiece.mz x.xHeld; omega) xs
  refine fn_ok (E := EMkB) τ_ok mixed Tryz.func134 (by rfl) (by rfl) false (by simp [Tryz.f134]) ?_
  conv => whnf
  refine ⟨fun m s => ∃ (i : Int) (es : List (List C)), s = ⟨[(0, .vals false [.ref 3000000 0]), (1, .vals false [.sc (.int .i64 (k + szL DLink.mz (xs.take i.toNat)))]), (4, .vals false [.sc (.int .i64 0)]), (5, .vals false [.sc (.int .i64 i)])], [], [(3000000, ⟨true, 0, 0, true, 5, es⟩)]⟩ ∧ m = xs.length - i.toNat ∧ 0 ≤ i ∧ i ≤ xs.length ∧ es = (mkTo DLink.me DLink.mz xs k i.toNat).map DLink.c,
    ⟨_, _, norm_wk (keep := [0, 1, 4, 5]) (kb := []) (ρ := [(3000000, some 3000000)]) rfl, ⟨0, _, by simp [szL]; rfl, rfl, by omega, by omega, by simp [mkTo_zero]⟩⟩, ?_⟩
  rintro m _ ⟨i, es, rfl, rfl, i0, i1, he⟩
  have hel : es.length = xs.length := by rw [he, List.length_map, mkTo_len]
  conv => whnf
  rw [hel]
  refine br_if (fun h => ?_) (fun h => ?_) <;> (try rw [h]) <;> (conv => whnf)
  · rw [ltI_t] at h
    obtain ⟨x, hx⟩ : ∃ x, xs[i.toNat]? = some x := ⟨_, List.getElem?_eq_getElem (by omega)⟩
    have hrow : es[i.toNat]? = some (DLink.c x) := by rw [he, List.getElem?_map, mkTo_at DLink.me DLink.mz hx]; rfl
    have hsucc := szL_succ (f := DLink.mz) hx
    have htk := szL_take (f := DLink.mz) DLink.mz_nonneg xs (i.toNat + 1)
    have h00 := szL_nonneg (f := DLink.mz) DLink.mz_nonneg (xs.take i.toNat)
    have := mzS_nonneg x.xQueue
    have := szL_nonneg DPiece.mz_nonneg x.xHeld
    have hmz : x.mz = 3 + mzS x.xQueue + szL DPiece.mz x.xHeld := rfl
    have hin : i.toNat < es.length := by omega
    generalize hK : k + szL DLink.mz (xs.take i.toNat) = K
    refine ⟨i0, by simp only [List.length_set]; omega, ?_⟩
    conv => whnf
    refine ⟨[.sc (.int .i64 x.xSent), .sc (.int .i64 x.xAcked), .sl true 1 (ssC x.xQueue), .sc (.int .i64 x.xGot), .sl true 2 (x.xHeld.map DPiece.c)], hrow, ?_⟩
    conv => whnf
    rw [show wrp .i64 (K + 1) = K + 1 from (wrp_i64 (by omega) (by omega)).trans (by omega)]
    refine ⟨i0, by simp only [List.length_set]; omega, ?_⟩
    conv => whnf
    refine ⟨[.sc (.int .i64 (K)), .sc (.int .i64 x.xAcked), .sl true 1 (ssC x.xQueue), .sc (.int .i64 x.xGot), .sl true 2 (x.xHeld.map DPiece.c)], List.getElem?_set_self (by simp only [List.length_set]; omega), ?_⟩
    conv => whnf
    rw [show wrp .i64 (K + 1 + 1) = K + 2 from (wrp_i64 (by omega) (by omega)).trans (by omega)]
    refine ⟨i0, by simp only [List.length_set]; omega, ?_⟩
    conv => whnf
    refine ⟨[.sc (.int .i64 (K)), .sc (.int .i64 (K + 1)), .sl true 1 (ssC x.xQueue), .sc (.int .i64 x.xGot), .sl true 2 (x.xHeld.map DPiece.c)], List.getElem?_set_self (by simp only [List.length_set]; omega), ?_⟩
    conv => whnf
    refine ⟨[.sc (.int .i64 (K)), .sc (.int .i64 (K + 1)), .sl true 1 (ssC x.xQueue), .sc (.int .i64 x.xGot), .sl true 2 (x.xHeld.map DPiece.c)], _, _, List.getElem?_set_self (by simp only [List.length_set]; omega), rfl, ?_⟩
    conv => whnf
    refine (markStringS_ok x.xQueue (K + 2) (by omega) (by omega)).mono ?_
    rintro _ _ ⟨rfl, rfl⟩
    conv => whnf
    refine ⟨[.sc (.int .i64 (K)), .sc (.int .i64 (K + 1)), .any, .sc (.int .i64 x.xGot), .sl true 2 (x.xHeld.map DPiece.c)], List.getElem?_set_self (by simp only [List.length_set]; omega), of_decide_eq_true rfl, ?_⟩
    conv => whnf
    refine ⟨i0, by simp only [List.length_set]; omega, ?_⟩
    conv => whnf
    refine ⟨[.sc (.int .i64 (K)), .sc (.int .i64 (K + 1)), .sl true 1 (ssC (mkS x.xQueue (K + 2))), .sc (.int .i64 x.xGot), .sl true 2 (x.xHeld.map DPiece.c)], List.getElem?_set_self (by simp only [List.length_set]; omega), ?_⟩
    conv => whnf
    rw [show wrp .i64 (K + 2 + mzS x.xQueue + 1) = K + 3 + mzS x.xQueue from (wrp_i64 (by omega) (by omega)).trans (by omega)]
    refine ⟨i0, by simp only [List.length_set]; omega, ?_⟩
    conv => whnf
    refine ⟨[.sc (.int .i64 (K)), .sc (.int .i64 (K + 1)), .sl true 1 (ssC (mkS x.xQueue (K + 2))), .sc (.int .i64 (K + 2 + mzS x.xQueue)), .sl true 2 (x.xHeld.map DPiece.c)], List.getElem?_set_self (by simp only [List.length_set]; omega), ?_⟩
    conv => whnf
    refine ⟨[.sc (.int .i64 (K)), .sc (.int .i64 (K + 1)), .sl true 1 (ssC (mkS x.xQueue (K + 2))), .sc (.int .i64 (K + 2 + mzS x.xQueue)), .sl true 2 (x.xHeld.map DPiece.c)], _, _, List.getElem?_set_self (by simp only [List.length_set]; omega), rfl, ?_⟩
    conv => whnf
    refine (markPieceS_ok x.xHeld (K + 3 + mzS x.xQueue) (by omega) (by omega)).mono ?_
    rintro _ _ ⟨rfl, rfl⟩
    conv => whnf
    refine ⟨[.sc (.int .i64 (K)), .sc (.int .i64 (K + 1)), .sl true 1 (ssC (mkS x.xQueue (K + 2))), .sc (.int .i64 (K + 2 + mzS x.xQueue)), .any], List.getElem?_set_self (by simp only [List.length_set]; omega), of_decide_eq_true rfl, ?_⟩
    conv => whnf
    rw [wrp_i64 (x := i + 1) (by omega) (by omega)]
    have eK : k + szL DLink.mz (xs.take (i.toNat + 1)) = K + 3 + mzS x.xQueue + szL DPiece.mz x.xHeld := by omega
    have fin : es.set i.toNat [.sc (.int .i64 (K)), .sc (.int .i64 (K + 1)), .sl true 1 (ssC (mkS x.xQueue (K + 2))), .sc (.int .i64 (K + 2 + mzS x.xQueue)), .sl true 2 ((mkL DPiece.me DPiece.mz x.xHeld (K + 3 + mzS x.xQueue)).map DPiece.c)] = (mkTo DLink.me DLink.mz xs k (i + 1).toNat).map DLink.c := by
      rw [show (i + 1).toNat = i.toNat + 1 by omega, ← mkTo_set DLink.me DLink.mz hx k, List.map_set, ← he, hK]
      try rfl
    refine ⟨xs.length - (i + 1).toNat, ?_⟩
    apply Exists.intro
    refine ⟨by omega, ?_, ?_⟩
    · exact norm_wk (keep := [0, 1, 4, 5]) (kb := []) (ρ := [(3000000, some 3000000)]) rfl
    refine ⟨i + 1, es.set i.toNat [.sc (.int .i64 (K)), .sc (.int .i64 (K + 1)), .sl true 1 (ssC (mkS x.xQueue (K + 2))), .sc (.int .i64 (K + 2 + mzS x.xQueue)), .sl true 2 ((mkL DPiece.me DPiece.mz x.xHeld (K + 3 + mzS x.xQueue)).map DPiece.c)], ?_, rfl, by omega, by omega, fin⟩
    rw [show (i + 1).toNat = i.toNat + 1 by omega, eK]
    simp only [List.set_set]
    rfl
  · rw [ltI_f] at h
    rw [List.take_of_length_le (by omega)]
    rw [mkTo_all _ _ _ _ (by omega)] at he
    rw [he]
    exact ⟨rfl, rfl⟩

set_option maxRecDepth 100000 in
set_option maxHeartbeats 4000000 in
theorem markHomeS_ok (xs : List DHome) (k : Int) (h0 : 0 ≤ k) (hk : k + szL DHome.mz xs ≤ 1000000000) : FnV Tryz.prog 133 [.mv false [.sl true 12 (xs.map DHome.c)], iV k] fun rs outs => rs = [iR (k + szL DHome.mz xs)] ∧ outs = [[.sl true 12 ((mkL DHome.me DHome.mz xs k).map DHome.c)]] := by
  have hl := szL_len (f := DHome.mz) (fun x => by have := szL_nonneg DNode.mz_nonneg x.xP.xM.xPool.xNodes; have := mzS_nonneg x.xP.xBox; have := mzS_nonneg x.xP.xOut; show 1 ≤ 9 + szL DNode.mz x.xP.xM.xPool.xNodes + mzS x.xP.xBox + mzS x.xP.xOut; omega) xs
  refine fn_ok (E := EMkB) τ_ok mixed Tryz.func133 (by rfl) (by rfl) false (by simp [Tryz.f133]) ?_
  conv => whnf
  refine ⟨fun m s => ∃ (i : Int) (es : List (List C)), s = ⟨[(0, .vals false [.ref 3000000 0]), (1, .vals false [.sc (.int .i64 (k + szL DHome.mz (xs.take i.toNat)))]), (4, .vals false [.sc (.int .i64 0)]), (5, .vals false [.sc (.int .i64 i)])], [], [(3000000, ⟨true, 0, 0, true, 12, es⟩)]⟩ ∧ m = xs.length - i.toNat ∧ 0 ≤ i ∧ i ≤ xs.length ∧ es = (mkTo DHome.me DHome.mz xs k i.toNat).map DHome.c,
    ⟨_, _, norm_wk (keep := [0, 1, 4, 5]) (kb := []) (ρ := [(3000000, some 3000000)]) rfl, ⟨0, _, by simp [szL]; rfl, rfl, by omega, by omega, by simp [mkTo_zero]⟩⟩, ?_⟩
  rintro m _ ⟨i, es, rfl, rfl, i0, i1, he⟩
  have hel : es.length = xs.length := by rw [he, List.length_map, mkTo_len]
  conv => whnf
  rw [hel]
  refine br_if (fun h => ?_) (fun h => ?_) <;> (try rw [h]) <;> (conv => whnf)
  · rw [ltI_t] at h
    obtain ⟨x, hx⟩ : ∃ x, xs[i.toNat]? = some x := ⟨_, List.getElem?_eq_getElem (by omega)⟩
    have hrow : es[i.toNat]? = some (DHome.c x) := by rw [he, List.getElem?_map, mkTo_at DHome.me DHome.mz hx]; rfl
    have hsucc := szL_succ (f := DHome.mz) hx
    have htk := szL_take (f := DHome.mz) DHome.mz_nonneg xs (i.toNat + 1)
    have h00 := szL_nonneg (f := DHome.mz) DHome.mz_nonneg (xs.take i.toNat)
    have := szL_nonneg DNode.mz_nonneg x.xP.xM.xPool.xNodes
    have := mzS_nonneg x.xP.xBox
    have := mzS_nonneg x.xP.xOut
    have hmz : x.mz = 9 + szL DNode.mz x.xP.xM.xPool.xNodes + mzS x.xP.xBox + mzS x.xP.xOut := rfl
    have hin : i.toNat < es.length := by omega
    generalize hK : k + szL DHome.mz (xs.take i.toNat) = K
    refine ⟨i0, by simp only [List.length_set]; omega, ?_⟩
    conv => whnf
    refine ⟨[.sc (.int .i64 x.xAt), .sc (.int .i64 x.xP.xPid), .sl true 5 (x.xP.xM.xPool.xNodes.map DNode.c), .sc (.int .i64 x.xP.xM.xAt), .sc (.int .i64 x.xP.xM.xS), .sc (.int .i64 x.xP.xM.xE), .sc (.int .i64 x.xP.xM.xD), .sc (.int .i64 x.xP.xM.xState), .sc (.int .i64 x.xP.xM.xAsk), .sc (.int .i64 x.xP.xM.xArg), .sl true 1 (ssC x.xP.xBox), .sl true 1 (ssC x.xP.xOut)], hrow, ?_⟩
    conv => whnf
    rw [show wrp .i64 (K + 1) = K + 1 from (wrp_i64 (by omega) (by omega)).trans (by omega)]
    refine ⟨i0, by simp only [List.length_set]; omega, ?_⟩
    conv => whnf
    refine ⟨[.sc (.int .i64 (K)), .sc (.int .i64 x.xP.xPid), .sl true 5 (x.xP.xM.xPool.xNodes.map DNode.c), .sc (.int .i64 x.xP.xM.xAt), .sc (.int .i64 x.xP.xM.xS), .sc (.int .i64 x.xP.xM.xE), .sc (.int .i64 x.xP.xM.xD), .sc (.int .i64 x.xP.xM.xState), .sc (.int .i64 x.xP.xM.xAsk), .sc (.int .i64 x.xP.xM.xArg), .sl true 1 (ssC x.xP.xBox), .sl true 1 (ssC x.xP.xOut)], List.getElem?_set_self (by simp only [List.length_set]; omega), ?_⟩
    conv => whnf
    rw [show wrp .i64 (K + 1 + 1) = K + 2 from (wrp_i64 (by omega) (by omega)).trans (by omega)]
    refine ⟨i0, by simp only [List.length_set]; omega, ?_⟩
    conv => whnf
    refine ⟨[.sc (.int .i64 (K)), .sc (.int .i64 (K + 1)), .sl true 5 (x.xP.xM.xPool.xNodes.map DNode.c), .sc (.int .i64 x.xP.xM.xAt), .sc (.int .i64 x.xP.xM.xS), .sc (.int .i64 x.xP.xM.xE), .sc (.int .i64 x.xP.xM.xD), .sc (.int .i64 x.xP.xM.xState), .sc (.int .i64 x.xP.xM.xAsk), .sc (.int .i64 x.xP.xM.xArg), .sl true 1 (ssC x.xP.xBox), .sl true 1 (ssC x.xP.xOut)], List.getElem?_set_self (by simp only [List.length_set]; omega), ?_⟩
    conv => whnf
    refine ⟨[.sc (.int .i64 (K)), .sc (.int .i64 (K + 1)), .sl true 5 (x.xP.xM.xPool.xNodes.map DNode.c), .sc (.int .i64 x.xP.xM.xAt), .sc (.int .i64 x.xP.xM.xS), .sc (.int .i64 x.xP.xM.xE), .sc (.int .i64 x.xP.xM.xD), .sc (.int .i64 x.xP.xM.xState), .sc (.int .i64 x.xP.xM.xAsk), .sc (.int .i64 x.xP.xM.xArg), .sl true 1 (ssC x.xP.xBox), .sl true 1 (ssC x.xP.xOut)], _, _, List.getElem?_set_self (by simp only [List.length_set]; omega), rfl, ?_⟩
    conv => whnf
    refine (markNodeS_ok x.xP.xM.xPool.xNodes (K + 2) (by omega) (by omega)).mono ?_
    rintro _ _ ⟨rfl, rfl⟩
    conv => whnf
    refine ⟨[.sc (.int .i64 (K)), .sc (.int .i64 (K + 1)), .any, .sc (.int .i64 x.xP.xM.xAt), .sc (.int .i64 x.xP.xM.xS), .sc (.int .i64 x.xP.xM.xE), .sc (.int .i64 x.xP.xM.xD), .sc (.int .i64 x.xP.xM.xState), .sc (.int .i64 x.xP.xM.xAsk), .sc (.int .i64 x.xP.xM.xArg), .sl true 1 (ssC x.xP.xBox), .sl true 1 (ssC x.xP.xOut)], List.getElem?_set_self (by simp only [List.length_set]; omega), of_decide_eq_true rfl, ?_⟩
    conv => whnf
    refine ⟨i0, by simp only [List.length_set]; omega, ?_⟩
    conv => whnf
    refine ⟨[.sc (.int .i64 (K)), .sc (.int .i64 (K + 1)), .sl true 5 ((mkL DNode.me DNode.mz x.xP.xM.xPool.xNodes (K + 2)).map DNode.c), .sc (.int .i64 x.xP.xM.xAt), .sc (.int .i64 x.xP.xM.xS), .sc (.int .i64 x.xP.xM.xE), .sc (.int .i64 x.xP.xM.xD), .sc (.int .i64 x.xP.xM.xState), .sc (.int .i64 x.xP.xM.xAsk), .sc (.int .i64 x.xP.xM.xArg), .sl true 1 (ssC x.xP.xBox), .sl true 1 (ssC x.xP.xOut)], List.getElem?_set_self (by simp only [List.length_set]; omega), ?_⟩
    conv => whnf
    rw [show wrp .i64 (K + 2 + szL DNode.mz x.xP.xM.xPool.xNodes + 1) = K + 3 + szL DNode.mz x.xP.xM.xPool.xNodes from (wrp_i64 (by omega) (by omega)).trans (by omega)]
    refine ⟨i0, by simp only [List.length_set]; omega, ?_⟩
    conv => whnf
    refine ⟨[.sc (.int .i64 (K)), .sc (.int .i64 (K + 1)), .sl true 5 ((mkL DNode.me DNode.mz x.xP.xM.xPool.xNodes (K + 2)).map DNode.c), .sc (.int .i64 (K + 2 + szL DNode.mz x.xP.xM.xPool.xNodes)), .sc (.int .i64 x.xP.xM.xS), .sc (.int .i64 x.xP.xM.xE), .sc (.int .i64 x.xP.xM.xD), .sc (.int .i64 x.xP.xM.xState), .sc (.int .i64 x.xP.xM.xAsk), .sc (.int .i64 x.xP.xM.xArg), .sl true 1 (ssC x.xP.xBox), .sl true 1 (ssC x.xP.xOut)], List.getElem?_set_self (by simp only [List.length_set]; omega), ?_⟩
    conv => whnf
    rw [show wrp .i64 (K + 3 + szL DNode.mz x.xP.xM.xPool.xNodes + 1) = K + 4 + szL DNode.mz x.xP.xM.xPool.xNodes from (wrp_i64 (by omega) (by omega)).trans (by omega)]
    refine ⟨i0, by simp only [List.length_set]; omega, ?_⟩
    conv => whnf
    refine ⟨[.sc (.int .i64 (K)), .sc (.int .i64 (K + 1)), .sl true 5 ((mkL DNode.me DNode.mz x.xP.xM.xPool.xNodes (K + 2)).map DNode.c), .sc (.int .i64 (K + 2 + szL DNode.mz x.xP.xM.xPool.xNodes)), .sc (.int .i64 (K + 3 + szL DNode.mz x.xP.xM.xPool.xNodes)), .sc (.int .i64 x.xP.xM.xE), .sc (.int .i64 x.xP.xM.xD), .sc (.int .i64 x.xP.xM.xState), .sc (.int .i64 x.xP.xM.xAsk), .sc (.int .i64 x.xP.xM.xArg), .sl true 1 (ssC x.xP.xBox), .sl true 1 (ssC x.xP.xOut)], List.getElem?_set_self (by simp only [List.length_set]; omega), ?_⟩
    conv => whnf
    rw [show wrp .i64 (K + 4 + szL DNode.mz x.xP.xM.xPool.xNodes + 1) = K + 5 + szL DNode.mz x.xP.xM.xPool.xNodes from (wrp_i64 (by omega) (by omega)).trans (by omega)]
    refine ⟨i0, by simp only [List.length_set]; omega, ?_⟩
    conv => whnf
    refine ⟨[.sc (.int .i64 (K)), .sc (.int .i64 (K + 1)), .sl true 5 ((mkL DNode.me DNode.mz x.xP.xM.xPool.xNodes (K + 2)).map DNode.c), .sc (.int .i64 (K + 2 + szL DNode.mz x.xP.xM.xPool.xNodes)), .sc (.int .i64 (K + 3 + szL DNode.mz x.xP.xM.xPool.xNodes)), .sc (.int .i64 (K + 4 + szL DNode.mz x.xP.xM.xPool.xNodes)), .sc (.int .i64 x.xP.xM.xD), .sc (.int .i64 x.xP.xM.xState), .sc (.int .i64 x.xP.xM.xAsk), .sc (.int .i64 x.xP.xM.xArg), .sl true 1 (ssC x.xP.xBox), .sl true 1 (ssC x.xP.xOut)], List.getElem?_set_self (by simp only [List.length_set]; omega), ?_⟩
    conv => whnf
    rw [show wrp .i64 (K + 5 + szL DNode.mz x.xP.xM.xPool.xNodes + 1) = K + 6 + szL DNode.mz x.xP.xM.xPool.xNodes from (wrp_i64 (by omega) (by omega)).trans (by omega)]
    refine ⟨i0, by simp only [List.length_set]; omega, ?_⟩
    conv => whnf
    refine ⟨[.sc (.int .i64 (K)), .sc (.int .i64 (K + 1)), .sl true 5 ((mkL DNode.me DNode.mz x.xP.xM.xPool.xNodes (K + 2)).map DNode.c), .sc (.int .i64 (K + 2 + szL DNode.mz x.xP.xM.xPool.xNodes)), .sc (.int .i64 (K + 3 + szL DNode.mz x.xP.xM.xPool.xNodes)), .sc (.int .i64 (K + 4 + szL DNode.mz x.xP.xM.xPool.xNodes)), .sc (.int .i64 (K + 5 + szL DNode.mz x.xP.xM.xPool.xNodes)), .sc (.int .i64 x.xP.xM.xState), .sc (.int .i64 x.xP.xM.xAsk), .sc (.int .i64 x.xP.xM.xArg), .sl true 1 (ssC x.xP.xBox), .sl true 1 (ssC x.xP.xOut)], List.getElem?_set_self (by simp only [List.length_set]; omega), ?_⟩
    conv => whnf
    rw [show wrp .i64 (K + 6 + szL DNode.mz x.xP.xM.xPool.xNodes + 1) = K + 7 + szL DNode.mz x.xP.xM.xPool.xNodes from (wrp_i64 (by omega) (by omega)).trans (by omega)]
    refine ⟨i0, by simp only [List.length_set]; omega, ?_⟩
    conv => whnf
    refine ⟨[.sc (.int .i64 (K)), .sc (.int .i64 (K + 1)), .sl true 5 ((mkL DNode.me DNode.mz x.xP.xM.xPool.xNodes (K + 2)).map DNode.c), .sc (.int .i64 (K + 2 + szL DNode.mz x.xP.xM.xPool.xNodes)), .sc (.int .i64 (K + 3 + szL DNode.mz x.xP.xM.xPool.xNodes)), .sc (.int .i64 (K + 4 + szL DNode.mz x.xP.xM.xPool.xNodes)), .sc (.int .i64 (K + 5 + szL DNode.mz x.xP.xM.xPool.xNodes)), .sc (.int .i64 (K + 6 + szL DNode.mz x.xP.xM.xPool.xNodes)), .sc (.int .i64 x.xP.xM.xAsk), .sc (.int .i64 x.xP.xM.xArg), .sl true 1 (ssC x.xP.xBox), .sl true 1 (ssC x.xP.xOut)], List.getElem?_set_self (by simp only [List.length_set]; omega), ?_⟩
    conv => whnf
    rw [show wrp .i64 (K + 7 + szL DNode.mz x.xP.xM.xPool.xNodes + 1) = K + 8 + szL DNode.mz x.xP.xM.xPool.xNodes from (wrp_i64 (by omega) (by omega)).trans (by omega)]
    refine ⟨i0, by simp only [List.length_set]; omega, ?_⟩
    conv => whnf
    refine ⟨[.sc (.int .i64 (K)), .sc (.int .i64 (K + 1)), .sl true 5 ((mkL DNode.me DNode.mz x.xP.xM.xPool.xNodes (K + 2)).map DNode.c), .sc (.int .i64 (K + 2 + szL DNode.mz x.xP.xM.xPool.xNodes)), .sc (.int .i64 (K + 3 + szL DNode.mz x.xP.xM.xPool.xNodes)), .sc (.int .i64 (K + 4 + szL DNode.mz x.xP.xM.xPool.xNodes)), .sc (.int .i64 (K + 5 + szL DNode.mz x.xP.xM.xPool.xNodes)), .sc (.int .i64 (K + 6 + szL DNode.mz x.xP.xM.xPool.xNodes)), .sc (.int .i64 (K + 7 + szL DNode.mz x.xP.xM.xPool.xNodes)), .sc (.int .i64 x.xP.xM.xArg), .sl true 1 (ssC x.xP.xBox), .sl true 1 (ssC x.xP.xOut)], List.getElem?_set_self (by simp only [List.length_set]; omega), ?_⟩
    conv => whnf
    rw [show wrp .i64 (K + 8 + szL DNode.mz x.xP.xM.xPool.xNodes + 1) = K + 9 + szL DNode.mz x.xP.xM.xPool.xNodes from (wrp_i64 (by omega) (by omega)).trans (by omega)]
    refine ⟨i0, by simp only [List.length_set]; omega, ?_⟩
    conv => whnf
    refine ⟨[.sc (.int .i64 (K)), .sc (.int .i64 (K + 1)), .sl true 5 ((mkL DNode.me DNode.mz x.xP.xM.xPool.xNodes (K + 2)).map DNode.c), .sc (.int .i64 (K + 2 + szL DNode.mz x.xP.xM.xPool.xNodes)), .sc (.int .i64 (K + 3 + szL DNode.mz x.xP.xM.xPool.xNodes)), .sc (.int .i64 (K + 4 + szL DNode.mz x.xP.xM.xPool.xNodes)), .sc (.int .i64 (K + 5 + szL DNode.mz x.xP.xM.xPool.xNodes)), .sc (.int .i64 (K + 6 + szL DNode.mz x.xP.xM.xPool.xNodes)), .sc (.int .i64 (K + 7 + szL DNode.mz x.xP.xM.xPool.xNodes)), .sc (.int .i64 (K + 8 + szL DNode.mz x.xP.xM.xPool.xNodes)), .sl true 1 (ssC x.xP.xBox), .sl true 1 (ssC x.xP.xOut)], List.getElem?_set_self (by simp only [List.length_set]; omega), ?_⟩
    conv => whnf
    refine ⟨[.sc (.int .i64 (K)), .sc (.int .i64 (K + 1)), .sl true 5 ((mkL DNode.me DNode.mz x.xP.xM.xPool.xNodes (K + 2)).map DNode.c), .sc (.int .i64 (K + 2 + szL DNode.mz x.xP.xM.xPool.xNodes)), .sc (.int .i64 (K + 3 + szL DNode.mz x.xP.xM.xPool.xNodes)), .sc (.int .i64 (K + 4 + szL DNode.mz x.xP.xM.xPool.xNodes)), .sc (.int .i64 (K + 5 + szL DNode.mz x.xP.xM.xPool.xNodes)), .sc (.int .i64 (K + 6 + szL DNode.mz x.xP.xM.xPool.xNodes)), .sc (.int .i64 (K + 7 + szL DNode.mz x.xP.xM.xPool.xNodes)), .sc (.int .i64 (K + 8 + szL DNode.mz x.xP.xM.xPool.xNodes)), .sl true 1 (ssC x.xP.xBox), .sl true 1 (ssC x.xP.xOut)], _, _, List.getElem?_set_self (by simp only [List.length_set]; omega), rfl, ?_⟩
    conv => whnf
    refine (markStringS_ok x.xP.xBox (K + 9 + szL DNode.mz x.xP.xM.xPool.xNodes) (by omega) (by omega)).mono ?_
    rintro _ _ ⟨rfl, rfl⟩
    conv => whnf
    refine ⟨[.sc (.int .i64 (K)), .sc (.int .i64 (K + 1)), .sl true 5 ((mkL DNode.me DNode.mz x.xP.xM.xPool.xNodes (K + 2)).map DNode.c), .sc (.int .i64 (K + 2 + szL DNode.mz x.xP.xM.xPool.xNodes)), .sc (.int .i64 (K + 3 + szL DNode.mz x.xP.xM.xPool.xNodes)), .sc (.int .i64 (K + 4 + szL DNode.mz x.xP.xM.xPool.xNodes)), .sc (.int .i64 (K + 5 + szL DNode.mz x.xP.xM.xPool.xNodes)), .sc (.int .i64 (K + 6 + szL DNode.mz x.xP.xM.xPool.xNodes)), .sc (.int .i64 (K + 7 + szL DNode.mz x.xP.xM.xPool.xNodes)), .sc (.int .i64 (K + 8 + szL DNode.mz x.xP.xM.xPool.xNodes)), .any, .sl true 1 (ssC x.xP.xOut)], List.getElem?_set_self (by simp only [List.length_set]; omega), of_decide_eq_true rfl, ?_⟩
    conv => whnf
    refine ⟨i0, by simp only [List.length_set]; omega, ?_⟩
    conv => whnf
    refine ⟨[.sc (.int .i64 (K)), .sc (.int .i64 (K + 1)), .sl true 5 ((mkL DNode.me DNode.mz x.xP.xM.xPool.xNodes (K + 2)).map DNode.c), .sc (.int .i64 (K + 2 + szL DNode.mz x.xP.xM.xPool.xNodes)), .sc (.int .i64 (K + 3 + szL DNode.mz x.xP.xM.xPool.xNodes)), .sc (.int .i64 (K + 4 + szL DNode.mz x.xP.xM.xPool.xNodes)), .sc (.int .i64 (K + 5 + szL DNode.mz x.xP.xM.xPool.xNodes)), .sc (.int .i64 (K + 6 + szL DNode.mz x.xP.xM.xPool.xNodes)), .sc (.int .i64 (K + 7 + szL DNode.mz x.xP.xM.xPool.xNodes)), .sc (.int .i64 (K + 8 + szL DNode.mz x.xP.xM.xPool.xNodes)), .sl true 1 (ssC (mkS x.xP.xBox (K + 9 + szL DNode.mz x.xP.xM.xPool.xNodes))), .sl true 1 (ssC x.xP.xOut)], List.getElem?_set_self (by simp only [List.length_set]; omega), ?_⟩
    conv => whnf
    refine ⟨[.sc (.int .i64 (K)), .sc (.int .i64 (K + 1)), .sl true 5 ((mkL DNode.me DNode.mz x.xP.xM.xPool.xNodes (K + 2)).map DNode.c), .sc (.int .i64 (K + 2 + szL DNode.mz x.xP.xM.xPool.xNodes)), .sc (.int .i64 (K + 3 + szL DNode.mz x.xP.xM.xPool.xNodes)), .sc (.int .i64 (K + 4 + szL DNode.mz x.xP.xM.xPool.xNodes)), .sc (.int .i64 (K + 5 + szL DNode.mz x.xP.xM.xPool.xNodes)), .sc (.int .i64 (K + 6 + szL DNode.mz x.xP.xM.xPool.xNodes)), .sc (.int .i64 (K + 7 + szL DNode.mz x.xP.xM.xPool.xNodes)), .sc (.int .i64 (K + 8 + szL DNode.mz x.xP.xM.xPool.xNodes)), .sl true 1 (ssC (mkS x.xP.xBox (K + 9 + szL DNode.mz x.xP.xM.xPool.xNodes))), .sl true 1 (ssC x.xP.xOut)], _, _, List.getElem?_set_self (by simp only [List.length_set]; omega), rfl, ?_⟩
    conv => whnf
    refine (markStringS_ok x.xP.xOut (K + 9 + szL DNode.mz x.xP.xM.xPool.xNodes + mzS x.xP.xBox) (by omega) (by omega)).mono ?_
    rintro _ _ ⟨rfl, rfl⟩
    conv => whnf
    refine ⟨[.sc (.int .i64 (K)), .sc (.int .i64 (K + 1)), .sl true 5 ((mkL DNode.me DNode.mz x.xP.xM.xPool.xNodes (K + 2)).map DNode.c), .sc (.int .i64 (K + 2 + szL DNode.mz x.xP.xM.xPool.xNodes)), .sc (.int .i64 (K + 3 + szL DNode.mz x.xP.xM.xPool.xNodes)), .sc (.int .i64 (K + 4 + szL DNode.mz x.xP.xM.xPool.xNodes)), .sc (.int .i64 (K + 5 + szL DNode.mz x.xP.xM.xPool.xNodes)), .sc (.int .i64 (K + 6 + szL DNode.mz x.xP.xM.xPool.xNodes)), .sc (.int .i64 (K + 7 + szL DNode.mz x.xP.xM.xPool.xNodes)), .sc (.int .i64 (K + 8 + szL DNode.mz x.xP.xM.xPool.xNodes)), .sl true 1 (ssC (mkS x.xP.xBox (K + 9 + szL DNode.mz x.xP.xM.xPool.xNodes))), .any], List.getElem?_set_self (by simp only [List.length_set]; omega), of_decide_eq_true rfl, ?_⟩
    conv => whnf
    rw [wrp_i64 (x := i + 1) (by omega) (by omega)]
    have eK : k + szL DHome.mz (xs.take (i.toNat + 1)) = K + 9 + szL DNode.mz x.xP.xM.xPool.xNodes + mzS x.xP.xBox + mzS x.xP.xOut := by omega
    have fin : es.set i.toNat [.sc (.int .i64 (K)), .sc (.int .i64 (K + 1)), .sl true 5 ((mkL DNode.me DNode.mz x.xP.xM.xPool.xNodes (K + 2)).map DNode.c), .sc (.int .i64 (K + 2 + szL DNode.mz x.xP.xM.xPool.xNodes)), .sc (.int .i64 (K + 3 + szL DNode.mz x.xP.xM.xPool.xNodes)), .sc (.int .i64 (K + 4 + szL DNode.mz x.xP.xM.xPool.xNodes)), .sc (.int .i64 (K + 5 + szL DNode.mz x.xP.xM.xPool.xNodes)), .sc (.int .i64 (K + 6 + szL DNode.mz x.xP.xM.xPool.xNodes)), .sc (.int .i64 (K + 7 + szL DNode.mz x.xP.xM.xPool.xNodes)), .sc (.int .i64 (K + 8 + szL DNode.mz x.xP.xM.xPool.xNodes)), .sl true 1 (ssC (mkS x.xP.xBox (K + 9 + szL DNode.mz x.xP.xM.xPool.xNodes))), .sl true 1 (ssC (mkS x.xP.xOut (K + 9 + szL DNode.mz x.xP.xM.xPool.xNodes + mzS x.xP.xBox)))] = (mkTo DHome.me DHome.mz xs k (i + 1).toNat).map DHome.c := by
      rw [show (i + 1).toNat = i.toNat + 1 by omega, ← mkTo_set DHome.me DHome.mz hx k, List.map_set, ← he, hK]
      try rfl
    refine ⟨xs.length - (i + 1).toNat, ?_⟩
    apply Exists.intro
    refine ⟨by omega, ?_, ?_⟩
    · exact norm_wk (keep := [0, 1, 4, 5]) (kb := []) (ρ := [(3000000, some 3000000)]) rfl
    refine ⟨i + 1, es.set i.toNat [.sc (.int .i64 (K)), .sc (.int .i64 (K + 1)), .sl true 5 ((mkL DNode.me DNode.mz x.xP.xM.xPool.xNodes (K + 2)).map DNode.c), .sc (.int .i64 (K + 2 + szL DNode.mz x.xP.xM.xPool.xNodes)), .sc (.int .i64 (K + 3 + szL DNode.mz x.xP.xM.xPool.xNodes)), .sc (.int .i64 (K + 4 + szL DNode.mz x.xP.xM.xPool.xNodes)), .sc (.int .i64 (K + 5 + szL DNode.mz x.xP.xM.xPool.xNodes)), .sc (.int .i64 (K + 6 + szL DNode.mz x.xP.xM.xPool.xNodes)), .sc (.int .i64 (K + 7 + szL DNode.mz x.xP.xM.xPool.xNodes)), .sc (.int .i64 (K + 8 + szL DNode.mz x.xP.xM.xPool.xNodes)), .sl true 1 (ssC (mkS x.xP.xBox (K + 9 + szL DNode.mz x.xP.xM.xPool.xNodes))), .sl true 1 (ssC (mkS x.xP.xOut (K + 9 + szL DNode.mz x.xP.xM.xPool.xNodes + mzS x.xP.xBox)))], ?_, rfl, by omega, by omega, fin⟩
    rw [show (i + 1).toNat = i.toNat + 1 by omega, eK]
    simp only [List.set_set]
    rfl
  · rw [ltI_f] at h
    rw [List.take_of_length_le (by omega)]
    rw [mkTo_all _ _ _ _ (by omega)] at he
    rw [he]
    exact ⟨rfl, rfl⟩

set_option maxRecDepth 100000 in
set_option maxHeartbeats 4000000 in
theorem markGramS_ok (xs : List DGram) (k : Int) (h0 : 0 ≤ k) (hk : k + szL DGram.mz xs ≤ 1000000000) : FnV Tryz.prog 135 [.mv false [.sl true 5 (xs.map DGram.c)], iV k] fun rs outs => rs = [iR (k + szL DGram.mz xs)] ∧ outs = [[.sl true 5 ((mkL DGram.me DGram.mz xs k).map DGram.c)]] := by
  have hl := szL_len (f := DGram.mz) (fun x => by show 1 ≤ 5; omega) xs
  refine fn_ok (E := EMkB) τ_ok mixed Tryz.func135 (by rfl) (by rfl) false (by simp [Tryz.f135]) ?_
  conv => whnf
  refine ⟨fun m s => ∃ (i : Int) (es : List (List C)), s = ⟨[(0, .vals false [.ref 3000000 0]), (1, .vals false [.sc (.int .i64 (k + szL DGram.mz (xs.take i.toNat)))]), (4, .vals false [.sc (.int .i64 0)]), (5, .vals false [.sc (.int .i64 i)])], [], [(3000000, ⟨true, 0, 0, true, 5, es⟩)]⟩ ∧ m = xs.length - i.toNat ∧ 0 ≤ i ∧ i ≤ xs.length ∧ es = (mkTo DGram.me DGram.mz xs k i.toNat).map DGram.c,
    ⟨_, _, norm_wk (keep := [0, 1, 4, 5]) (kb := []) (ρ := [(3000000, some 3000000)]) rfl, ⟨0, _, by simp [szL]; rfl, rfl, by omega, by omega, by simp [mkTo_zero]⟩⟩, ?_⟩
  rintro m _ ⟨i, es, rfl, rfl, i0, i1, he⟩
  have hel : es.length = xs.length := by rw [he, List.length_map, mkTo_len]
  conv => whnf
  rw [hel]
  refine br_if (fun h => ?_) (fun h => ?_) <;> (try rw [h]) <;> (conv => whnf)
  · rw [ltI_t] at h
    obtain ⟨x, hx⟩ : ∃ x, xs[i.toNat]? = some x := ⟨_, List.getElem?_eq_getElem (by omega)⟩
    have hrow : es[i.toNat]? = some (DGram.c x) := by rw [he, List.getElem?_map, mkTo_at DGram.me DGram.mz hx]; rfl
    have hsucc := szL_succ (f := DGram.mz) hx
    have htk := szL_take (f := DGram.mz) DGram.mz_nonneg xs (i.toNat + 1)
    have h00 := szL_nonneg (f := DGram.mz) DGram.mz_nonneg (xs.take i.toNat)
    have hmz : x.mz = 5 := rfl
    have hin : i.toNat < es.length := by omega
    generalize hK : k + szL DGram.mz (xs.take i.toNat) = K
    refine ⟨i0, by simp only [List.length_set]; omega, ?_⟩
    conv => whnf
    refine ⟨[.sc (.int .i64 x.xKind), .sc (.int .i64 x.xFrom), .sc (.int .i64 x.xTo), .sc (.int .i64 x.xP.xNo), .sc (.string x.xP.xText)], hrow, ?_⟩
    conv => whnf
    rw [show wrp .i64 (K + 1) = K + 1 from (wrp_i64 (by omega) (by omega)).trans (by omega)]
    refine ⟨i0, by simp only [List.length_set]; omega, ?_⟩
    conv => whnf
    refine ⟨[.sc (.int .i64 (K)), .sc (.int .i64 x.xFrom), .sc (.int .i64 x.xTo), .sc (.int .i64 x.xP.xNo), .sc (.string x.xP.xText)], List.getElem?_set_self (by simp only [List.length_set]; omega), ?_⟩
    conv => whnf
    rw [show wrp .i64 (K + 1 + 1) = K + 2 from (wrp_i64 (by omega) (by omega)).trans (by omega)]
    refine ⟨i0, by simp only [List.length_set]; omega, ?_⟩
    conv => whnf
    refine ⟨[.sc (.int .i64 (K)), .sc (.int .i64 (K + 1)), .sc (.int .i64 x.xTo), .sc (.int .i64 x.xP.xNo), .sc (.string x.xP.xText)], List.getElem?_set_self (by simp only [List.length_set]; omega), ?_⟩
    conv => whnf
    rw [show wrp .i64 (K + 2 + 1) = K + 3 from (wrp_i64 (by omega) (by omega)).trans (by omega)]
    refine ⟨i0, by simp only [List.length_set]; omega, ?_⟩
    conv => whnf
    refine ⟨[.sc (.int .i64 (K)), .sc (.int .i64 (K + 1)), .sc (.int .i64 (K + 2)), .sc (.int .i64 x.xP.xNo), .sc (.string x.xP.xText)], List.getElem?_set_self (by simp only [List.length_set]; omega), ?_⟩
    conv => whnf
    rw [show wrp .i64 (K + 3 + 1) = K + 4 from (wrp_i64 (by omega) (by omega)).trans (by omega)]
    refine (markText_ok (K + 4) (by omega)).mono ?_
    rintro _ _ ⟨rfl, rfl⟩
    conv => whnf
    refine ⟨i0, by simp only [List.length_set]; omega, ?_⟩
    conv => whnf
    refine ⟨[.sc (.int .i64 (K)), .sc (.int .i64 (K + 1)), .sc (.int .i64 (K + 2)), .sc (.int .i64 (K + 3)), .sc (.string x.xP.xText)], List.getElem?_set_self (by simp only [List.length_set]; omega), ?_⟩
    conv => whnf
    rw [show wrp .i64 (K + 4 + 1) = K + 5 from (wrp_i64 (by omega) (by omega)).trans (by omega)]
    rw [wrp_i64 (x := i + 1) (by omega) (by omega)]
    have eK : k + szL DGram.mz (xs.take (i.toNat + 1)) = K + 5 := by omega
    have fin : es.set i.toNat [.sc (.int .i64 (K)), .sc (.int .i64 (K + 1)), .sc (.int .i64 (K + 2)), .sc (.int .i64 (K + 3)), .sc (.string (mkT (K + 4)))] = (mkTo DGram.me DGram.mz xs k (i + 1).toNat).map DGram.c := by
      rw [show (i + 1).toNat = i.toNat + 1 by omega, ← mkTo_set DGram.me DGram.mz hx k, List.map_set, ← he, hK]
      try rfl
    refine ⟨xs.length - (i + 1).toNat, ?_⟩
    apply Exists.intro
    refine ⟨by omega, ?_, ?_⟩
    · exact norm_wk (keep := [0, 1, 4, 5]) (kb := []) (ρ := [(3000000, some 3000000)]) rfl
    refine ⟨i + 1, es.set i.toNat [.sc (.int .i64 (K)), .sc (.int .i64 (K + 1)), .sc (.int .i64 (K + 2)), .sc (.int .i64 (K + 3)), .sc (.string (mkT (K + 4)))], ?_, rfl, by omega, by omega, fin⟩
    rw [show (i + 1).toNat = i.toNat + 1 by omega, eK]
    simp only [List.set_set]
    rfl
  · rw [ltI_f] at h
    rw [List.take_of_length_le (by omega)]
    rw [mkTo_all _ _ _ _ (by omega)] at he
    rw [he]
    exact ⟨rfl, rfl⟩

set_option maxRecDepth 100000 in
set_option maxHeartbeats 4000000 in
theorem markParkedS_ok (xs : List DParked) (k : Int) (h0 : 0 ≤ k) (hk : k + szL DParked.mz xs ≤ 1000000000) : FnV Tryz.prog 136 [.mv false [.sl true 3 (xs.map DParked.c)], iV k] fun rs outs => rs = [iR (k + szL DParked.mz xs)] ∧ outs = [[.sl true 3 ((mkL DParked.me DParked.mz xs k).map DParked.c)]] := by
  have hl := szL_len (f := DParked.mz) (fun x => by show 1 ≤ 3; omega) xs
  refine fn_ok (E := EMkB) τ_ok mixed Tryz.func136 (by rfl) (by rfl) false (by simp [Tryz.f136]) ?_
  conv => whnf
  refine ⟨fun m s => ∃ (i : Int) (es : List (List C)), s = ⟨[(0, .vals false [.ref 3000000 0]), (1, .vals false [.sc (.int .i64 (k + szL DParked.mz (xs.take i.toNat)))]), (4, .vals false [.sc (.int .i64 0)]), (5, .vals false [.sc (.int .i64 i)])], [], [(3000000, ⟨true, 0, 0, true, 3, es⟩)]⟩ ∧ m = xs.length - i.toNat ∧ 0 ≤ i ∧ i ≤ xs.length ∧ es = (mkTo DParked.me DParked.mz xs k i.toNat).map DParked.c,
    ⟨_, _, norm_wk (keep := [0, 1, 4, 5]) (kb := []) (ρ := [(3000000, some 3000000)]) rfl, ⟨0, _, by simp [szL]; rfl, rfl, by omega, by omega, by simp [mkTo_zero]⟩⟩, ?_⟩
  rintro m _ ⟨i, es, rfl, rfl, i0, i1, he⟩
  have hel : es.length = xs.length := by rw [he, List.length_map, mkTo_len]
  conv => whnf
  rw [hel]
  refine br_if (fun h => ?_) (fun h => ?_) <;> (try rw [h]) <;> (conv => whnf)
  · rw [ltI_t] at h
    obtain ⟨x, hx⟩ : ∃ x, xs[i.toNat]? = some x := ⟨_, List.getElem?_eq_getElem (by omega)⟩
    have hrow : es[i.toNat]? = some (DParked.c x) := by rw [he, List.getElem?_map, mkTo_at DParked.me DParked.mz hx]; rfl
    have hsucc := szL_succ (f := DParked.mz) hx
    have htk := szL_take (f := DParked.mz) DParked.mz_nonneg xs (i.toNat + 1)
    have h00 := szL_nonneg (f := DParked.mz) DParked.mz_nonneg (xs.take i.toNat)
    have hmz : x.mz = 3 := rfl
    have hin : i.toNat < es.length := by omega
    generalize hK : k + szL DParked.mz (xs.take i.toNat) = K
    refine ⟨i0, by simp only [List.length_set]; omega, ?_⟩
    conv => whnf
    refine ⟨[.sc (.int .i64 x.xAt), .sc (.int .i64 x.xTo), .sc (.string x.xText)], hrow, ?_⟩
    conv => whnf
    rw [show wrp .i64 (K + 1) = K + 1 from (wrp_i64 (by omega) (by omega)).trans (by omega)]
    refine ⟨i0, by simp only [List.length_set]; omega, ?_⟩
    conv => whnf
    refine ⟨[.sc (.int .i64 (K)), .sc (.int .i64 x.xTo), .sc (.string x.xText)], List.getElem?_set_self (by simp only [List.length_set]; omega), ?_⟩
    conv => whnf
    rw [show wrp .i64 (K + 1 + 1) = K + 2 from (wrp_i64 (by omega) (by omega)).trans (by omega)]
    refine (markText_ok (K + 2) (by omega)).mono ?_
    rintro _ _ ⟨rfl, rfl⟩
    conv => whnf
    refine ⟨i0, by simp only [List.length_set]; omega, ?_⟩
    conv => whnf
    refine ⟨[.sc (.int .i64 (K)), .sc (.int .i64 (K + 1)), .sc (.string x.xText)], List.getElem?_set_self (by simp only [List.length_set]; omega), ?_⟩
    conv => whnf
    rw [show wrp .i64 (K + 2 + 1) = K + 3 from (wrp_i64 (by omega) (by omega)).trans (by omega)]
    rw [wrp_i64 (x := i + 1) (by omega) (by omega)]
    have eK : k + szL DParked.mz (xs.take (i.toNat + 1)) = K + 3 := by omega
    have fin : es.set i.toNat [.sc (.int .i64 (K)), .sc (.int .i64 (K + 1)), .sc (.string (mkT (K + 2)))] = (mkTo DParked.me DParked.mz xs k (i + 1).toNat).map DParked.c := by
      rw [show (i + 1).toNat = i.toNat + 1 by omega, ← mkTo_set DParked.me DParked.mz hx k, List.map_set, ← he, hK]
      try rfl
    refine ⟨xs.length - (i + 1).toNat, ?_⟩
    apply Exists.intro
    refine ⟨by omega, ?_, ?_⟩
    · exact norm_wk (keep := [0, 1, 4, 5]) (kb := []) (ρ := [(3000000, some 3000000)]) rfl
    refine ⟨i + 1, es.set i.toNat [.sc (.int .i64 (K)), .sc (.int .i64 (K + 1)), .sc (.string (mkT (K + 2)))], ?_, rfl, by omega, by omega, fin⟩
    rw [show (i + 1).toNat = i.toNat + 1 by omega, eK]
    simp only [List.set_set]
    rfl
  · rw [ltI_f] at h
    rw [List.take_of_length_le (by omega)]
    rw [mkTo_all _ _ _ _ (by omega)] at he
    rw [he]
    exact ⟨rfl, rfl⟩

set_option maxRecDepth 100000 in
set_option maxHeartbeats 4000000 in
theorem markStringSS_ok (xs : List (List ByteArray)) (k : Int) (h0 : 0 ≤ k) (hk : k + szL mzS xs ≤ 1000000000) (hl : xs.length ≤ 9223372036854775807) : FnV Tryz.prog 137 [.mv false [.sl true 1 (sssC xs)], iV k] fun rs outs => rs = [iR (k + szL mzS xs)] ∧ outs = [[.sl true 1 (sssC (mkL mkS mzS xs k))]] := by
  refine fn_ok (E := EMkB) τ_ok mixed Tryz.func137 (by rfl) (by rfl) false (by simp [Tryz.f137]) ?_
  conv => whnf
  refine ⟨fun m s => ∃ (i : Int) (es : List (List C)), s = ⟨[(0, .vals false [.ref 3000000 0]), (1, .vals false [.sc (.int .i64 (k + szL mzS (xs.take i.toNat)))]), (4, .vals false [.sc (.int .i64 0)]), (5, .vals false [.sc (.int .i64 i)])], [], [(3000000, ⟨true, 0, 0, true, 1, es⟩)]⟩ ∧ m = xs.length - i.toNat ∧ 0 ≤ i ∧ i ≤ xs.length ∧ es = (mkTo mkS mzS xs k i.toNat).map (fun l => [C.sl true 1 (ssC l)]),
    ⟨_, _, norm_wk (keep := [0, 1, 4, 5]) (kb := []) (ρ := [(3000000, some 3000000)]) rfl, ⟨0, _, by simp [szL]; rfl, rfl, by omega, by omega, by simp [mkTo_zero]⟩⟩, ?_⟩
  rintro m _ ⟨i, es, rfl, rfl, i0, i1, he⟩
  have hel : es.length = xs.length := by rw [he, List.length_map, mkTo_len]
  conv => whnf
  rw [hel]
  refine br_if (fun h => ?_) (fun h => ?_) <;> (try rw [h]) <;> (conv => whnf)
  · rw [ltI_t] at h
    obtain ⟨x, hx⟩ : ∃ x, xs[i.toNat]? = some x := ⟨_, List.getElem?_eq_getElem (by omega)⟩
    have hrow : es[i.toNat]? = some ((fun l => [C.sl true 1 (ssC l)]) x) := by rw [he, List.getElem?_map, mkTo_at mkS mzS hx]; rfl
    have hsucc := szL_succ (f := mzS) hx
    have htk := szL_take (f := mzS) mzS_nonneg xs (i.toNat + 1)
    have h00 := szL_nonneg (f := mzS) mzS_nonneg (xs.take i.toNat)
    have := mzS_nonneg x
    have hin : i.toNat < es.length := by omega
    generalize hK : k + szL mzS (xs.take i.toNat) = K
    refine ⟨i0, by simp only [List.length_set]; omega, ?_⟩
    conv => whnf
    refine ⟨[.sl true 1 (ssC x)], hrow, ?_⟩
    conv => whnf
    refine ⟨[.sl true 1 (ssC x)], _, _, hrow, rfl, ?_⟩
    conv => whnf
    refine (markStringS_ok x (K) (by omega) (by omega)).mono ?_
    rintro _ _ ⟨rfl, rfl⟩
    conv => whnf
    refine ⟨[.any], List.getElem?_set_self (by simp only [List.length_set]; omega), of_decide_eq_true rfl, ?_⟩
    conv => whnf
    rw [wrp_i64 (x := i + 1) (by omega) (by omega)]
    have eK : k + szL mzS (xs.take (i.toNat + 1)) = K + mzS x := by omega
    have fin : es.set i.toNat [.sl true 1 (ssC (mkS x (K)))] = (mkTo mkS mzS xs k (i + 1).toNat).map (fun l => [C.sl true 1 (ssC l)]) := by
      rw [show (i + 1).toNat = i.toNat + 1 by omega, ← mkTo_set mkS mzS hx k, List.map_set, ← he, hK]
      try rfl
    refine ⟨xs.length - (i + 1).toNat, ?_⟩
    apply Exists.intro
    refine ⟨by omega, ?_, ?_⟩
    · exact norm_wk (keep := [0, 1, 4, 5]) (kb := []) (ρ := [(3000000, some 3000000)]) rfl
    refine ⟨i + 1, es.set i.toNat [.sl true 1 (ssC (mkS x (K)))], ?_, rfl, by omega, by omega, fin⟩
    rw [show (i + 1).toNat = i.toNat + 1 by omega, eK]
    simp only [List.set_set]
    rfl
  · rw [ltI_f] at h
    rw [List.take_of_length_le (by omega)]
    rw [mkTo_all _ _ _ _ (by omega)] at he
    rw [he]
    exact ⟨rfl, rfl⟩

end Go.Proofs.YtcaonpncopfeoaaGreat.V
