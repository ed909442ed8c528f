/- What the functions heldT of the laws come to. (printed by wip/tools/mk.py) -/
import Derived.Test.YtcaonpncopfeoaaGreatT
import Derived.Test.YtcaonpncopfeoaaGreatD4
import Derived.Test.YtcaonpncopfeoaaGreatQ1
import Derived.Test.YtcaonpncopfeoaaGreatH4
set_option linter.unusedVariables false
set_option linter.unusedSimpArgs false
namespace Go.Proofs.YtcaonpncopfeoaaGreat.V
open Go

def MdEHe (f : Nat) : List Mode :=
  match f with
  | 147 => [.rd]
  | _ => []
def EHe : Env := ⟨τ, MdEHe⟩

theorem neg_f {x : Int} (h : 0 ≤ x) : ltI x 0 = false := ltI_f.2 (by omega)
theorem hq0 : notB true = false := notB_f.2 rfl
set_option maxRecDepth 100000 in
set_option maxHeartbeats 4000000 in
theorem heldStringS_ok (xs : List ByteArray) (k : Int) (h0 : 0 ≤ k) (hk : k + mzS xs ≤ 1000000000) : FnV Tryz.prog 43 [.rdv false [.sl true 1 (ssC (mkS xs k))], iV k] fun rs outs => rs = [iR (k + mzS xs)] ∧ outs = [] := by
  unfold mzS at hk ⊢
  unfold mkS
  have hl := szL_len (f := (fun _ => 1)) (fun _ => by omega) xs
  obtain ⟨es, hes⟩ : ∃ es, es = (ssC (mkL (fun _ k => mkT k) (fun _ => 1) xs k)) := ⟨_, rfl⟩
  rw [← hes]
  have hel : es.length = xs.length := by rw [hes, List.length_map, mkL_len]
  refine fn_ok (E := EHe) τ_ok mixed Tryz.func43 (by rfl) (by rfl) false (by simp [Tryz.f43]) ?_
  conv => whnf
  refine ⟨fun m s => ∃ (i : Int), s = ⟨[(0, .vals false [.rd none 1 es]), (1, .vals false [.sc (.int .i64 (k + szL (fun _ => 1) (xs.take i.toNat)))]), (4, .vals false [.sc (.int .i64 0)]), (5, .vals false [.sc (.int .i64 i)])], [], []⟩ ∧ m = xs.length - i.toNat ∧ 0 ≤ i ∧ i ≤ xs.length,
    ⟨_, _, norm_wk (keep := [0, 1, 4, 5]) (kb := []) (ρ := []) rfl, ⟨0, by simp [szL], rfl, by omega, by omega⟩⟩, ?_⟩
  rintro m _ ⟨i, rfl, rfl, i0, i1⟩
  conv => whnf
  rw [hel]
  refine br_if (fun h => ?_) (fun h => ?_) <;> (try rw [h]) <;> (conv => whnf)
  · rw [ltI_t] at h
    obtain ⟨x, hx⟩ : ∃ x, xs[i.toNat]? = some x := ⟨_, List.getElem?_eq_getElem (by omega)⟩
    have hsucc := szL_succ (f := (fun _ => 1)) hx
    have htk := szL_take (f := (fun _ => 1)) (fun _ => by omega) xs (i.toNat + 1)
    have h00 := szL_nonneg (f := (fun _ => 1)) (fun _ => by omega) (xs.take i.toNat)
    generalize hK : k + szL (fun _ => 1) (xs.take i.toNat) = K
    have hrow : es[i.toNat]? = some [.sc (.string (mkT (K)))] := by rw [hes, List.getElem?_map, mkL_at (fun _ k => mkT k) (fun _ => 1) hx, hK]; rfl
    refine ⟨.one (.take 0 (.take 1 (.take 2 (.take 4 (.early 3 (.or 5 (.take 6 .done) .nil)))))), by rfl, ?_⟩
    conv => whnf
    refine ⟨i0, _, hrow, ?_⟩
    conv => whnf
    refine (markText_ok (K) (by omega)).mono ?_
    rintro _ _ ⟨rfl, rfl⟩
    conv => whnf
    refine ⟨rfl, ?_⟩
    conv => whnf
    rw [eqStr_self, hq0]
    conv => whnf
    rw [show wrp .i64 (K + 1) = K + 1 from (wrp_i64 (by omega) (by omega)).trans (by omega)]
    rw [wrp_i64 (x := i + 1) (by omega) (by omega)]
    have eK : k + szL (fun _ => 1) (xs.take (i.toNat + 1)) = K + 1 := by omega
    refine ⟨xs.length - (i + 1).toNat, _, by omega, norm_wk (keep := [0, 1, 4, 5]) (kb := []) (ρ := []) rfl, ⟨i + 1, ?_, rfl, by omega, by omega⟩⟩
    rw [show (i + 1).toNat = i.toNat + 1 by omega, eK]
    try rfl
  · rw [ltI_f] at h
    rw [List.take_of_length_le (by omega)]
    exact ⟨rfl, rfl⟩

set_option maxRecDepth 100000 in
set_option maxHeartbeats 4000000 in
theorem heldNodeS_ok (xs : List DNode) (k : Int) (h0 : 0 ≤ k) (hk : k + szL DNode.mz xs ≤ 1000000000) : FnV Tryz.prog 235 [.rdv false [.sl true 5 ((mkL DNode.me DNode.mz xs k).map DNode.c)], iV k] fun rs outs => rs = [iR (k + szL DNode.mz xs)] ∧ outs = [] := by
  have hl := szL_len (f := DNode.mz) (fun x => by show 1 ≤ 5; omega) xs
  obtain ⟨es, hes⟩ : ∃ es, es = ((mkL DNode.me DNode.mz xs k).map DNode.c) := ⟨_, rfl⟩
  rw [← hes]
  have hel : es.length = xs.length := by rw [hes, List.length_map, mkL_len]
  refine fn_ok (E := EHe) τ_ok mixed Tryz.func235 (by rfl) (by rfl) false (by simp [Tryz.f235]) ?_
  conv => whnf
  refine ⟨fun m s => ∃ (i : Int), s = ⟨[(0, .vals false [.rd none 5 es]), (1, .vals false [.sc (.int .i64 (k + szL DNode.mz (xs.take i.toNat)))]), (4, .vals false [.sc (.int .i64 0)]), (5, .vals false [.sc (.int .i64 i)])], [], []⟩ ∧ m = xs.length - i.toNat ∧ 0 ≤ i ∧ i ≤ xs.length,
    ⟨_, _, norm_wk (keep := [0, 1, 4, 5]) (kb := []) (ρ := []) rfl, ⟨0, by simp [szL], rfl, by omega, by omega⟩⟩, ?_⟩
  rintro m _ ⟨i, rfl, rfl, i0, i1⟩
  conv => whnf
  rw [hel]
  refine br_if (fun h => ?_) (fun h => ?_) <;> (try rw [h]) <;> (conv => whnf)
  · rw [ltI_t] at h
    obtain ⟨x, hx⟩ : ∃ x, xs[i.toNat]? = some x := ⟨_, List.getElem?_eq_getElem (by omega)⟩
    have hsucc := szL_succ (f := DNode.mz) hx
    have htk := szL_take (f := DNode.mz) DNode.mz_nonneg xs (i.toNat + 1)
    have h00 := szL_nonneg (f := DNode.mz) DNode.mz_nonneg (xs.take i.toNat)
    generalize hK : k + szL DNode.mz (xs.take i.toNat) = K
    have hrow : es[i.toNat]? = some [.sc (.int .i64 (K)), .sc (.int .i64 (K + 1)), .sc (.string (mkT (K + 2))), .sc (.int .i64 (K + 3)), .sc (.int .i64 (K + 4))] := by rw [hes, List.getElem?_map, mkL_at DNode.me DNode.mz hx, hK]; rfl
    have hmz : x.mz = 5 := rfl
    refine ⟨i0, _, hrow, ?_⟩
    conv => whnf
    rw [eqI_self, hq0]
    conv => whnf
    rw [show wrp .i64 (K + 1) = K + 1 from (wrp_i64 (by omega) (by omega)).trans (by omega)]
    refine ⟨i0, _, hrow, ?_⟩
    conv => whnf
    rw [eqI_self, hq0]
    conv => whnf
    rw [show wrp .i64 (K + 1 + 1) = K + 2 from (wrp_i64 (by omega) (by omega)).trans (by omega)]
    refine ⟨.one (.take 0 (.take 1 (.take 2 (.take 3 (.take 5 (.early 4 (.or 6 (.take 7 .done) .nil))))))), by rfl, ?_⟩
    conv => whnf
    refine ⟨i0, _, hrow, ?_⟩
    conv => whnf
    refine (markText_ok (K + 2) (by omega)).mono ?_
    rintro _ _ ⟨rfl, rfl⟩
    conv => whnf
    refine ⟨rfl, ?_⟩
    conv => whnf
    rw [eqStr_self, hq0]
    conv => whnf
    rw [show wrp .i64 (K + 2 + 1) = K + 3 from (wrp_i64 (by omega) (by omega)).trans (by omega)]
    refine ⟨i0, _, hrow, ?_⟩
    conv => whnf
    rw [eqI_self, hq0]
    conv => whnf
    rw [show wrp .i64 (K + 3 + 1) = K + 4 from (wrp_i64 (by omega) (by omega)).trans (by omega)]
    refine ⟨i0, _, hrow, ?_⟩
    conv => whnf
    rw [eqI_self, hq0]
    conv => whnf
    rw [show wrp .i64 (K + 4 + 1) = K + 5 from (wrp_i64 (by omega) (by omega)).trans (by omega)]
    rw [wrp_i64 (x := i + 1) (by omega) (by omega)]
    have eK : k + szL DNode.mz (xs.take (i.toNat + 1)) = K + 5 := by omega
    refine ⟨xs.length - (i + 1).toNat, _, by omega, norm_wk (keep := [0, 1, 4, 5]) (kb := []) (ρ := []) rfl, ⟨i + 1, ?_, rfl, by omega, by omega⟩⟩
    rw [show (i + 1).toNat = i.toNat + 1 by omega, eK]
    try rfl
  · rw [ltI_f] at h
    rw [List.take_of_length_le (by omega)]
    exact ⟨rfl, rfl⟩

set_option maxRecDepth 100000 in
set_option maxHeartbeats 4000000 in
theorem heldInstrS_ok (xs : List DInstr) (k : Int) (h0 : 0 ≤ k) (hk : k + szL DInstr.mz xs ≤ 1000000000) : FnV Tryz.prog 233 [.rdv false [.sl true 4 ((mkL DInstr.me DInstr.mz xs k).map DInstr.c)], iV k] fun rs outs => rs = [iR (k + szL DInstr.mz xs)] ∧ outs = [] := by
  have hl := szL_len (f := DInstr.mz) (fun x => by show 1 ≤ 4; omega) xs
  obtain ⟨es, hes⟩ : ∃ es, es = ((mkL DInstr.me DInstr.mz xs k).map DInstr.c) := ⟨_, rfl⟩
  rw [← hes]
  have hel : es.length = xs.length := by rw [hes, List.length_map, mkL_len]
  refine fn_ok (E := EHe) τ_ok mixed Tryz.func233 (by rfl) (by rfl) false (by simp [Tryz.f233]) ?_
  conv => whnf
  refine ⟨fun m s => ∃ (i : Int), s = ⟨[(0, .vals false [.rd none 4 es]), (1, .vals false [.sc (.int .i64 (k + szL DInstr.mz (xs.take i.toNat)))]), (4, .vals false [.sc (.int .i64 0)]), (5, .vals false [.sc (.int .i64 i)])], [], []⟩ ∧ m = xs.length - i.toNat ∧ 0 ≤ i ∧ i ≤ xs.length,
    ⟨_, _, norm_wk (keep := [0, 1, 4, 5]) (kb := []) (ρ := []) rfl, ⟨0, by simp [szL], rfl, by omega, by omega⟩⟩, ?_⟩
  rintro m _ ⟨i, rfl, rfl, i0, i1⟩
  conv => whnf
  rw [hel]
  refine br_if (fun h => ?_) (fun h => ?_) <;> (try rw [h]) <;> (conv => whnf)
  · rw [ltI_t] at h
    obtain ⟨x, hx⟩ : ∃ x, xs[i.toNat]? = some x := ⟨_, List.getElem?_eq_getElem (by omega)⟩
    have hsucc := szL_succ (f := DInstr.mz) hx
    have htk := szL_take (f := DInstr.mz) DInstr.mz_nonneg xs (i.toNat + 1)
    have h00 := szL_nonneg (f := DInstr.mz) DInstr.mz_nonneg (xs.take i.toNat)
    generalize hK : k + szL DInstr.mz (xs.take i.toNat) = K
    have hrow : es[i.toNat]? = some [.sc (.int .i64 (K)), .sc (.int .i64 (K + 1)), .sc (.int .i64 (K + 2)), .sc (.string (mkT (K + 3)))] := by rw [hes, List.getElem?_map, mkL_at DInstr.me DInstr.mz hx, hK]; rfl
    have hmz : x.mz = 4 := rfl
    refine ⟨i0, _, hrow, ?_⟩
    conv => whnf
    rw [eqI_self, hq0]
    conv => whnf
    rw [show wrp .i64 (K + 1) = K + 1 from (wrp_i64 (by omega) (by omega)).trans (by omega)]
    refine ⟨i0, _, hrow, ?_⟩
    conv => whnf
    rw [eqI_self, hq0]
    conv => whnf
    rw [show wrp .i64 (K + 1 + 1) = K + 2 from (wrp_i64 (by omega) (by omega)).trans (by omega)]
    refine ⟨i0, _, hrow, ?_⟩
    conv => whnf
    rw [eqI_self, hq0]
    conv => whnf
    rw [show wrp .i64 (K + 2 + 1) = K + 3 from (wrp_i64 (by omega) (by omega)).trans (by omega)]
    refine ⟨.one (.take 0 (.take 1 (.take 2 (.take 3 (.take 5 (.early 4 (.or 6 (.take 7 .done) .nil))))))), by rfl, ?_⟩
    conv => whnf
    refine ⟨i0, _, hrow, ?_⟩
    conv => whnf
    refine (markText_ok (K + 3) (by omega)).mono ?_
    rintro _ _ ⟨rfl, rfl⟩
    conv => whnf
    refine ⟨rfl, ?_⟩
    conv => whnf
    rw [eqStr_self, hq0]
    conv => whnf
    rw [show wrp .i64 (K + 3 + 1) = K + 4 from (wrp_i64 (by omega) (by omega)).trans (by omega)]
    rw [wrp_i64 (x := i + 1) (by omega) (by omega)]
    have eK : k + szL DInstr.mz (xs.take (i.toNat + 1)) = K + 4 := by omega
    refine ⟨xs.length - (i + 1).toNat, _, by omega, norm_wk (keep := [0, 1, 4, 5]) (kb := []) (ρ := []) rfl, ⟨i + 1, ?_, rfl, by omega, by omega⟩⟩
    rw [show (i + 1).toNat = i.toNat + 1 by omega, eK]
    try rfl
  · rw [ltI_f] at h
    rw [List.take_of_length_le (by omega)]
    exact ⟨rfl, rfl⟩

set_option maxRecDepth 100000 in
set_option maxHeartbeats 4000000 in
theorem heldDefS_ok (xs : List DDef) (k : Int) (h0 : 0 ≤ k) (hk : k + szL DDef.mz xs ≤ 1000000000) : FnV Tryz.prog 234 [.rdv false [.sl true 3 ((mkL DDef.me DDef.mz xs k).map DDef.c)], iV k] fun rs outs => rs = [iR (k + szL DDef.mz xs)] ∧ outs = [] := by
  have hl := szL_len (f := DDef.mz) (fun x => by show 1 ≤ 3; omega) xs
  obtain ⟨es, hes⟩ : ∃ es, es = ((mkL DDef.me DDef.mz xs k).map DDef.c) := ⟨_, rfl⟩
  rw [← hes]
  have hel : es.length = xs.length := by rw [hes, List.length_map, mkL_len]
  refine fn_ok (E := EHe) τ_ok mixed Tryz.func234 (by rfl) (by rfl) false (by simp [Tryz.f234]) ?_
  conv => whnf
  refine ⟨fun m s => ∃ (i : Int), s = ⟨[(0, .vals false [.rd none 3 es]), (1, .vals false [.sc (.int .i64 (k + szL DDef.mz (xs.take i.toNat)))]), (4, .vals false [.sc (.int .i64 0)]), (5, .vals false [.sc (.int .i64 i)])], [], []⟩ ∧ m = xs.length - i.toNat ∧ 0 ≤ i ∧ i ≤ xs.length,
    ⟨_, _, norm_wk (keep := [0, 1, 4, 5]) (kb := []) (ρ := []) rfl, ⟨0, by simp [szL], rfl, by omega, by omega⟩⟩, ?_⟩
  rintro m _ ⟨i, rfl, rfl, i0, i1⟩
  conv => whnf
  rw [hel]
  refine br_if (fun h => ?_) (fun h => ?_) <;> (try rw [h]) <;> (conv => whnf)
  · rw [ltI_t] at h
    obtain ⟨x, hx⟩ : ∃ x, xs[i.toNat]? = some x := ⟨_, List.getElem?_eq_getElem (by omega)⟩
    have hsucc := szL_succ (f := DDef.mz) hx
    have htk := szL_take (f := DDef.mz) DDef.mz_nonneg xs (i.toNat + 1)
    have h00 := szL_nonneg (f := DDef.mz) DDef.mz_nonneg (xs.take i.toNat)
    generalize hK : k + szL DDef.mz (xs.take i.toNat) = K
    have hrow : es[i.toNat]? = some [.sc (.string (mkT (K))), .sc (.int .i64 (K + 1)), .sc (.int .i64 (K + 2))] := by rw [hes, List.getElem?_map, mkL_at DDef.me DDef.mz hx, hK]; rfl
    have hmz : x.mz = 3 := rfl
    refine ⟨.one (.take 0 (.take 1 (.take 2 (.take 3 (.take 5 (.early 4 (.or 6 (.take 7 .done) .nil))))))), by rfl, ?_⟩
    conv => whnf
    refine ⟨i0, _, hrow, ?_⟩
    conv => whnf
    refine (markText_ok (K) (by omega)).mono ?_
    rintro _ _ ⟨rfl, rfl⟩
    conv => whnf
    refine ⟨rfl, ?_⟩
    conv => whnf
    rw [eqStr_self, hq0]
    conv => whnf
    rw [show wrp .i64 (K + 1) = K + 1 from (wrp_i64 (by omega) (by omega)).trans (by omega)]
    refine ⟨i0, _, hrow, ?_⟩
    conv => whnf
    rw [eqI_self, hq0]
    conv => whnf
    rw [show wrp .i64 (K + 1 + 1) = K + 2 from (wrp_i64 (by omega) (by omega)).trans (by omega)]
    refine ⟨i0, _, hrow, ?_⟩
    conv => whnf
    rw [eqI_self, hq0]
    conv => whnf
    rw [show wrp .i64 (K + 2 + 1) = K + 3 from (wrp_i64 (by omega) (by omega)).trans (by omega)]
    rw [wrp_i64 (x := i + 1) (by omega) (by omega)]
    have eK : k + szL DDef.mz (xs.take (i.toNat + 1)) = K + 3 := by omega
    refine ⟨xs.length - (i + 1).toNat, _, by omega, norm_wk (keep := [0, 1, 4, 5]) (kb := []) (ρ := []) rfl, ⟨i + 1, ?_, rfl, by omega, by omega⟩⟩
    rw [show (i + 1).toNat = i.toNat + 1 by omega, eK]
    try rfl
  · rw [ltI_f] at h
    rw [List.take_of_length_le (by omega)]
    exact ⟨rfl, rfl⟩

end Go.Proofs.YtcaonpncopfeoaaGreat.V
