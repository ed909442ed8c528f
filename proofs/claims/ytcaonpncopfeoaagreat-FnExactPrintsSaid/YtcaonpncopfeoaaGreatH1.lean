/- What the functions szT of the laws come to. (printed by wip/tools/fam.py) -/
import Derived.Test.YtcaonpncopfeoaaGreatT
import Derived.Test.YtcaonpncopfeoaaGreatD1
set_option linter.unusedVariables false
set_option linter.unusedSimpArgs false
namespace Go.Proofs.YtcaonpncopfeoaaGreat.V
open Go

def Mdsz (f : Nat) : List Mode :=
  match f with
  | 17 => [.rd, .rd]
  | 26 => [.rd, .rd]
  | 50 => [.rd, .rd]
  | 71 => [.rd, .rd]
  | 72 => [.rd, .rd]
  | 73 => [.rd, .rd]
  | 96 => [.rd, .rd]
  | 97 => [.rd, .rd]
  | 98 => [.rd, .rd]
  | 99 => [.rd, .rd]
  | 100 => [.rd, .rd]
  | 153 => [.rd, .rd]
  | 154 => [.rd, .rd]
  | 168 => [.rd, .rd]
  | 169 => [.rd, .rd]
  | 170 => [.rd, .rd]
  | 191 => [.rd, .rd]
  | 192 => [.rd, .rd]
  | 193 => [.rd, .rd]
  | 194 => [.rd, .rd]
  | 257 => [.rd, .rd]
  | 268 => [.rd, .rd]
  | 269 => [.rd, .rd]
  | _ => []
def Ensz : Env := ⟨τ, Mdsz⟩

set_option maxRecDepth 100000 in
theorem szNode_ok (a : DNode) (left : Int) (h0 : 0 ≤ left) (h1 : left ≤ 1048576) (ho : a.ok) : FnV Tryz.prog 257 [.rdv true a.c, iV left] fun rs outs => rs = [iR (szR a.sz left)] ∧ outs = [] := by
  refine fn_ok (E := Ensz) τ_ok mixed Tryz.func257 (by rfl) (by rfl) false (by simp [Tryz.f257]) ?_
  obtain ⟨oKind, oN, oS, oA, oB⟩ := ho
  unfold DNode.sz
  conv => whnf
  have e0 : wrp .i64 (left - ((a.xS.size : Nat) : Int)) = left - (a.xS.size : Int) := wrp_i64 (by omega) (by omega)
  rw [e0]
  refine br_if (fun h => ?_) (fun h => ?_) <;> (try rw [h]) <;> (conv => whnf)
  · rw [ltI_t] at h
    rw [szR_neg (by omega)]
    exact ⟨rfl, rfl⟩
  rw [ltI_f] at h
  try rw [szR_pos (by omega)]
  have eL : (left - (a.xS.size : Int)) = left - ((a.xS.size : Int)) := by omega
  rw [eL]
  exact ⟨rfl, rfl⟩

set_option maxRecDepth 100000 in
theorem szNodeS_ok (xs : List DNode) (left : Int) (h0 : 0 ≤ left) (h1 : left ≤ 1048576) (hl : xs.length ≤ 9223372036854775807) (ho : ∀ y ∈ xs, y.ok) :
    FnV Tryz.prog 168 [.rdv false [.sl true 5 (xs.map DNode.c)], iV left] fun rs outs => rs = [iR (szR (((xs.length : Int) + szL DNode.sz xs)) left)] ∧ outs = [] := by
  refine fn_ok (E := Ensz) τ_ok mixed Tryz.func168 (by rfl) (by rfl) false (by simp [Tryz.f168]) ?_
  have hn := szL_nonneg DNode.sz_nonneg xs
  conv => whnf
  rw [List.length_map]
  have e0 : wrp .i64 (left - ((xs.length : Nat) : Int)) = left - xs.length := wrp_i64 (by omega) (by omega)
  rw [e0]
  refine br_if (fun h => ?_) (fun h => ?_) <;> (try rw [h]) <;> (conv => whnf)
  · rw [ltI_t] at h
    rw [szR_neg (by omega)]
    exact ⟨rfl, rfl⟩
  rw [ltI_f] at h
  refine ⟨fun m s => ∃ (k L : Int), s = ⟨[(0, .vals false [.rd none 5 (xs.map DNode.c)]), (1, .vals false [.sc (.int .i64 L)]), (5, .vals false [.sc (.int .i64 k)])], [], []⟩ ∧ m = xs.length - k.toNat ∧ 0 ≤ k ∧ k ≤ xs.length ∧ 0 ≤ L ∧ L ≤ 1048576 ∧ L + xs.length + szL DNode.sz (xs.take k.toNat) = left,
    ⟨_, _, norm_wk (keep := [0, 1, 5]) (kb := []) (ρ := []) rfl, ⟨0, _, rfl, rfl, by omega, by omega, h, by omega, by simp [szL]⟩⟩, ?_⟩
  rintro m _ ⟨k, L, rfl, rfl, k0, k1, L0, L1, hL⟩
  conv => whnf
  refine br_if (fun h => ?_) (fun h => ?_) <;> (try rw [h]) <;> (conv => whnf)
  · rw [ltI_t, List.length_map] at h
    obtain ⟨x, hx⟩ : ∃ x, xs[k.toNat]? = some x := ⟨_, List.getElem?_eq_getElem (by omega)⟩
    have hxo := ho x (List.mem_of_getElem? hx)
    have hs := szL_succ (f := DNode.sz) hx
    have ht := szL_take DNode.sz_nonneg xs (k.toNat + 1)
    have hxn := DNode.sz_nonneg x
    refine ⟨by omega, _, by rw [List.getElem?_map, hx]; rfl, ?_⟩
    conv => whnf
    have ek : wrp .i64 (k + 1) = k + 1 := wrp_i64 (by omega) (by omega)
    have ek2 : (k + 1).toNat = k.toNat + 1 := by omega
    refine (szNode_ok x L L0 L1 hxo).mono ?_
    rintro _ _ ⟨rfl, rfl⟩
    conv => whnf
    refine br_if (fun h2 => ?_) (fun h2 => ?_) <;> (try rw [h2]) <;> (conv => whnf)
    · rw [ltI_t, szR_lt L0] at h2
      rw [szR_neg (by omega)]
      exact ⟨rfl, rfl⟩
    · rw [ltI_f, ← Int.not_lt, szR_lt L0, Int.not_lt] at h2
      rw [ek, szR_pos h2]
      exact ⟨xs.length - (k + 1).toNat, _, by omega, norm_wk (keep := [0, 1, 5]) (kb := []) (ρ := []) rfl, ⟨k + 1, _, rfl, rfl, by omega, by omega, by omega, by omega, by rw [ek2, hs]; omega⟩⟩
  · rw [ltI_f, List.length_map] at h
    have hk : xs.take k.toNat = xs := List.take_of_length_le (by omega)
    rw [hk] at hL
    rw [szR_pos (by omega)]
    have eL : L = left - ((xs.length : Int) + szL DNode.sz xs) := by omega
    rw [eL]
    exact ⟨rfl, rfl⟩

set_option maxRecDepth 100000 in
theorem szPool_ok (a : DPool) (left : Int) (h0 : 0 ≤ left) (h1 : left ≤ 1048576) (ho : a.ok) : FnV Tryz.prog 71 [.rdv true a.c, iV left] fun rs outs => rs = [iR (szR a.sz left)] ∧ outs = [] := by
  refine fn_ok (E := Ensz) τ_ok mixed Tryz.func71 (by rfl) (by rfl) false (by simp [Tryz.f71]) ?_
  have oNodes := ho
  have nNodes := szL_nonneg DNode.sz_nonneg a.xNodes
  unfold DPool.sz
  conv => whnf
  refine (szNodeS_ok a.xNodes left (by omega) (by omega) oNodes.1 oNodes.2).mono ?_
  rintro _ _ ⟨rfl, rfl⟩
  conv => whnf
  refine br_if (fun h => ?_) (fun h => ?_) <;> (try rw [h]) <;> (conv => whnf)
  · rw [ltI_t, szR_lt (by omega)] at h
    rw [szR_neg (by omega)]
    exact ⟨rfl, rfl⟩
  rw [ltI_f, ← Int.not_lt, szR_lt (by omega), Int.not_lt] at h
  rw [szR_pos h]
  try rw [szR_pos (by omega)]
  have eL : (left - ((a.xNodes.length : Int) + szL DNode.sz a.xNodes)) = left - (((a.xNodes.length : Int) + szL DNode.sz a.xNodes)) := by omega
  rw [eL]
  exact ⟨rfl, rfl⟩

set_option maxRecDepth 100000 in
theorem szInstr_ok (a : DInstr) (left : Int) (h0 : 0 ≤ left) (h1 : left ≤ 1048576) (ho : a.ok) : FnV Tryz.prog 169 [.rdv true a.c, iV left] fun rs outs => rs = [iR (szR a.sz left)] ∧ outs = [] := by
  refine fn_ok (E := Ensz) τ_ok mixed Tryz.func169 (by rfl) (by rfl) false (by simp [Tryz.f169]) ?_
  obtain ⟨oOp, oN, oI, oS⟩ := ho
  unfold DInstr.sz
  conv => whnf
  have e0 : wrp .i64 (left - ((a.xS.size : Nat) : Int)) = left - (a.xS.size : Int) := wrp_i64 (by omega) (by omega)
  rw [e0]
  refine br_if (fun h => ?_) (fun h => ?_) <;> (try rw [h]) <;> (conv => whnf)
  · rw [ltI_t] at h
    rw [szR_neg (by omega)]
    exact ⟨rfl, rfl⟩
  rw [ltI_f] at h
  try rw [szR_pos (by omega)]
  have eL : (left - (a.xS.size : Int)) = left - ((a.xS.size : Int)) := by omega
  rw [eL]
  exact ⟨rfl, rfl⟩

set_option maxRecDepth 100000 in
theorem szDef_ok (a : DDef) (left : Int) (h0 : 0 ≤ left) (h1 : left ≤ 1048576) (ho : a.ok) : FnV Tryz.prog 170 [.rdv true a.c, iV left] fun rs outs => rs = [iR (szR a.sz left)] ∧ outs = [] := by
  refine fn_ok (E := Ensz) τ_ok mixed Tryz.func170 (by rfl) (by rfl) false (by simp [Tryz.f170]) ?_
  obtain ⟨oName, oAt, oArgs⟩ := ho
  unfold DDef.sz
  conv => whnf
  have e0 : wrp .i64 (left - ((a.xName.size : Nat) : Int)) = left - (a.xName.size : Int) := wrp_i64 (by omega) (by omega)
  rw [e0]
  refine br_if (fun h => ?_) (fun h => ?_) <;> (try rw [h]) <;> (conv => whnf)
  · rw [ltI_t] at h
    rw [szR_neg (by omega)]
    exact ⟨rfl, rfl⟩
  rw [ltI_f] at h
  try rw [szR_pos (by omega)]
  have eL : (left - (a.xName.size : Int)) = left - ((a.xName.size : Int)) := by omega
  rw [eL]
  exact ⟨rfl, rfl⟩

set_option maxRecDepth 100000 in
theorem szInstrS_ok (xs : List DInstr) (left : Int) (h0 : 0 ≤ left) (h1 : left ≤ 1048576) (hl : xs.length ≤ 9223372036854775807) (ho : ∀ y ∈ xs, y.ok) :
    FnV Tryz.prog 72 [.rdv false [.sl true 4 (xs.map DInstr.c)], iV left] fun rs outs => rs = [iR (szR (((xs.length : Int) + szL DInstr.sz xs)) left)] ∧ outs = [] := by
  refine fn_ok (E := Ensz) τ_ok mixed Tryz.func72 (by rfl) (by rfl) false (by simp [Tryz.f72]) ?_
  have hn := szL_nonneg DInstr.sz_nonneg xs
  conv => whnf
  rw [List.length_map]
  have e0 : wrp .i64 (left - ((xs.length : Nat) : Int)) = left - xs.length := wrp_i64 (by omega) (by omega)
  rw [e0]
  refine br_if (fun h => ?_) (fun h => ?_) <;> (try rw [h]) <;> (conv => whnf)
  · rw [ltI_t] at h
    rw [szR_neg (by omega)]
    exact ⟨rfl, rfl⟩
  rw [ltI_f] at h
  refine ⟨fun m s => ∃ (k L : Int), s = ⟨[(0, .vals false [.rd none 4 (xs.map DInstr.c)]), (1, .vals false [.sc (.int .i64 L)]), (5, .vals false [.sc (.int .i64 k)])], [], []⟩ ∧ m = xs.length - k.toNat ∧ 0 ≤ k ∧ k ≤ xs.length ∧ 0 ≤ L ∧ L ≤ 1048576 ∧ L + xs.length + szL DInstr.sz (xs.take k.toNat) = left,
    ⟨_, _, norm_wk (keep := [0, 1, 5]) (kb := []) (ρ := []) rfl, ⟨0, _, rfl, rfl, by omega, by omega, h, by omega, by simp [szL]⟩⟩, ?_⟩
  rintro m _ ⟨k, L, rfl, rfl, k0, k1, L0, L1, hL⟩
  conv => whnf
  refine br_if (fun h => ?_) (fun h => ?_) <;> (try rw [h]) <;> (conv => whnf)
  · rw [ltI_t, List.length_map] at h
    obtain ⟨x, hx⟩ : ∃ x, xs[k.toNat]? = some x := ⟨_, List.getElem?_eq_getElem (by omega)⟩
    have hxo := ho x (List.mem_of_getElem? hx)
    have hs := szL_succ (f := DInstr.sz) hx
    have ht := szL_take DInstr.sz_nonneg xs (k.toNat + 1)
    have hxn := DInstr.sz_nonneg x
    refine ⟨by omega, _, by rw [List.getElem?_map, hx]; rfl, ?_⟩
    conv => whnf
    have ek : wrp .i64 (k + 1) = k + 1 := wrp_i64 (by omega) (by omega)
    have ek2 : (k + 1).toNat = k.toNat + 1 := by omega
    refine (szInstr_ok x L L0 L1 hxo).mono ?_
    rintro _ _ ⟨rfl, rfl⟩
    conv => whnf
    refine br_if (fun h2 => ?_) (fun h2 => ?_) <;> (try rw [h2]) <;> (conv => whnf)
    · rw [ltI_t, szR_lt L0] at h2
      rw [szR_neg (by omega)]
      exact ⟨rfl, rfl⟩
    · rw [ltI_f, ← Int.not_lt, szR_lt L0, Int.not_lt] at h2
      rw [ek, szR_pos h2]
      exact ⟨xs.length - (k + 1).toNat, _, by omega, norm_wk (keep := [0, 1, 5]) (kb := []) (ρ := []) rfl, ⟨k + 1, _, rfl, rfl, by omega, by omega, by omega, by omega, by rw [ek2, hs]; omega⟩⟩
  · rw [ltI_f, List.length_map] at h
    have hk : xs.take k.toNat = xs := List.take_of_length_le (by omega)
    rw [hk] at hL
    rw [szR_pos (by omega)]
    have eL : L = left - ((xs.length : Int) + szL DInstr.sz xs) := by omega
    rw [eL]
    exact ⟨rfl, rfl⟩

set_option maxRecDepth 100000 in
theorem szDefS_ok (xs : List DDef) (left : Int) (h0 : 0 ≤ left) (h1 : left ≤ 1048576) (hl : xs.length ≤ 9223372036854775807) (ho : ∀ y ∈ xs, y.ok) :
    FnV Tryz.prog 73 [.rdv false [.sl true 3 (xs.map DDef.c)], iV left] fun rs outs => rs = [iR (szR (((xs.length : Int) + szL DDef.sz xs)) left)] ∧ outs = [] := by
  refine fn_ok (E := Ensz) τ_ok mixed Tryz.func73 (by rfl) (by rfl) false (by simp [Tryz.f73]) ?_
  have hn := szL_nonneg DDef.sz_nonneg xs
  conv => whnf
  rw [List.length_map]
  have e0 : wrp .i64 (left - ((xs.length : Nat) : Int)) = left - xs.length := wrp_i64 (by omega) (by omega)
  rw [e0]
  refine br_if (fun h => ?_) (fun h => ?_) <;> (try rw [h]) <;> (conv => whnf)
  · rw [ltI_t] at h
    rw [szR_neg (by omega)]
    exact ⟨rfl, rfl⟩
  rw [ltI_f] at h
  refine ⟨fun m s => ∃ (k L : Int), s = ⟨[(0, .vals false [.rd none 3 (xs.map DDef.c)]), (1, .vals false [.sc (.int .i64 L)]), (5, .vals false [.sc (.int .i64 k)])], [], []⟩ ∧ m = xs.length - k.toNat ∧ 0 ≤ k ∧ k ≤ xs.length ∧ 0 ≤ L ∧ L ≤ 1048576 ∧ L + xs.length + szL DDef.sz (xs.take k.toNat) = left,
    ⟨_, _, norm_wk (keep := [0, 1, 5]) (kb := []) (ρ := []) rfl, ⟨0, _, rfl, rfl, by omega, by omega, h, by omega, by simp [szL]⟩⟩, ?_⟩
  rintro m _ ⟨k, L, rfl, rfl, k0, k1, L0, L1, hL⟩
  conv => whnf
  refine br_if (fun h => ?_) (fun h => ?_) <;> (try rw [h]) <;> (conv => whnf)
  · rw [ltI_t, List.length_map] at h
    obtain ⟨x, hx⟩ : ∃ x, xs[k.toNat]? = some x := ⟨_, List.getElem?_eq_getElem (by omega)⟩
    have hxo := ho x (List.mem_of_getElem? hx)
    have hs := szL_succ (f := DDef.sz) hx
    have ht := szL_take DDef.sz_nonneg xs (k.toNat + 1)
    have hxn := DDef.sz_nonneg x
    refine ⟨by omega, _, by rw [List.getElem?_map, hx]; rfl, ?_⟩
    conv => whnf
    have ek : wrp .i64 (k + 1) = k + 1 := wrp_i64 (by omega) (by omega)
    have ek2 : (k + 1).toNat = k.toNat + 1 := by omega
    refine (szDef_ok x L L0 L1 hxo).mono ?_
    rintro _ _ ⟨rfl, rfl⟩
    conv => whnf
    refine br_if (fun h2 => ?_) (fun h2 => ?_) <;> (try rw [h2]) <;> (conv => whnf)
    · rw [ltI_t, szR_lt L0] at h2
      rw [szR_neg (by omega)]
      exact ⟨rfl, rfl⟩
    · rw [ltI_f, ← Int.not_lt, szR_lt L0, Int.not_lt] at h2
      rw [ek, szR_pos h2]
      exact ⟨xs.length - (k + 1).toNat, _, by omega, norm_wk (keep := [0, 1, 5]) (kb := []) (ρ := []) rfl, ⟨k + 1, _, rfl, rfl, by omega, by omega, by omega, by omega, by rw [ek2, hs]; omega⟩⟩
  · rw [ltI_f, List.length_map] at h
    have hk : xs.take k.toNat = xs := List.take_of_length_le (by omega)
    rw [hk] at hL
    rw [szR_pos (by omega)]
    have eL : L = left - ((xs.length : Int) + szL DDef.sz xs) := by omega
    rw [eL]
    exact ⟨rfl, rfl⟩

set_option maxRecDepth 100000 in
theorem szCode_ok (a : DCode) (left : Int) (h0 : 0 ≤ left) (h1 : left ≤ 1048576) (ho : a.ok) : FnV Tryz.prog 17 [.rdv true a.c, iV left] fun rs outs => rs = [iR (szR a.sz left)] ∧ outs = [] := by
  refine fn_ok (E := Ensz) τ_ok mixed Tryz.func17 (by rfl) (by rfl) false (by simp [Tryz.f17]) ?_
  obtain ⟨oPool, oList, oDefs⟩ := ho
  have nPool := a.xPool.sz_nonneg
  have nList := szL_nonneg DInstr.sz_nonneg a.xList
  have nDefs := szL_nonneg DDef.sz_nonneg a.xDefs
  unfold DCode.sz
  conv => whnf
  refine (szPool_ok a.xPool left (by omega) (by omega) oPool).mono ?_
  rintro _ _ ⟨rfl, rfl⟩
  conv => whnf
  refine br_if (fun h => ?_) (fun h => ?_) <;> (try rw [h]) <;> (conv => whnf)
  · rw [ltI_t, szR_lt (by omega)] at h
    rw [szR_neg (by omega)]
    exact ⟨rfl, rfl⟩
  rw [ltI_f, ← Int.not_lt, szR_lt (by omega), Int.not_lt] at h
  rw [szR_pos h]
  refine (szInstrS_ok a.xList (left - a.xPool.sz) (by omega) (by omega) oList.1 oList.2).mono ?_
  rintro _ _ ⟨rfl, rfl⟩
  conv => whnf
  refine br_if (fun h => ?_) (fun h => ?_) <;> (try rw [h]) <;> (conv => whnf)
  · rw [ltI_t, szR_lt (by omega)] at h
    rw [szR_neg (by omega)]
    exact ⟨rfl, rfl⟩
  rw [ltI_f, ← Int.not_lt, szR_lt (by omega), Int.not_lt] at h
  rw [szR_pos h]
  refine (szDefS_ok a.xDefs ((left - a.xPool.sz) - ((a.xList.length : Int) + szL DInstr.sz a.xList)) (by omega) (by omega) oDefs.1 oDefs.2).mono ?_
  rintro _ _ ⟨rfl, rfl⟩
  conv => whnf
  refine br_if (fun h => ?_) (fun h => ?_) <;> (try rw [h]) <;> (conv => whnf)
  · rw [ltI_t, szR_lt (by omega)] at h
    rw [szR_neg (by omega)]
    exact ⟨rfl, rfl⟩
  rw [ltI_f, ← Int.not_lt, szR_lt (by omega), Int.not_lt] at h
  rw [szR_pos h]
  try rw [szR_pos (by omega)]
  have eL : (((left - a.xPool.sz) - ((a.xList.length : Int) + szL DInstr.sz a.xList)) - ((a.xDefs.length : Int) + szL DDef.sz a.xDefs)) = left - (a.xPool.sz + ((a.xList.length : Int) + szL DInstr.sz a.xList) + ((a.xDefs.length : Int) + szL DDef.sz a.xDefs)) := by omega
  rw [eL]
  exact ⟨rfl, rfl⟩

set_option maxRecDepth 100000 in
theorem szMachine_ok (a : DMachine) (left : Int) (h0 : 0 ≤ left) (h1 : left ≤ 1048576) (ho : a.ok) : FnV Tryz.prog 153 [.rdv true a.c, iV left] fun rs outs => rs = [iR (szR a.sz left)] ∧ outs = [] := by
  refine fn_ok (E := Ensz) τ_ok mixed Tryz.func153 (by rfl) (by rfl) false (by simp [Tryz.f153]) ?_
  obtain ⟨oPool, oAt, oS, oE, oD, oState, oAsk, oArg⟩ := ho
  have nPool := a.xPool.sz_nonneg
  unfold DMachine.sz
  conv => whnf
  refine (szPool_ok a.xPool left (by omega) (by omega) oPool).mono ?_
  rintro _ _ ⟨rfl, rfl⟩
  conv => whnf
  refine br_if (fun h => ?_) (fun h => ?_) <;> (try rw [h]) <;> (conv => whnf)
  · rw [ltI_t, szR_lt (by omega)] at h
    rw [szR_neg (by omega)]
    exact ⟨rfl, rfl⟩
  rw [ltI_f, ← Int.not_lt, szR_lt (by omega), Int.not_lt] at h
  rw [szR_pos h]
  try rw [szR_pos (by omega)]
  have eL : (left - a.xPool.sz) = left - (a.xPool.sz) := by omega
  rw [eL]
  exact ⟨rfl, rfl⟩

set_option maxRecDepth 100000 in
theorem szPiece_ok (a : DPiece) (left : Int) (h0 : 0 ≤ left) (h1 : left ≤ 1048576) (ho : a.ok) : FnV Tryz.prog 269 [.rdv true a.c, iV left] fun rs outs => rs = [iR (szR a.sz left)] ∧ outs = [] := by
  refine fn_ok (E := Ensz) τ_ok mixed Tryz.func269 (by rfl) (by rfl) false (by simp [Tryz.f269]) ?_
  obtain ⟨oNo, oText⟩ := ho
  unfold DPiece.sz
  conv => whnf
  have e0 : wrp .i64 (left - ((a.xText.size : Nat) : Int)) = left - (a.xText.size : Int) := wrp_i64 (by omega) (by omega)
  rw [e0]
  refine br_if (fun h => ?_) (fun h => ?_) <;> (try rw [h]) <;> (conv => whnf)
  · rw [ltI_t] at h
    rw [szR_neg (by omega)]
    exact ⟨rfl, rfl⟩
  rw [ltI_f] at h
  try rw [szR_pos (by omega)]
  have eL : (left - (a.xText.size : Int)) = left - ((a.xText.size : Int)) := by omega
  rw [eL]
  exact ⟨rfl, rfl⟩

set_option maxRecDepth 100000 in
theorem szStringS_ok (xs : List ByteArray) (left : Int) (h0 : 0 ≤ left) (h1 : left ≤ 1048576) (hl : xs.length ≤ 9223372036854775807) (ho : ∀ y ∈ xs, y.size ≤ 9223372036854775807) :
    FnV Tryz.prog 154 [.rdv false [.sl true 1 (ssC xs)], iV left] fun rs outs => rs = [iR (szR (szS xs) left)] ∧ outs = [] := by
  unfold szS
  refine fn_ok (E := Ensz) τ_ok mixed Tryz.func154 (by rfl) (by rfl) false (by simp [Tryz.f154]) ?_
  have hn := szL_nonneg szB_nonneg xs
  conv => whnf
  rw [List.length_map]
  have e0 : wrp .i64 (left - ((xs.length : Nat) : Int)) = left - xs.length := wrp_i64 (by omega) (by omega)
  rw [e0]
  refine br_if (fun h => ?_) (fun h => ?_) <;> (try rw [h]) <;> (conv => whnf)
  · rw [ltI_t] at h
    rw [szR_neg (by omega)]
    exact ⟨rfl, rfl⟩
  rw [ltI_f] at h
  refine ⟨fun m s => ∃ (k L : Int), s = ⟨[(0, .vals false [.rd none 1 (ssC xs)]), (1, .vals false [.sc (.int .i64 L)]), (5, .vals false [.sc (.int .i64 k)])], [], []⟩ ∧ m = xs.length - k.toNat ∧ 0 ≤ k ∧ k ≤ xs.length ∧ 0 ≤ L ∧ L ≤ 1048576 ∧ L + xs.length + szL szB (xs.take k.toNat) = left,
    ⟨_, _, norm_wk (keep := [0, 1, 5]) (kb := []) (ρ := []) rfl, ⟨0, _, rfl, rfl, by omega, by omega, h, by omega, by simp [szL]⟩⟩, ?_⟩
  rintro m _ ⟨k, L, rfl, rfl, k0, k1, L0, L1, hL⟩
  conv => whnf
  refine br_if (fun h => ?_) (fun h => ?_) <;> (try rw [h]) <;> (conv => whnf)
  · rw [ltI_t, List.length_map] at h
    obtain ⟨x, hx⟩ : ∃ x, xs[k.toNat]? = some x := ⟨_, List.getElem?_eq_getElem (by omega)⟩
    have hxo := ho x (List.mem_of_getElem? hx)
    have hs := szL_succ (f := szB) hx
    have ht := szL_take szB_nonneg xs (k.toNat + 1)
    have hxn := szB_nonneg x
    refine ⟨by omega, _, by rw [List.getElem?_map, hx]; rfl, ?_⟩
    conv => whnf
    have ek : wrp .i64 (k + 1) = k + 1 := wrp_i64 (by omega) (by omega)
    have ek2 : (k + 1).toNat = k.toNat + 1 := by omega
    have e1 : wrp .i64 (L - ((x.size : Nat) : Int)) = L - szB x := by rw [wrp_i64 (by omega) (by omega)]; rfl
    rw [e1]
    refine br_if (fun h2 => ?_) (fun h2 => ?_) <;> (try rw [h2]) <;> (conv => whnf)
    · rw [ltI_t] at h2
      rw [szR_neg (by omega)]
      exact ⟨rfl, rfl⟩
    · rw [ltI_f] at h2
      rw [ek]
      exact ⟨xs.length - (k + 1).toNat, _, by omega, norm_wk (keep := [0, 1, 5]) (kb := []) (ρ := []) rfl, ⟨k + 1, _, rfl, rfl, by omega, by omega, h2, by omega, by rw [ek2, hs]; omega⟩⟩
  · rw [ltI_f, List.length_map] at h
    have hk : xs.take k.toNat = xs := List.take_of_length_le (by omega)
    rw [hk] at hL
    rw [szR_pos (by omega)]
    have eL : L = left - ((xs.length : Int) + szL szB xs) := by omega
    rw [eL]
    exact ⟨rfl, rfl⟩

set_option maxRecDepth 100000 in
theorem szPieceS_ok (xs : List DPiece) (left : Int) (h0 : 0 ≤ left) (h1 : left ≤ 1048576) (hl : xs.length ≤ 9223372036854775807) (ho : ∀ y ∈ xs, y.ok) :
    FnV Tryz.prog 268 [.rdv false [.sl true 2 (xs.map DPiece.c)], iV left] fun rs outs => rs = [iR (szR (((xs.length : Int) + szL DPiece.sz xs)) left)] ∧ outs = [] := by
  refine fn_ok (E := Ensz) τ_ok mixed Tryz.func268 (by rfl) (by rfl) false (by simp [Tryz.f268]) ?_
  have hn := szL_nonneg DPiece.sz_nonneg xs
  conv => whnf
  rw [List.length_map]
  have e0 : wrp .i64 (left - ((xs.length : Nat) : Int)) = left - xs.length := wrp_i64 (by omega) (by omega)
  rw [e0]
  refine br_if (fun h => ?_) (fun h => ?_) <;> (try rw [h]) <;> (conv => whnf)
  · rw [ltI_t] at h
    rw [szR_neg (by omega)]
    exact ⟨rfl, rfl⟩
  rw [ltI_f] at h
  refine ⟨fun m s => ∃ (k L : Int), s = ⟨[(0, .vals false [.rd none 2 (xs.map DPiece.c)]), (1, .vals false [.sc (.int .i64 L)]), (5, .vals false [.sc (.int .i64 k)])], [], []⟩ ∧ m = xs.length - k.toNat ∧ 0 ≤ k ∧ k ≤ xs.length ∧ 0 ≤ L ∧ L ≤ 1048576 ∧ L + xs.length + szL DPiece.sz (xs.take k.toNat) = left,
    ⟨_, _, norm_wk (keep := [0, 1, 5]) (kb := []) (ρ := []) rfl, ⟨0, _, rfl, rfl, by omega, by omega, h, by omega, by simp [szL]⟩⟩, ?_⟩
  rintro m _ ⟨k, L, rfl, rfl, k0, k1, L0, L1, hL⟩
  conv => whnf
  refine br_if (fun h => ?_) (fun h => ?_) <;> (try rw [h]) <;> (conv => whnf)
  · rw [ltI_t, List.length_map] at h
    obtain ⟨x, hx⟩ : ∃ x, xs[k.toNat]? = some x := ⟨_, List.getElem?_eq_getElem (by omega)⟩
    have hxo := ho x (List.mem_of_getElem? hx)
    have hs := szL_succ (f := DPiece.sz) hx
    have ht := szL_take DPiece.sz_nonneg xs (k.toNat + 1)
    have hxn := DPiece.sz_nonneg x
    refine ⟨by omega, _, by rw [List.getElem?_map, hx]; rfl, ?_⟩
    conv => whnf
    have ek : wrp .i64 (k + 1) = k + 1 := wrp_i64 (by omega) (by omega)
    have ek2 : (k + 1).toNat = k.toNat + 1 := by omega
    refine (szPiece_ok x L L0 L1 hxo).mono ?_
    rintro _ _ ⟨rfl, rfl⟩
    conv => whnf
    refine br_if (fun h2 => ?_) (fun h2 => ?_) <;> (try rw [h2]) <;> (conv => whnf)
    · rw [ltI_t, szR_lt L0] at h2
      rw [szR_neg (by omega)]
      exact ⟨rfl, rfl⟩
    · rw [ltI_f, ← Int.not_lt, szR_lt L0, Int.not_lt] at h2
      rw [ek, szR_pos h2]
      exact ⟨xs.length - (k + 1).toNat, _, by omega, norm_wk (keep := [0, 1, 5]) (kb := []) (ρ := []) rfl, ⟨k + 1, _, rfl, rfl, by omega, by omega, by omega, by omega, by rw [ek2, hs]; omega⟩⟩
  · rw [ltI_f, List.length_map] at h
    have hk : xs.take k.toNat = xs := List.take_of_length_le (by omega)
    rw [hk] at hL
    rw [szR_pos (by omega)]
    have eL : L = left - ((xs.length : Int) + szL DPiece.sz xs) := by omega
    rw [eL]
    exact ⟨rfl, rfl⟩

set_option maxRecDepth 100000 in
theorem szLink_ok (a : DLink) (left : Int) (h0 : 0 ≤ left) (h1 : left ≤ 1048576) (ho : a.ok) : FnV Tryz.prog 192 [.rdv true a.c, iV left] fun rs outs => rs = [iR (szR a.sz left)] ∧ outs = [] := by
  refine fn_ok (E := Ensz) τ_ok mixed Tryz.func192 (by rfl) (by rfl) false (by simp [Tryz.f192]) ?_
  obtain ⟨oSent, oAcked, oQueue, oGot, oHeld⟩ := ho
  have nQueue := szS_nonneg a.xQueue
  have nHeld := szL_nonneg DPiece.sz_nonneg a.xHeld
  unfold DLink.sz
  conv => whnf
  refine (szStringS_ok a.xQueue left (by omega) (by omega) oQueue.1 oQueue.2).mono ?_
  rintro _ _ ⟨rfl, rfl⟩
  conv => whnf
  refine br_if (fun h => ?_) (fun h => ?_) <;> (try rw [h]) <;> (conv => whnf)
  · rw [ltI_t, szR_lt (by omega)] at h
    rw [szR_neg (by omega)]
    exact ⟨rfl, rfl⟩
  rw [ltI_f, ← Int.not_lt, szR_lt (by omega), Int.not_lt] at h
  rw [szR_pos h]
  refine (szPieceS_ok a.xHeld (left - szS a.xQueue) (by omega) (by omega) oHeld.1 oHeld.2).mono ?_
  rintro _ _ ⟨rfl, rfl⟩
  conv => whnf
  refine br_if (fun h => ?_) (fun h => ?_) <;> (try rw [h]) <;> (conv => whnf)
  · rw [ltI_t, szR_lt (by omega)] at h
    rw [szR_neg (by omega)]
    exact ⟨rfl, rfl⟩
  rw [ltI_f, ← Int.not_lt, szR_lt (by omega), Int.not_lt] at h
  rw [szR_pos h]
  try rw [szR_pos (by omega)]
  have eL : ((left - szS a.xQueue) - ((a.xHeld.length : Int) + szL DPiece.sz a.xHeld)) = left - (szS a.xQueue + ((a.xHeld.length : Int) + szL DPiece.sz a.xHeld)) := by omega
  rw [eL]
  exact ⟨rfl, rfl⟩

set_option maxRecDepth 100000 in
theorem szProc_ok (a : DProc) (left : Int) (h0 : 0 ≤ left) (h1 : left ≤ 1048576) (ho : a.ok) : FnV Tryz.prog 50 [.rdv true a.c, iV left] fun rs outs => rs = [iR (szR a.sz left)] ∧ outs = [] := by
  refine fn_ok (E := Ensz) τ_ok mixed Tryz.func50 (by rfl) (by rfl) false (by simp [Tryz.f50]) ?_
  obtain ⟨oPid, oM, oBox, oOut⟩ := ho
  have nM := a.xM.sz_nonneg
  have nBox := szS_nonneg a.xBox
  have nOut := szS_nonneg a.xOut
  unfold DProc.sz
  conv => whnf
  refine (szMachine_ok a.xM left (by omega) (by omega) oM).mono ?_
  rintro _ _ ⟨rfl, rfl⟩
  conv => whnf
  refine br_if (fun h => ?_) (fun h => ?_) <;> (try rw [h]) <;> (conv => whnf)
  · rw [ltI_t, szR_lt (by omega)] at h
    rw [szR_neg (by omega)]
    exact ⟨rfl, rfl⟩
  rw [ltI_f, ← Int.not_lt, szR_lt (by omega), Int.not_lt] at h
  rw [szR_pos h]
  refine (szStringS_ok a.xBox (left - a.xM.sz) (by omega) (by omega) oBox.1 oBox.2).mono ?_
  rintro _ _ ⟨rfl, rfl⟩
  conv => whnf
  refine br_if (fun h => ?_) (fun h => ?_) <;> (try rw [h]) <;> (conv => whnf)
  · rw [ltI_t, szR_lt (by omega)] at h
    rw [szR_neg (by omega)]
    exact ⟨rfl, rfl⟩
  rw [ltI_f, ← Int.not_lt, szR_lt (by omega), Int.not_lt] at h
  rw [szR_pos h]
  refine (szStringS_ok a.xOut ((left - a.xM.sz) - szS a.xBox) (by omega) (by omega) oOut.1 oOut.2).mono ?_
  rintro _ _ ⟨rfl, rfl⟩
  conv => whnf
  refine br_if (fun h => ?_) (fun h => ?_) <;> (try rw [h]) <;> (conv => whnf)
  · rw [ltI_t, szR_lt (by omega)] at h
    rw [szR_neg (by omega)]
    exact ⟨rfl, rfl⟩
  rw [ltI_f, ← Int.not_lt, szR_lt (by omega), Int.not_lt] at h
  rw [szR_pos h]
  try rw [szR_pos (by omega)]
  have eL : (((left - a.xM.sz) - szS a.xBox) - szS a.xOut) = left - (a.xM.sz + szS a.xBox + szS a.xOut) := by omega
  rw [eL]
  exact ⟨rfl, rfl⟩

set_option maxRecDepth 100000 in
theorem szHome_ok (a : DHome) (left : Int) (h0 : 0 ≤ left) (h1 : left ≤ 1048576) (ho : a.ok) : FnV Tryz.prog 191 [.rdv true a.c, iV left] fun rs outs => rs = [iR (szR a.sz left)] ∧ outs = [] := by
  refine fn_ok (E := Ensz) τ_ok mixed Tryz.func191 (by rfl) (by rfl) false (by simp [Tryz.f191]) ?_
  obtain ⟨oAt, oP⟩ := ho
  have nP := a.xP.sz_nonneg
  unfold DHome.sz
  conv => whnf
  refine (szProc_ok a.xP left (by omega) (by omega) oP).mono ?_
  rintro _ _ ⟨rfl, rfl⟩
  conv => whnf
  refine br_if (fun h => ?_) (fun h => ?_) <;> (try rw [h]) <;> (conv => whnf)
  · rw [ltI_t, szR_lt (by omega)] at h
    rw [szR_neg (by omega)]
    exact ⟨rfl, rfl⟩
  rw [ltI_f, ← Int.not_lt, szR_lt (by omega), Int.not_lt] at h
  rw [szR_pos h]
  try rw [szR_pos (by omega)]
  have eL : (left - a.xP.sz) = left - (a.xP.sz) := by omega
  rw [eL]
  exact ⟨rfl, rfl⟩

set_option maxRecDepth 100000 in
theorem szGram_ok (a : DGram) (left : Int) (h0 : 0 ≤ left) (h1 : left ≤ 1048576) (ho : a.ok) : FnV Tryz.prog 193 [.rdv true a.c, iV left] fun rs outs => rs = [iR (szR a.sz left)] ∧ outs = [] := by
  refine fn_ok (E := Ensz) τ_ok mixed Tryz.func193 (by rfl) (by rfl) false (by simp [Tryz.f193]) ?_
  obtain ⟨oKind, oFrom, oTo, oP⟩ := ho
  have nP := a.xP.sz_nonneg
  unfold DGram.sz
  conv => whnf
  refine (szPiece_ok a.xP left (by omega) (by omega) oP).mono ?_
  rintro _ _ ⟨rfl, rfl⟩
  conv => whnf
  refine br_if (fun h => ?_) (fun h => ?_) <;> (try rw [h]) <;> (conv => whnf)
  · rw [ltI_t, szR_lt (by omega)] at h
    rw [szR_neg (by omega)]
    exact ⟨rfl, rfl⟩
  rw [ltI_f, ← Int.not_lt, szR_lt (by omega), Int.not_lt] at h
  rw [szR_pos h]
  try rw [szR_pos (by omega)]
  have eL : (left - a.xP.sz) = left - (a.xP.sz) := by omega
  rw [eL]
  exact ⟨rfl, rfl⟩

set_option maxRecDepth 100000 in
theorem szParked_ok (a : DParked) (left : Int) (h0 : 0 ≤ left) (h1 : left ≤ 1048576) (ho : a.ok) : FnV Tryz.prog 194 [.rdv true a.c, iV left] fun rs outs => rs = [iR (szR a.sz left)] ∧ outs = [] := by
  refine fn_ok (E := Ensz) τ_ok mixed Tryz.func194 (by rfl) (by rfl) false (by simp [Tryz.f194]) ?_
  obtain ⟨oAt, oTo, oText⟩ := ho
  unfold DParked.sz
  conv => whnf
  have e0 : wrp .i64 (left - ((a.xText.size : Nat) : Int)) = left - (a.xText.size : Int) := wrp_i64 (by omega) (by omega)
  rw [e0]
  refine br_if (fun h => ?_) (fun h => ?_) <;> (try rw [h]) <;> (conv => whnf)
  · rw [ltI_t] at h
    rw [szR_neg (by omega)]
    exact ⟨rfl, rfl⟩
  rw [ltI_f] at h
  try rw [szR_pos (by omega)]
  have eL : (left - (a.xText.size : Int)) = left - ((a.xText.size : Int)) := by omega
  rw [eL]
  exact ⟨rfl, rfl⟩

set_option maxRecDepth 100000 in
theorem szHomeS_ok (xs : List DHome) (left : Int) (h0 : 0 ≤ left) (h1 : left ≤ 1048576) (hl : xs.length ≤ 9223372036854775807) (ho : ∀ y ∈ xs, y.ok) :
    FnV Tryz.prog 96 [.rdv false [.sl true 12 (xs.map DHome.c)], iV left] fun rs outs => rs = [iR (szR (((xs.length : Int) + szL DHome.sz xs)) left)] ∧ outs = [] := by
  refine fn_ok (E := Ensz) τ_ok mixed Tryz.func96 (by rfl) (by rfl) false (by simp [Tryz.f96]) ?_
  have hn := szL_nonneg DHome.sz_nonneg xs
  conv => whnf
  rw [List.length_map]
  have e0 : wrp .i64 (left - ((xs.length : Nat) : Int)) = left - xs.length := wrp_i64 (by omega) (by omega)
  rw [e0]
  refine br_if (fun h => ?_) (fun h => ?_) <;> (try rw [h]) <;> (conv => whnf)
  · rw [ltI_t] at h
    rw [szR_neg (by omega)]
    exact ⟨rfl, rfl⟩
  rw [ltI_f] at h
  refine ⟨fun m s => ∃ (k L : Int), s = ⟨[(0, .vals false [.rd none 12 (xs.map DHome.c)]), (1, .vals false [.sc (.int .i64 L)]), (5, .vals false [.sc (.int .i64 k)])], [], []⟩ ∧ m = xs.length - k.toNat ∧ 0 ≤ k ∧ k ≤ xs.length ∧ 0 ≤ L ∧ L ≤ 1048576 ∧ L + xs.length + szL DHome.sz (xs.take k.toNat) = left,
    ⟨_, _, norm_wk (keep := [0, 1, 5]) (kb := []) (ρ := []) rfl, ⟨0, _, rfl, rfl, by omega, by omega, h, by omega, by simp [szL]⟩⟩, ?_⟩
  rintro m _ ⟨k, L, rfl, rfl, k0, k1, L0, L1, hL⟩
  conv => whnf
  refine br_if (fun h => ?_) (fun h => ?_) <;> (try rw [h]) <;> (conv => whnf)
  · rw [ltI_t, List.length_map] at h
    obtain ⟨x, hx⟩ : ∃ x, xs[k.toNat]? = some x := ⟨_, List.getElem?_eq_getElem (by omega)⟩
    have hxo := ho x (List.mem_of_getElem? hx)
    have hs := szL_succ (f := DHome.sz) hx
    have ht := szL_take DHome.sz_nonneg xs (k.toNat + 1)
    have hxn := DHome.sz_nonneg x
    refine ⟨by omega, _, by rw [List.getElem?_map, hx]; rfl, ?_⟩
    conv => whnf
    have ek : wrp .i64 (k + 1) = k + 1 := wrp_i64 (by omega) (by omega)
    have ek2 : (k + 1).toNat = k.toNat + 1 := by omega
    refine (szHome_ok x L L0 L1 hxo).mono ?_
    rintro _ _ ⟨rfl, rfl⟩
    conv => whnf
    refine br_if (fun h2 => ?_) (fun h2 => ?_) <;> (try rw [h2]) <;> (conv => whnf)
    · rw [ltI_t, szR_lt L0] at h2
      rw [szR_neg (by omega)]
      exact ⟨rfl, rfl⟩
    · rw [ltI_f, ← Int.not_lt, szR_lt L0, Int.not_lt] at h2
      rw [ek, szR_pos h2]
      exact ⟨xs.length - (k + 1).toNat, _, by omega, norm_wk (keep := [0, 1, 5]) (kb := []) (ρ := []) rfl, ⟨k + 1, _, rfl, rfl, by omega, by omega, by omega, by omega, by rw [ek2, hs]; omega⟩⟩
  · rw [ltI_f, List.length_map] at h
    have hk : xs.take k.toNat = xs := List.take_of_length_le (by omega)
    rw [hk] at hL
    rw [szR_pos (by omega)]
    have eL : L = left - ((xs.length : Int) + szL DHome.sz xs) := by omega
    rw [eL]
    exact ⟨rfl, rfl⟩

set_option maxRecDepth 100000 in
theorem szLinkS_ok (xs : List DLink) (left : Int) (h0 : 0 ≤ left) (h1 : left ≤ 1048576) (hl : xs.length ≤ 9223372036854775807) (ho : ∀ y ∈ xs, y.ok) :
    FnV Tryz.prog 97 [.rdv false [.sl true 5 (xs.map DLink.c)], iV left] fun rs outs => rs = [iR (szR (((xs.length : Int) + szL DLink.sz xs)) left)] ∧ outs = [] := by
  refine fn_ok (E := Ensz) τ_ok mixed Tryz.func97 (by rfl) (by rfl) false (by simp [Tryz.f97]) ?_
  have hn := szL_nonneg DLink.sz_nonneg xs
  conv => whnf
  rw [List.length_map]
  have e0 : wrp .i64 (left - ((xs.length : Nat) : Int)) = left - xs.length := wrp_i64 (by omega) (by omega)
  rw [e0]
  refine br_if (fun h => ?_) (fun h => ?_) <;> (try rw [h]) <;> (conv => whnf)
  · rw [ltI_t] at h
    rw [szR_neg (by omega)]
    exact ⟨rfl, rfl⟩
  rw [ltI_f] at h
  refine ⟨fun m s => ∃ (k L : Int), s = ⟨[(0, .vals false [.rd none 5 (xs.map DLink.c)]), (1, .vals false [.sc (.int .i64 L)]), (5, .vals false [.sc (.int .i64 k)])], [], []⟩ ∧ m = xs.length - k.toNat ∧ 0 ≤ k ∧ k ≤ xs.length ∧ 0 ≤ L ∧ L ≤ 1048576 ∧ L + xs.length + szL DLink.sz (xs.take k.toNat) = left,
    ⟨_, _, norm_wk (keep := [0, 1, 5]) (kb := []) (ρ := []) rfl, ⟨0, _, rfl, rfl, by omega, by omega, h, by omega, by simp [szL]⟩⟩, ?_⟩
  rintro m _ ⟨k, L, rfl, rfl, k0, k1, L0, L1, hL⟩
  conv => whnf
  refine br_if (fun h => ?_) (fun h => ?_) <;> (try rw [h]) <;> (conv => whnf)
  · rw [ltI_t, List.length_map] at h
    obtain ⟨x, hx⟩ : ∃ x, xs[k.toNat]? = some x := ⟨_, List.getElem?_eq_getElem (by omega)⟩
    have hxo := ho x (List.mem_of_getElem? hx)
    have hs := szL_succ (f := DLink.sz) hx
    have ht := szL_take DLink.sz_nonneg xs (k.toNat + 1)
    have hxn := DLink.sz_nonneg x
    refine ⟨by omega, _, by rw [List.getElem?_map, hx]; rfl, ?_⟩
    conv => whnf
    have ek : wrp .i64 (k + 1) = k + 1 := wrp_i64 (by omega) (by omega)
    have ek2 : (k + 1).toNat = k.toNat + 1 := by omega
    refine (szLink_ok x L L0 L1 hxo).mono ?_
    rintro _ _ ⟨rfl, rfl⟩
    conv => whnf
    refine br_if (fun h2 => ?_) (fun h2 => ?_) <;> (try rw [h2]) <;> (conv => whnf)
    · rw [ltI_t, szR_lt L0] at h2
      rw [szR_neg (by omega)]
      exact ⟨rfl, rfl⟩
    · rw [ltI_f, ← Int.not_lt, szR_lt L0, Int.not_lt] at h2
      rw [ek, szR_pos h2]
      exact ⟨xs.length - (k + 1).toNat, _, by omega, norm_wk (keep := [0, 1, 5]) (kb := []) (ρ := []) rfl, ⟨k + 1, _, rfl, rfl, by omega, by omega, by omega, by omega, by rw [ek2, hs]; omega⟩⟩
  · rw [ltI_f, List.length_map] at h
    have hk : xs.take k.toNat = xs := List.take_of_length_le (by omega)
    rw [hk] at hL
    rw [szR_pos (by omega)]
    have eL : L = left - ((xs.length : Int) + szL DLink.sz xs) := by omega
    rw [eL]
    exact ⟨rfl, rfl⟩

set_option maxRecDepth 100000 in
theorem szGramS_ok (xs : List DGram) (left : Int) (h0 : 0 ≤ left) (h1 : left ≤ 1048576) (hl : xs.length ≤ 9223372036854775807) (ho : ∀ y ∈ xs, y.ok) :
    FnV Tryz.prog 98 [.rdv false [.sl true 5 (xs.map DGram.c)], iV left] fun rs outs => rs = [iR (szR (((xs.length : Int) + szL DGram.sz xs)) left)] ∧ outs = [] := by
  refine fn_ok (E := Ensz) τ_ok mixed Tryz.func98 (by rfl) (by rfl) false (by simp [Tryz.f98]) ?_
  have hn := szL_nonneg DGram.sz_nonneg xs
  conv => whnf
  rw [List.length_map]
  have e0 : wrp .i64 (left - ((xs.length : Nat) : Int)) = left - xs.length := wrp_i64 (by omega) (by omega)
  rw [e0]
  refine br_if (fun h => ?_) (fun h => ?_) <;> (try rw [h]) <;> (conv => whnf)
  · rw [ltI_t] at h
    rw [szR_neg (by omega)]
    exact ⟨rfl, rfl⟩
  rw [ltI_f] at h
  refine ⟨fun m s => ∃ (k L : Int), s = ⟨[(0, .vals false [.rd none 5 (xs.map DGram.c)]), (1, .vals false [.sc (.int .i64 L)]), (5, .vals false [.sc (.int .i64 k)])], [], []⟩ ∧ m = xs.length - k.toNat ∧ 0 ≤ k ∧ k ≤ xs.length ∧ 0 ≤ L ∧ L ≤ 1048576 ∧ L + xs.length + szL DGram.sz (xs.take k.toNat) = left,
    ⟨_, _, norm_wk (keep := [0, 1, 5]) (kb := []) (ρ := []) rfl, ⟨0, _, rfl, rfl, by omega, by omega, h, by omega, by simp [szL]⟩⟩, ?_⟩
  rintro m _ ⟨k, L, rfl, rfl, k0, k1, L0, L1, hL⟩
  conv => whnf
  refine br_if (fun h => ?_) (fun h => ?_) <;> (try rw [h]) <;> (conv => whnf)
  · rw [ltI_t, List.length_map] at h
    obtain ⟨x, hx⟩ : ∃ x, xs[k.toNat]? = some x := ⟨_, List.getElem?_eq_getElem (by omega)⟩
    have hxo := ho x (List.mem_of_getElem? hx)
    have hs := szL_succ (f := DGram.sz) hx
    have ht := szL_take DGram.sz_nonneg xs (k.toNat + 1)
    have hxn := DGram.sz_nonneg x
    refine ⟨by omega, _, by rw [List.getElem?_map, hx]; rfl, ?_⟩
    conv => whnf
    have ek : wrp .i64 (k + 1) = k + 1 := wrp_i64 (by omega) (by omega)
    have ek2 : (k + 1).toNat = k.toNat + 1 := by omega
    refine (szGram_ok x L L0 L1 hxo).mono ?_
    rintro _ _ ⟨rfl, rfl⟩
    conv => whnf
    refine br_if (fun h2 => ?_) (fun h2 => ?_) <;> (try rw [h2]) <;> (conv => whnf)
    · rw [ltI_t, szR_lt L0] at h2
      rw [szR_neg (by omega)]
      exact ⟨rfl, rfl⟩
    · rw [ltI_f, ← Int.not_lt, szR_lt L0, Int.not_lt] at h2
      rw [ek, szR_pos h2]
      exact ⟨xs.length - (k + 1).toNat, _, by omega, norm_wk (keep := [0, 1, 5]) (kb := []) (ρ := []) rfl, ⟨k + 1, _, rfl, rfl, by omega, by omega, by omega, by omega, by rw [ek2, hs]; omega⟩⟩
  · rw [ltI_f, List.length_map] at h
    have hk : xs.take k.toNat = xs := List.take_of_length_le (by omega)
    rw [hk] at hL
    rw [szR_pos (by omega)]
    have eL : L = left - ((xs.length : Int) + szL DGram.sz xs) := by omega
    rw [eL]
    exact ⟨rfl, rfl⟩

set_option maxRecDepth 100000 in
theorem szParkedS_ok (xs : List DParked) (left : Int) (h0 : 0 ≤ left) (h1 : left ≤ 1048576) (hl : xs.length ≤ 9223372036854775807) (ho : ∀ y ∈ xs, y.ok) :
    FnV Tryz.prog 99 [.rdv false [.sl true 3 (xs.map DParked.c)], iV left] fun rs outs => rs = [iR (szR (((xs.length : Int) + szL DParked.sz xs)) left)] ∧ outs = [] := by
  refine fn_ok (E := Ensz) τ_ok mixed Tryz.func99 (by rfl) (by rfl) false (by simp [Tryz.f99]) ?_
  have hn := szL_nonneg DParked.sz_nonneg xs
  conv => whnf
  rw [List.length_map]
  have e0 : wrp .i64 (left - ((xs.length : Nat) : Int)) = left - xs.length := wrp_i64 (by omega) (by omega)
  rw [e0]
  refine br_if (fun h => ?_) (fun h => ?_) <;> (try rw [h]) <;> (conv => whnf)
  · rw [ltI_t] at h
    rw [szR_neg (by omega)]
    exact ⟨rfl, rfl⟩
  rw [ltI_f] at h
  refine ⟨fun m s => ∃ (k L : Int), s = ⟨[(0, .vals false [.rd none 3 (xs.map DParked.c)]), (1, .vals false [.sc (.int .i64 L)]), (5, .vals false [.sc (.int .i64 k)])], [], []⟩ ∧ m = xs.length - k.toNat ∧ 0 ≤ k ∧ k ≤ xs.length ∧ 0 ≤ L ∧ L ≤ 1048576 ∧ L + xs.length + szL DParked.sz (xs.take k.toNat) = left,
    ⟨_, _, norm_wk (keep := [0, 1, 5]) (kb := []) (ρ := []) rfl, ⟨0, _, rfl, rfl, by omega, by omega, h, by omega, by simp [szL]⟩⟩, ?_⟩
  rintro m _ ⟨k, L, rfl, rfl, k0, k1, L0, L1, hL⟩
  conv => whnf
  refine br_if (fun h => ?_) (fun h => ?_) <;> (try rw [h]) <;> (conv => whnf)
  · rw [ltI_t, List.length_map] at h
    obtain ⟨x, hx⟩ : ∃ x, xs[k.toNat]? = some x := ⟨_, List.getElem?_eq_getElem (by omega)⟩
    have hxo := ho x (List.mem_of_getElem? hx)
    have hs := szL_succ (f := DParked.sz) hx
    have ht := szL_take DParked.sz_nonneg xs (k.toNat + 1)
    have hxn := DParked.sz_nonneg x
    refine ⟨by omega, _, by rw [List.getElem?_map, hx]; rfl, ?_⟩
    conv => whnf
    have ek : wrp .i64 (k + 1) = k + 1 := wrp_i64 (by omega) (by omega)
    have ek2 : (k + 1).toNat = k.toNat + 1 := by omega
    refine (szParked_ok x L L0 L1 hxo).mono ?_
    rintro _ _ ⟨rfl, rfl⟩
    conv => whnf
    refine br_if (fun h2 => ?_) (fun h2 => ?_) <;> (try rw [h2]) <;> (conv => whnf)
    · rw [ltI_t, szR_lt L0] at h2
      rw [szR_neg (by omega)]
      exact ⟨rfl, rfl⟩
    · rw [ltI_f, ← Int.not_lt, szR_lt L0, Int.not_lt] at h2
      rw [ek, szR_pos h2]
      exact ⟨xs.length - (k + 1).toNat, _, by omega, norm_wk (keep := [0, 1, 5]) (kb := []) (ρ := []) rfl, ⟨k + 1, _, rfl, rfl, by omega, by omega, by omega, by omega, by rw [ek2, hs]; omega⟩⟩
  · rw [ltI_f, List.length_map] at h
    have hk : xs.take k.toNat = xs := List.take_of_length_le (by omega)
    rw [hk] at hL
    rw [szR_pos (by omega)]
    have eL : L = left - ((xs.length : Int) + szL DParked.sz xs) := by omega
    rw [eL]
    exact ⟨rfl, rfl⟩

set_option maxRecDepth 100000 in
theorem szStringSS_ok (xs : List (List ByteArray)) (left : Int) (h0 : 0 ≤ left) (h1 : left ≤ 1048576) (hl : xs.length ≤ 9223372036854775807) (ho : ∀ l ∈ xs, l.length ≤ 9223372036854775807 ∧ ∀ y ∈ l, y.size ≤ 9223372036854775807) :
    FnV Tryz.prog 100 [.rdv false [.sl true 1 (sssC xs)], iV left] fun rs outs => rs = [iR (szR (szSS xs) left)] ∧ outs = [] := by
  unfold szSS
  refine fn_ok (E := Ensz) τ_ok mixed Tryz.func100 (by rfl) (by rfl) false (by simp [Tryz.f100]) ?_
  have hn := szL_nonneg szS_nonneg xs
  conv => whnf
  rw [List.length_map]
  have e0 : wrp .i64 (left - ((xs.length : Nat) : Int)) = left - xs.length := wrp_i64 (by omega) (by omega)
  rw [e0]
  refine br_if (fun h => ?_) (fun h => ?_) <;> (try rw [h]) <;> (conv => whnf)
  · rw [ltI_t] at h
    rw [szR_neg (by omega)]
    exact ⟨rfl, rfl⟩
  rw [ltI_f] at h
  refine ⟨fun m s => ∃ (k L : Int), s = ⟨[(0, .vals false [.rd none 1 (sssC xs)]), (1, .vals false [.sc (.int .i64 L)]), (5, .vals false [.sc (.int .i64 k)])], [], []⟩ ∧ m = xs.length - k.toNat ∧ 0 ≤ k ∧ k ≤ xs.length ∧ 0 ≤ L ∧ L ≤ 1048576 ∧ L + xs.length + szL szS (xs.take k.toNat) = left,
    ⟨_, _, norm_wk (keep := [0, 1, 5]) (kb := []) (ρ := []) rfl, ⟨0, _, rfl, rfl, by omega, by omega, h, by omega, by simp [szL]⟩⟩, ?_⟩
  rintro m _ ⟨k, L, rfl, rfl, k0, k1, L0, L1, hL⟩
  conv => whnf
  refine br_if (fun h => ?_) (fun h => ?_) <;> (try rw [h]) <;> (conv => whnf)
  · rw [ltI_t, List.length_map] at h
    obtain ⟨x, hx⟩ : ∃ x, xs[k.toNat]? = some x := ⟨_, List.getElem?_eq_getElem (by omega)⟩
    have hxo := ho x (List.mem_of_getElem? hx)
    have hs := szL_succ (f := szS) hx
    have ht := szL_take szS_nonneg xs (k.toNat + 1)
    have hxn := szS_nonneg x
    refine ⟨by omega, _, by rw [List.getElem?_map, hx]; rfl, ?_⟩
    conv => whnf
    have ek : wrp .i64 (k + 1) = k + 1 := wrp_i64 (by omega) (by omega)
    have ek2 : (k + 1).toNat = k.toNat + 1 := by omega
    refine (szStringS_ok x L L0 L1 hxo.1 hxo.2).mono ?_
    rintro _ _ ⟨rfl, rfl⟩
    conv => whnf
    refine br_if (fun h2 => ?_) (fun h2 => ?_) <;> (try rw [h2]) <;> (conv => whnf)
    · rw [ltI_t, szR_lt L0] at h2
      rw [szR_neg (by omega)]
      exact ⟨rfl, rfl⟩
    · rw [ltI_f, ← Int.not_lt, szR_lt L0, Int.not_lt] at h2
      rw [ek, szR_pos h2]
      exact ⟨xs.length - (k + 1).toNat, _, by omega, norm_wk (keep := [0, 1, 5]) (kb := []) (ρ := []) rfl, ⟨k + 1, _, rfl, rfl, by omega, by omega, by omega, by omega, by rw [ek2, hs]; omega⟩⟩
  · rw [ltI_f, List.length_map] at h
    have hk : xs.take k.toNat = xs := List.take_of_length_le (by omega)
    rw [hk] at hL
    rw [szR_pos (by omega)]
    have eL : L = left - ((xs.length : Int) + szL szS xs) := by omega
    rw [eL]
    exact ⟨rfl, rfl⟩

set_option maxRecDepth 100000 in
theorem szWorld_ok (a : DWorld) (left : Int) (h0 : 0 ≤ left) (h1 : left ≤ 1048576) (ho : a.ok) : FnV Tryz.prog 26 [.rdv true a.c, iV left] fun rs outs => rs = [iR (szR a.sz left)] ∧ outs = [] := by
  refine fn_ok (E := Ensz) τ_ok mixed Tryz.func26 (by rfl) (by rfl) false (by simp [Tryz.f26]) ?_
  obtain ⟨oCode, oPlaces, oHomes, oLinks, oGrams, oParked, oNext, oGave, oTook⟩ := ho
  have nCode := a.xCode.sz_nonneg
  have nHomes := szL_nonneg DHome.sz_nonneg a.xHomes
  have nLinks := szL_nonneg DLink.sz_nonneg a.xLinks
  have nGrams := szL_nonneg DGram.sz_nonneg a.xGrams
  have nParked := szL_nonneg DParked.sz_nonneg a.xParked
  have nGave := szSS_nonneg a.xGave
  have nTook := szSS_nonneg a.xTook
  unfold DWorld.sz
  conv => whnf
  refine (szCode_ok a.xCode left (by omega) (by omega) oCode).mono ?_
  rintro _ _ ⟨rfl, rfl⟩
  conv => whnf
  refine br_if (fun h => ?_) (fun h => ?_) <;> (try rw [h]) <;> (conv => whnf)
  · rw [ltI_t, szR_lt (by omega)] at h
    rw [szR_neg (by omega)]
    exact ⟨rfl, rfl⟩
  rw [ltI_f, ← Int.not_lt, szR_lt (by omega), Int.not_lt] at h
  rw [szR_pos h]
  refine (szHomeS_ok a.xHomes (left - a.xCode.sz) (by omega) (by omega) oHomes.1 oHomes.2).mono ?_
  rintro _ _ ⟨rfl, rfl⟩
  conv => whnf
  refine br_if (fun h => ?_) (fun h => ?_) <;> (try rw [h]) <;> (conv => whnf)
  · rw [ltI_t, szR_lt (by omega)] at h
    rw [szR_neg (by omega)]
    exact ⟨rfl, rfl⟩
  rw [ltI_f, ← Int.not_lt, szR_lt (by omega), Int.not_lt] at h
  rw [szR_pos h]
  refine (szLinkS_ok a.xLinks ((left - a.xCode.sz) - ((a.xHomes.length : Int) + szL DHome.sz a.xHomes)) (by omega) (by omega) oLinks.1 oLinks.2).mono ?_
  rintro _ _ ⟨rfl, rfl⟩
  conv => whnf
  refine br_if (fun h => ?_) (fun h => ?_) <;> (try rw [h]) <;> (conv => whnf)
  · rw [ltI_t, szR_lt (by omega)] at h
    rw [szR_neg (by omega)]
    exact ⟨rfl, rfl⟩
  rw [ltI_f, ← Int.not_lt, szR_lt (by omega), Int.not_lt] at h
  rw [szR_pos h]
  refine (szGramS_ok a.xGrams (((left - a.xCode.sz) - ((a.xHomes.length : Int) + szL DHome.sz a.xHomes)) - ((a.xLinks.length : Int) + szL DLink.sz a.xLinks)) (by omega) (by omega) oGrams.1 oGrams.2).mono ?_
  rintro _ _ ⟨rfl, rfl⟩
  conv => whnf
  refine br_if (fun h => ?_) (fun h => ?_) <;> (try rw [h]) <;> (conv => whnf)
  · rw [ltI_t, szR_lt (by omega)] at h
    rw [szR_neg (by omega)]
    exact ⟨rfl, rfl⟩
  rw [ltI_f, ← Int.not_lt, szR_lt (by omega), Int.not_lt] at h
  rw [szR_pos h]
  refine (szParkedS_ok a.xParked ((((left - a.xCode.sz) - ((a.xHomes.length : Int) + szL DHome.sz a.xHomes)) - ((a.xLinks.length : Int) + szL DLink.sz a.xLinks)) - ((a.xGrams.length : Int) + szL DGram.sz a.xGrams)) (by omega) (by omega) oParked.1 oParked.2).mono ?_
  rintro _ _ ⟨rfl, rfl⟩
  conv => whnf
  refine br_if (fun h => ?_) (fun h => ?_) <;> (try rw [h]) <;> (conv => whnf)
  · rw [ltI_t, szR_lt (by omega)] at h
    rw [szR_neg (by omega)]
    exact ⟨rfl, rfl⟩
  rw [ltI_f, ← Int.not_lt, szR_lt (by omega), Int.not_lt] at h
  rw [szR_pos h]
  refine (szStringSS_ok a.xGave (((((left - a.xCode.sz) - ((a.xHomes.length : Int) + szL DHome.sz a.xHomes)) - ((a.xLinks.length : Int) + szL DLink.sz a.xLinks)) - ((a.xGrams.length : Int) + szL DGram.sz a.xGrams)) - ((a.xParked.length : Int) + szL DParked.sz a.xParked)) (by omega) (by omega) oGave.1 oGave.2).mono ?_
  rintro _ _ ⟨rfl, rfl⟩
  conv => whnf
  refine br_if (fun h => ?_) (fun h => ?_) <;> (try rw [h]) <;> (conv => whnf)
  · rw [ltI_t, szR_lt (by omega)] at h
    rw [szR_neg (by omega)]
    exact ⟨rfl, rfl⟩
  rw [ltI_f, ← Int.not_lt, szR_lt (by omega), Int.not_lt] at h
  rw [szR_pos h]
  refine (szStringSS_ok a.xTook ((((((left - a.xCode.sz) - ((a.xHomes.length : Int) + szL DHome.sz a.xHomes)) - ((a.xLinks.length : Int) + szL DLink.sz a.xLinks)) - ((a.xGrams.length : Int) + szL DGram.sz a.xGrams)) - ((a.xParked.length : Int) + szL DParked.sz a.xParked)) - szSS a.xGave) (by omega) (by omega) oTook.1 oTook.2).mono ?_
  rintro _ _ ⟨rfl, rfl⟩
  conv => whnf
  refine br_if (fun h => ?_) (fun h => ?_) <;> (try rw [h]) <;> (conv => whnf)
  · rw [ltI_t, szR_lt (by omega)] at h
    rw [szR_neg (by omega)]
    exact ⟨rfl, rfl⟩
  rw [ltI_f, ← Int.not_lt, szR_lt (by omega), Int.not_lt] at h
  rw [szR_pos h]
  try rw [szR_pos (by omega)]
  have eL : (((((((left - a.xCode.sz) - ((a.xHomes.length : Int) + szL DHome.sz a.xHomes)) - ((a.xLinks.length : Int) + szL DLink.sz a.xLinks)) - ((a.xGrams.length : Int) + szL DGram.sz a.xGrams)) - ((a.xParked.length : Int) + szL DParked.sz a.xParked)) - szSS a.xGave) - szSS a.xTook) = left - (a.xCode.sz + ((a.xHomes.length : Int) + szL DHome.sz a.xHomes) + ((a.xLinks.length : Int) + szL DLink.sz a.xLinks) + ((a.xGrams.length : Int) + szL DGram.sz a.xGrams) + ((a.xParked.length : Int) + szL DParked.sz a.xParked) + szSS a.xGave + szSS a.xTook) := by omega
  rw [eL]
  exact ⟨rfl, rfl⟩

end Go.Proofs.YtcaonpncopfeoaaGreat.V
