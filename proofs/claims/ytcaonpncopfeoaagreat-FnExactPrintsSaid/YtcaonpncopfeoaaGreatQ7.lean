/- Code. -/
import Derived.Test.YtcaonpncopfeoaaGreatQ6
set_option linter.unusedVariables false
set_option linter.unusedSimpArgs false
namespace Go.Proofs.YtcaonpncopfeoaaGreat.V
open Go

def MdE7 (f : Nat) : List Mode :=
  match f with
  | 101 => [.rd, .rd, .rd]
  | 112 => [.rd, .rd, .rd]
  | 195 => [.rd]
  | 196 => [.rd, .rd]
  | 197 => [.rd]
  | 198 => [.rd, .rd]
  | 204 => [.rd]
  | 205 => [.rd, .rd]
  | 206 => [.rd]
  | 207 => [.rd, .rd]
  | _ => []
def E7 : Env := ⟨τ, MdE7⟩

def CodeOk (c : DCode) : Prop :=
  poolOk c.xPool.xNodes = true ∧ c.xList.length ≤ 400 ∧ c.xDefs.length ≤ 20 ∧ (∀ (i : Nat) (x : DInstr), c.xList[i]? = some x → instrOk c x i = true) ∧
    ∀ (i : Nat) (d : DDef), c.xDefs[i]? = some d → nameOk d.xName = true ∧ defOf c d.xName = i ∧ 0 ≤ d.xAt ∧ d.xAt < c.xList.length ∧ 0 ≤ d.xArgs ∧ d.xArgs ≤ 4
noncomputable def codeOk (c : DCode) : Bool := clB (CodeOk c)
theorem codeOk_t {c : DCode} : codeOk c = true ↔ CodeOk c := clB_t
theorem codeOk_ff {c : DCode} (h : ¬ CodeOk c) : codeOk c = false := clB_f.2 h

set_option maxRecDepth 100000 in
set_option maxHeartbeats 1000000 in
theorem s_CodeOk_ok (c : DCode) (ho : c.ok) : FnV Tryz.prog 102 [cV c] fun rs outs => rs = [bR (codeOk c)] ∧ outs = [] := by
  refine fn_ok (E := E7) τ_ok mixed Tryz.func102 (by rfl) (by rfl) false (by simp [Tryz.f102]) ?_
  have hP := ho.1
  obtain ⟨hl, hI⟩ := ho.2.1
  obtain ⟨hd, hD⟩ := ho.2.2
  have w2 : wrp .i64 ((c.xList.length : Int) - 1) = c.xList.length - 1 := wrp_i64 (by omega) (by omega)
  conv => whnf
  refine (s_PoolOk_ok c.xPool hP).mono ?_
  rintro _ _ ⟨rfl, rfl⟩
  conv => whnf
  refine br_if (fun h1 => ?_) (fun h1 => ?_) <;> (try rw [h1]) <;> (conv => whnf)
  · exact bR_eq (codeOk_ff fun h => by rw [notB_t] at h1; rw [h.1] at h1; cases h1).symm
  rw [notB_f] at h1
  refine br_if (fun h2 => ?_) (fun h2 => ?_) <;> (try rw [h2]) <;> (conv => whnf)
  · exact bR_eq (codeOk_ff fun h => by rw [ltI_t, List.length_map] at h2; have := h.2.1; omega).symm
  rw [ltI_f, List.length_map] at h2
  refine br_if (fun h3 => ?_) (fun h3 => ?_) <;> (try rw [h3]) <;> (conv => whnf)
  · exact bR_eq (codeOk_ff fun h => by rw [ltI_t, List.length_map] at h3; have := h.2.2.1; omega).symm
  rw [ltI_f, List.length_map] at h3
  refine ⟨fun m s => ∃ (k : Int), s = ⟨[(1, .bptr 1 0 0), (2, .vals false [.sc (.bool false)]), (3, .vals false [.sc (.int .i64 k)])], [(1, ⟨0, c.x⟩)], []⟩ ∧ m = c.xList.length - k.toNat ∧ 0 ≤ k ∧ k ≤ c.xList.length ∧ ∀ (i : Nat) (x : DInstr), i < k.toNat → c.xList[i]? = some x → instrOk c x i = true,
    ⟨_, _, norm_wk (keep := [1, 2, 3]) (kb := [1]) (ρ := []) rfl, ⟨0, rfl, rfl, by omega, by omega, fun i x h => absurd h (by simp)⟩⟩, ?_⟩
  rintro m _ ⟨k, rfl, rfl, k0, k1, hk⟩
  conv => whnf
  refine br_if (fun h4 => ?_) (fun h4 => ?_) <;> (try rw [h4]) <;> (conv => whnf)
  · rw [ltI_t] at h4
    try rw [List.length_map] at h4
    obtain ⟨x, hx⟩ : ∃ x, c.xList[k.toNat]? = some x := ⟨_, List.getElem?_eq_getElem (by omega)⟩
    refine (s_l4Instr_ok c ho k k0 x hx).mono ?_
    rintro _ _ ⟨rfl, rfl⟩
    conv => whnf
    have ek : instrOk c x k = instrOk c x (k.toNat : Int) := by rw [Int.toNat_of_nonneg k0]
    refine br_if (fun h5 => ?_) (fun h5 => ?_) <;> (try rw [h5]) <;> (conv => whnf)
    · exact bR_eq (codeOk_ff fun h => by rw [notB_t, ek, h.2.2.2.1 _ x hx] at h5; cases h5).symm
    · rw [notB_f] at h5
      rw [wrp_i64 (x := k + 1) (by omega) (by omega)]
      refine ⟨c.xList.length - (k + 1).toNat, _, by omega, norm_wk (keep := [1, 2, 3]) (kb := [1]) (ρ := []) rfl, ⟨k + 1, rfl, rfl, by omega, by omega, ?_⟩⟩
      intro i y hi hy
      by_cases e : i = k.toNat
      · subst e
        rw [hx] at hy
        cases hy
        rw [← ek]
        exact h5
      · exact hk i y (by omega) hy
  rw [ltI_f] at h4
  try rw [List.length_map] at h4
  have hall : ∀ (i : Nat) (x : DInstr), c.xList[i]? = some x → instrOk c x i = true := fun i y hy => hk i y (by have := (List.getElem?_eq_some_iff.1 hy).1; omega) hy
  clear hk h4 k0 k1
  refine ⟨fun m s => ∃ (k : Int), s = ⟨[(1, .bptr 1 0 0), (2, .vals false [.sc (.bool false)]), (4, .vals false [.sc (.int .i64 k)])], [(1, ⟨0, c.x⟩)], []⟩ ∧ m = c.xDefs.length - k.toNat ∧ 0 ≤ k ∧ k ≤ c.xDefs.length ∧ ∀ (i : Nat) (d : DDef), i < k.toNat → c.xDefs[i]? = some d → nameOk d.xName = true ∧ defOf c d.xName = i ∧ 0 ≤ d.xAt ∧ d.xAt < c.xList.length ∧ 0 ≤ d.xArgs ∧ d.xArgs ≤ 4,
    ⟨_, _, norm_wk (keep := [1, 2, 4]) (kb := [1]) (ρ := []) rfl, ⟨0, rfl, rfl, by omega, by omega, fun i x h => absurd h (by simp)⟩⟩, ?_⟩
  rintro m _ ⟨k, rfl, rfl, k0, k1, hk⟩
  conv => whnf
  refine br_if (fun h4 => ?_) (fun h4 => ?_) <;> (try rw [h4]) <;> (conv => whnf)
  · rw [ltI_t] at h4
    try rw [List.length_map] at h4
    obtain ⟨x, hx⟩ : ∃ x, c.xDefs[k.toNat]? = some x := ⟨_, List.getElem?_eq_getElem (by omega)⟩
    obtain ⟨oS, oA, oR⟩ := hD x (List.mem_of_getElem? hx)
    refine ⟨by omega, _, by rw [List.getElem?_map, hx]; rfl, ?_⟩
    conv => whnf
    refine (s_NameOk_ok x.xName oS).mono ?_
    rintro _ _ ⟨rfl, rfl⟩
    conv => whnf
    refine br_if (fun h5 => ?_) (fun h5 => ?_) <;> (try rw [h5]) <;> (conv => whnf)
    · exact bR_eq (codeOk_ff fun h => by rw [notB_t, (h.2.2.2.2 _ x hx).1] at h5; cases h5).symm
    rw [notB_f] at h5
    refine (s_DefOf_ok c x.xName hd).mono ?_
    rintro _ _ ⟨rfl, rfl⟩
    conv => whnf
    refine br_if (fun h6 => ?_) (fun h6 => ?_) <;> (try rw [h6]) <;> (conv => whnf)
    · exact bR_eq (codeOk_ff fun h => by rw [notB_t, eqI_f] at h6; have := (h.2.2.2.2 _ x hx).2.1; omega).symm
    rw [notB_f, eqI_t] at h6
    refine (s_l1In_ok _ _ _).mono ?_
    rintro _ _ ⟨rfl, rfl⟩
    conv => whnf
    try rw [List.length_map]
    refine br_if (fun h7 => ?_) (fun h7 => ?_) <;> (try rw [h7]) <;> (conv => whnf)
    · exact bR_eq (codeOk_ff fun h => by rw [notB_t, decide_eq_false_iff_not] at h7; have := (h.2.2.2.2 _ x hx).2.2; omega).symm
    rw [notB_f, decide_eq_true_iff] at h7
    refine (s_l1In_ok _ _ _).mono ?_
    rintro _ _ ⟨rfl, rfl⟩
    conv => whnf
    refine br_if (fun h8 => ?_) (fun h8 => ?_) <;> (try rw [h8]) <;> (conv => whnf)
    · exact bR_eq (codeOk_ff fun h => by rw [notB_t, decide_eq_false_iff_not] at h8; have := (h.2.2.2.2 _ x hx).2.2; omega).symm
    rw [notB_f, decide_eq_true_iff] at h8
    rw [wrp_i64 (x := k + 1) (by omega) (by omega)]
    refine ⟨c.xDefs.length - (k + 1).toNat, _, by omega, norm_wk (keep := [1, 2, 4]) (kb := [1]) (ρ := []) rfl, ⟨k + 1, rfl, rfl, by omega, by omega, ?_⟩⟩
    intro i y hi hy
    by_cases e : i = k.toNat
    · subst e
      rw [hx] at hy
      cases hy
      exact ⟨h5, by omega, by omega, by omega, by omega, by omega⟩
    · exact hk i y (by omega) hy
  · rw [ltI_f] at h4
    try rw [List.length_map] at h4
    exact bR_eq (codeOk_t.2 ⟨h1, by omega, by omega, hall, fun i y hy => hk i y (by have := (List.getElem?_eq_some_iff.1 hy).1; omega) hy⟩).symm

set_option maxRecDepth 100000 in
set_option maxHeartbeats 1000000 in
theorem i_CodeOk_ok (c : DCode) (ho : c.ok) : FnV Tryz.prog 111 [cV c] fun rs outs => rs = [bR (codeOk c)] ∧ outs = [] := by
  refine fn_ok (E := E7) τ_ok mixed Tryz.func111 (by rfl) (by rfl) false (by simp [Tryz.f111]) ?_
  have hP := ho.1
  obtain ⟨hl, hI⟩ := ho.2.1
  obtain ⟨hd, hD⟩ := ho.2.2
  have w2 : wrp .i64 ((c.xList.length : Int) - 1) = c.xList.length - 1 := wrp_i64 (by omega) (by omega)
  conv => whnf
  refine (i_PoolOk_ok c.xPool hP).mono ?_
  rintro _ _ ⟨rfl, rfl⟩
  conv => whnf
  refine br_if (fun h1 => ?_) (fun h1 => ?_) <;> (try rw [h1]) <;> (conv => whnf)
  · exact bR_eq (codeOk_ff fun h => by rw [notB_t] at h1; rw [h.1] at h1; cases h1).symm
  rw [notB_f] at h1
  refine br_if (fun h2 => ?_) (fun h2 => ?_) <;> (try rw [h2]) <;> (conv => whnf)
  · exact bR_eq (codeOk_ff fun h => by rw [ltI_t, List.length_map] at h2; have := h.2.1; omega).symm
  rw [ltI_f, List.length_map] at h2
  refine br_if (fun h3 => ?_) (fun h3 => ?_) <;> (try rw [h3]) <;> (conv => whnf)
  · exact bR_eq (codeOk_ff fun h => by rw [ltI_t, List.length_map] at h3; have := h.2.2.1; omega).symm
  rw [ltI_f, List.length_map] at h3
  refine ⟨fun m s => ∃ (k : Int), s = ⟨[(1, .bptr 1 0 0), (2, .vals false [.sc (.bool false)]), (24, .vals false [.sc (.int .i64 c.xList.length)]), (25, .vals false [.sc (.int .i64 k)])], [(1, ⟨0, c.x⟩)], []⟩ ∧ m = c.xList.length - k.toNat ∧ 0 ≤ k ∧ k ≤ c.xList.length ∧ ∀ (i : Nat) (x : DInstr), i < k.toNat → c.xList[i]? = some x → instrOk c x i = true,
    ⟨_, _, norm_wk (keep := [1, 2, 24, 25]) (kb := [1]) (ρ := []) rfl, ⟨0, by rw [List.length_map], rfl, by omega, by omega, fun i x h => absurd h (by simp)⟩⟩, ?_⟩
  rintro m _ ⟨k, rfl, rfl, k0, k1, hk⟩
  conv => whnf
  refine br_if (fun h4 => ?_) (fun h4 => ?_) <;> (try rw [h4]) <;> (conv => whnf)
  · rw [ltI_t] at h4
    try rw [List.length_map] at h4
    obtain ⟨x, hx⟩ : ∃ x, c.xList[k.toNat]? = some x := ⟨_, List.getElem?_eq_getElem (by omega)⟩
    refine (i_instrOk_ok c ho k k0 x hx).mono ?_
    rintro _ _ ⟨rfl, rfl⟩
    conv => whnf
    have ek : instrOk c x k = instrOk c x (k.toNat : Int) := by rw [Int.toNat_of_nonneg k0]
    refine br_if (fun h5 => ?_) (fun h5 => ?_) <;> (try rw [h5]) <;> (conv => whnf)
    · exact bR_eq (codeOk_ff fun h => by rw [notB_t, ek, h.2.2.2.1 _ x hx] at h5; cases h5).symm
    · rw [notB_f] at h5
      rw [wrp_i64 (x := k + 1) (by omega) (by omega)]
      refine ⟨c.xList.length - (k + 1).toNat, _, by omega, norm_wk (keep := [1, 2, 24, 25]) (kb := [1]) (ρ := []) rfl, ⟨k + 1, rfl, rfl, by omega, by omega, ?_⟩⟩
      intro i y hi hy
      by_cases e : i = k.toNat
      · subst e
        rw [hx] at hy
        cases hy
        rw [← ek]
        exact h5
      · exact hk i y (by omega) hy
  rw [ltI_f] at h4
  try rw [List.length_map] at h4
  have hall : ∀ (i : Nat) (x : DInstr), c.xList[i]? = some x → instrOk c x i = true := fun i y hy => hk i y (by have := (List.getElem?_eq_some_iff.1 hy).1; omega) hy
  clear hk h4 k0 k1
  refine ⟨fun m s => ∃ (k : Int), s = ⟨[(1, .bptr 1 0 0), (2, .vals false [.sc (.bool false)]), (34, .vals false [.rd none 3 (c.xDefs.map DDef.c)]), (35, .vals false [.sc (.int .i64 c.xDefs.length)]), (36, .vals false [.sc (.int .i64 k)])], [(1, ⟨0, c.x⟩)], []⟩ ∧ m = c.xDefs.length - k.toNat ∧ 0 ≤ k ∧ k ≤ c.xDefs.length ∧ ∀ (i : Nat) (d : DDef), i < k.toNat → c.xDefs[i]? = some d → nameOk d.xName = true ∧ defOf c d.xName = i ∧ 0 ≤ d.xAt ∧ d.xAt < c.xList.length ∧ 0 ≤ d.xArgs ∧ d.xArgs ≤ 4,
    ⟨_, _, norm_wk (keep := [1, 2, 34, 35, 36]) (kb := [1]) (ρ := []) rfl, ⟨0, by rw [List.length_map], rfl, by omega, by omega, fun i x h => absurd h (by simp)⟩⟩, ?_⟩
  rintro m _ ⟨k, rfl, rfl, k0, k1, hk⟩
  conv => whnf
  refine br_if (fun h4 => ?_) (fun h4 => ?_) <;> (try rw [h4]) <;> (conv => whnf)
  · rw [ltI_t] at h4
    try rw [List.length_map] at h4
    obtain ⟨x, hx⟩ : ∃ x, c.xDefs[k.toNat]? = some x := ⟨_, List.getElem?_eq_getElem (by omega)⟩
    obtain ⟨oS, oA, oR⟩ := hD x (List.mem_of_getElem? hx)
    refine ⟨by omega, _, by rw [List.getElem?_map, hx]; rfl, ?_⟩
    conv => whnf
    refine (i_NameOk_ok x.xName oS).mono ?_
    rintro _ _ ⟨rfl, rfl⟩
    conv => whnf
    refine br_if (fun h5 => ?_) (fun h5 => ?_) <;> (try rw [h5]) <;> (conv => whnf)
    · exact bR_eq (codeOk_ff fun h => by rw [notB_t, (h.2.2.2.2 _ x hx).1] at h5; cases h5).symm
    rw [notB_f] at h5
    refine (i_DefOf_ok c x.xName hd).mono ?_
    rintro _ _ ⟨rfl, rfl⟩
    conv => whnf
    refine br_if (fun h6 => ?_) (fun h6 => ?_) <;> (try rw [h6]) <;> (conv => whnf)
    · exact bR_eq (codeOk_ff fun h => by rw [notB_t, eqI_f] at h6; have := (h.2.2.2.2 _ x hx).2.1; omega).symm
    rw [notB_f, eqI_t] at h6
    refine (i_within_ok _ _ _).mono ?_
    rintro _ _ ⟨rfl, rfl⟩
    conv => whnf
    try rw [List.length_map]
    refine br_if (fun h7 => ?_) (fun h7 => ?_) <;> (try rw [h7]) <;> (conv => whnf)
    · exact bR_eq (codeOk_ff fun h => by rw [notB_t, decide_eq_false_iff_not] at h7; have := (h.2.2.2.2 _ x hx).2.2; omega).symm
    rw [notB_f, decide_eq_true_iff] at h7
    refine (i_within_ok _ _ _).mono ?_
    rintro _ _ ⟨rfl, rfl⟩
    conv => whnf
    refine br_if (fun h8 => ?_) (fun h8 => ?_) <;> (try rw [h8]) <;> (conv => whnf)
    · exact bR_eq (codeOk_ff fun h => by rw [notB_t, decide_eq_false_iff_not] at h8; have := (h.2.2.2.2 _ x hx).2.2; omega).symm
    rw [notB_f, decide_eq_true_iff] at h8
    rw [wrp_i64 (x := k + 1) (by omega) (by omega)]
    refine ⟨c.xDefs.length - (k + 1).toNat, _, by omega, norm_wk (keep := [1, 2, 34, 35, 36]) (kb := [1]) (ρ := []) rfl, ⟨k + 1, rfl, rfl, by omega, by omega, ?_⟩⟩
    intro i y hi hy
    by_cases e : i = k.toNat
    · subst e
      rw [hx] at hy
      cases hy
      exact ⟨h5, by omega, by omega, by omega, by omega, by omega⟩
    · exact hk i y (by omega) hy
  · rw [ltI_f] at h4
    try rw [List.length_map] at h4
    exact bR_eq (codeOk_t.2 ⟨h1, by omega, by omega, hall, fun i y hy => hk i y (by have := (List.getElem?_eq_some_iff.1 hy).1; omega) hy⟩).symm


end Go.Proofs.YtcaonpncopfeoaaGreat.V
