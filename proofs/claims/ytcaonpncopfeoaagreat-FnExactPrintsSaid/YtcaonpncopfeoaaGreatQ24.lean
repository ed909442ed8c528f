/- Worlds: the reference's side. -/
import Derived.Test.YtcaonpncopfeoaaGreatQ23
set_option linter.unusedVariables false
set_option linter.unusedSimpArgs false
namespace Go.Proofs.YtcaonpncopfeoaaGreat.V
open Go

def MdE24 (f : Nat) : List Mode :=
  match f with
  | 78 => [.rd, .rd]
  | 101 => [.rd, .rd, .rd]
  | 102 => [.rd]
  | 103 => [.rd]
  | 104 => [.rd]
  | 105 => [.rd]
  | 199 => [.rd]
  | _ => []
def E24 : Env := ⟨τ, MdE24⟩

noncomputable def homesOk (w : DWorld) : Bool := clB (w.xHomes.length ≤ 8 ∧ ∀ h ∈ w.xHomes, (0 ≤ h.xAt ∧ h.xAt < w.xPlaces) ∧ procOk w.xCode h.xP = true)
noncomputable def gramsOk (w : DWorld) : Bool := clB (w.xGrams.length ≤ 12 ∧ w.xParked.length ≤ 20 ∧ (∀ g ∈ w.xGrams, gramOk w.xPlaces g = true) ∧ ∀ p ∈ w.xParked, 0 ≤ p.xAt ∧ p.xAt < w.xPlaces)

set_option maxRecDepth 100000 in
set_option maxHeartbeats 1000000 in
theorem s_l13Homes_ok (w : DWorld) (ho : w.ok) (h2 : 1 ≤ w.xPlaces ∧ w.xPlaces ≤ 3) (hb : ∀ h ∈ w.xHomes, ∀ s ∈ h.xP.xBox, s.size ≤ 1000000000) : FnV Tryz.prog 103 [wV w] fun rs outs => rs = [bR (homesOk w)] ∧ outs = [] := by
  refine fn_ok (E := E24) τ_ok mixed Tryz.func103 (by rfl) (by rfl) false (by simp [Tryz.f103]) ?_
  obtain ⟨oC, -, ⟨oH, hH⟩, -⟩ := id ho
  have hl : (w.xHomes.map DHome.c).length = w.xHomes.length := List.length_map ..
  have wn : wrp .i64 (w.xPlaces - 1) = w.xPlaces - 1 := wrp_i64 (by omega) (by omega)
  conv => whnf
  refine ⟨fun m s => ∃ (k : Int), s = ⟨[(1, .bptr 1 0 0), (2, .vals false [.sc (.bool false)]), (3, .vals false [.sc (.int .i64 k)])], [(1, ⟨0, w.x⟩)], []⟩ ∧ m = w.xHomes.length - k.toNat ∧ 0 ≤ k ∧ k ≤ w.xHomes.length ∧
      ∀ h ∈ w.xHomes.take k.toNat, (0 ≤ h.xAt ∧ h.xAt < w.xPlaces) ∧ procOk w.xCode h.xP = true,
    ⟨_, _, norm_wk (keep := [1, 2, 3]) (kb := [1]) (ρ := []) rfl, ⟨0, rfl, rfl, by omega, by omega, by simp⟩⟩, ?_⟩
  rintro m _ ⟨k, rfl, rfl, k0, k1, hk⟩
  conv => whnf
  refine br_if (fun h => ?_) (fun h => ?_) <;> (try rw [h]) <;> (conv => whnf)
  · rw [ltI_t, hl] at h
    obtain ⟨x, hx⟩ : ∃ x, w.xHomes[k.toNat]? = some x := ⟨_, List.getElem?_eq_getElem (by omega)⟩
    have hxm := List.mem_of_getElem? hx
    have hrow : (w.xHomes.map DHome.c)[k.toNat]? = some x.c := by rw [List.getElem?_map, hx]; rfl
    have wk : wrp .i64 (k + 1) = k + 1 := wrp_i64 (by omega) (by omega)
    have bad : ∀ b : Bool, ¬ ((0 ≤ x.xAt ∧ x.xAt < w.xPlaces) ∧ procOk w.xCode x.xP = true) → homesOk w = false := fun _ hn => clB_f.2 fun h => hn (h.2 x hxm)
    rcases hB : notB (decide (0 ≤ x.xAt ∧ x.xAt ≤ wrp .i64 (w.xPlaces - 1))) with _ | _
    · refine ⟨.take 0 (.take 2 (.take 6 (.early 7 (.take 8 (.or 1 (.take 3 (.take 4 (.or 5 (.or 9 (.take 10 (.take 11 (.take 12 (.take 14 (.take 16 (.or 13 (.or 15 (.take 17 (.take 18 (.or 19 (.or 20 (.calm 21 (.calm 22 .done)) .nil) .nil))) .nil) (.or 15 (.take 17 (.take 18 (.or 13 (.or 19 (.or 20 (.calm 21 (.calm 22 .done)) .nil) .nil) (.or 19 (.or 13 (.or 20 (.calm 21 (.calm 22 .done)) .nil) .nil) .nil)))) .nil))))))) .nil) .nil))) .nil))))), by rfl, ?_⟩
      apply Exists.intro
      refine ⟨?_, ?_⟩
      · conv => whnf
        repeat' (first
          | (refine ⟨rfl, ?_⟩; conv => whnf)
          | (refine ⟨k0, _, hrow, ?_⟩; conv => whnf)
          | (refine (s_l1In_ok _ _ _).mono ?_; rintro _ _ ⟨rfl, rfl⟩; conv => whnf)
          | (refine (s_ProcOk_ok w.xCode x.xP oC (hH x hxm).2 (hb x hxm)).mono ?_; rintro _ _ ⟨rfl, rfl⟩; conv => whnf)
          | (rw [hB]; conv => whnf)
          | exact norm_wk (keep := [1, 2, 3, 33]) (kb := [1]) (ρ := []) rfl
          | (refine ⟨?_, ?_⟩ <;> conv => whnf)
          | fail)
      conv => whnf
      rw [notB_f, decide_eq_true_iff, wn] at hB
      refine br_if (fun h9 => ?_) (fun h9 => ?_) <;> (try rw [h9]) <;> (conv => whnf)
      · exact bR_eq (bad true fun h => by rw [notB_t, h.2] at h9; cases h9).symm
      rw [notB_f] at h9
      rw [wk]
      refine ⟨w.xHomes.length - (k + 1).toNat, _, by omega, norm_wk (keep := [1, 2, 3]) (kb := [1]) (ρ := []) rfl, ⟨k + 1, rfl, rfl, by omega, by omega, ?_⟩⟩
      rw [show (k + 1).toNat = k.toNat + 1 by omega]
      exact all_snoc hx hk ⟨⟨by omega, by omega⟩, h9⟩
    · refine ⟨.take 0 (.take 2 (.take 6 (.early 7 (.take 8 (.or 1 (.take 3 (.take 4 (.or 5 (.or 9 (.take 10 (.take 11 (.take 12 (.take 14 (.take 16 (.or 13 (.or 15 (.take 17 (.take 18 (.or 19 (.or 20 (.calm 21 (.calm 22 .done)) .nil) .nil))) .nil) (.or 15 (.take 17 (.take 18 (.or 13 (.or 19 (.or 20 (.calm 21 (.calm 22 .done)) .nil) .nil) (.or 19 (.or 13 (.or 20 (.calm 21 (.calm 22 .done)) .nil) .nil) .nil)))) .nil))))))) .nil) .nil))) .nil))))), by rfl, ?_⟩
      apply Exists.intro
      refine ⟨?_, ?_⟩
      · conv => whnf
        repeat' (first
          | (refine ⟨rfl, ?_⟩; conv => whnf)
          | (refine ⟨k0, _, hrow, ?_⟩; conv => whnf)
          | (refine (s_l1In_ok _ _ _).mono ?_; rintro _ _ ⟨rfl, rfl⟩; conv => whnf)
          | (rw [hB]; conv => whnf)
          | exact norm_wk (keep := [1, 2, 3, 33]) (kb := [1]) (ρ := []) rfl
          | (refine ⟨?_, ?_⟩ <;> conv => whnf)
          | fail)
      conv => whnf
      rw [notB_t, decide_eq_false_iff_not, wn] at hB
      exact bR_eq (bad true fun h => by omega).symm
  · rw [ltI_f, hl] at h
    rw [List.take_of_length_le (by omega)] at hk
    refine bR_eq (Bool.eq_iff_iff.2 ?_)
    rw [leI_t, hl]
    unfold homesOk
    rw [clB_t]
    exact ⟨fun h => ⟨by omega, hk⟩, fun h => by omega⟩

set_option maxRecDepth 100000 in
set_option maxHeartbeats 1000000 in
theorem s_l13Links_ok (w : DWorld) (ho : w.ok) (hn : 1 ≤ w.xPlaces ∧ w.xPlaces ≤ 3) : FnV Tryz.prog 104 [wV w] fun rs outs => rs = [bR (linksOk w)] ∧ outs = [] := by
  refine fn_ok (E := E24) τ_ok mixed Tryz.func104 (by rfl) (by rfl) false (by simp [Tryz.f104]) ?_
  obtain ⟨-, -, -, ⟨oL, hL⟩, -, -, -, ⟨oG, -⟩, oT, -⟩ := ho
  have n9 : 1 ≤ w.xPlaces * w.xPlaces ∧ w.xPlaces * w.xPlaces ≤ 9 := by
    rcases (show w.xPlaces = 1 ∨ w.xPlaces = 2 ∨ w.xPlaces = 3 by omega) with h | h | h <;> rw [h] <;> omega
  have wn : wrp .i64 (w.xPlaces * w.xPlaces) = w.xPlaces * w.xPlaces := wrp_i64 (by omega) (by omega)
  have gl : (sssC w.xGave).length = w.xGave.length := List.length_map ..
  have tl : (sssC w.xTook).length = w.xTook.length := List.length_map ..
  have ll : (w.xLinks.map DLink.c).length = w.xLinks.length := List.length_map ..
  conv => whnf
  rw [wn]
  refine br_if (fun h1 => ?_) (fun h1 => ?_) <;> (try rw [h1]) <;> (conv => whnf)
  · exact bR_eq (linksOk_ff fun h => by rw [notB_t, eqI_f, ll] at h1; exact h1 h.1).symm
  rw [notB_f, eqI_t, ll] at h1
  refine br_if (fun h2 => ?_) (fun h2 => ?_) <;> (try rw [h2]) <;> (conv => whnf)
  · exact bR_eq (linksOk_ff fun h => by rw [notB_t, eqI_f, gl] at h2; exact h2 h.2.1).symm
  rw [notB_f, eqI_t, gl] at h2
  refine br_if (fun h3 => ?_) (fun h3 => ?_) <;> (try rw [h3]) <;> (conv => whnf)
  · exact bR_eq (linksOk_ff fun h => by rw [notB_t, eqI_f, tl] at h3; exact h3 h.2.2.1).symm
  rw [notB_f, eqI_t, tl] at h3
  refine ⟨fun m s => ∃ (k : Int), s = ⟨[(1, .bptr 1 0 0), (2, .vals false [.sc (.bool false)]), (3, .vals false [.sc (.int .i64 (w.xPlaces * w.xPlaces))]), (4, .vals false [.sc (.int .i64 k)])], [(1, ⟨0, w.x⟩)], []⟩ ∧ m = w.xLinks.length - k.toNat ∧ 0 ≤ k ∧ k ≤ w.xLinks.length ∧
      ∀ (i : Nat) (l : DLink), i < k.toNat → w.xLinks[i]? = some l → linkOk l = true ∧ (∀ g, w.xGave[i]? = some g → (g.length : Int) = l.xSent) ∧ ∀ g, w.xTook[i]? = some g → (g.length : Int) = l.xGot,
    ⟨_, _, norm_wk (keep := [1, 2, 3, 4]) (kb := [1]) (ρ := []) rfl, ⟨0, rfl, rfl, by omega, by omega, fun i l h => absurd h (by simp)⟩⟩, ?_⟩
  rintro m _ ⟨k, rfl, rfl, k0, k1, hk⟩
  conv => whnf
  refine br_if (fun h => ?_) (fun h => ?_) <;> (try rw [h]) <;> (conv => whnf)
  · rw [ltI_t] at h
    obtain ⟨x, hx⟩ : ∃ x, w.xLinks[k.toNat]? = some x := ⟨_, List.getElem?_eq_getElem (by omega)⟩
    obtain ⟨g, hg⟩ : ∃ x, w.xGave[k.toNat]? = some x := ⟨_, List.getElem?_eq_getElem (by omega)⟩
    obtain ⟨t, ht⟩ : ∃ x, w.xTook[k.toNat]? = some x := ⟨_, List.getElem?_eq_getElem (by omega)⟩
    have hg' : (sssC w.xGave)[k.toNat]? = some [.sl true 1 (ssC g)] := by rw [List.getElem?_map, hg]; rfl
    have ht' : (sssC w.xTook)[k.toNat]? = some [.sl true 1 (ssC t)] := by rw [List.getElem?_map, ht]; rfl
    have hx' : (w.xLinks.map DLink.c)[k.toNat]? = some x.c := by rw [List.getElem?_map, hx]; rfl
    have wk : wrp .i64 (k + 1) = k + 1 := wrp_i64 (by omega) (by omega)
    refine ⟨.one (.take 0 (.take 2 (.or 1 (.take 3 (.or 4 (.or 5 (.calm 6 (.calm 7 (.calm 8 (.calm 9 (.calm 10 (.calm 11 (.calm 12 (.calm 13 (.calm 14 (.calm 15 (.calm 16 (.calm 17 (.calm 18 (.calm 19 (.calm 20 (.calm 21 (.calm 22 (.calm 23 (.calm 24 (.calm 25 (.calm 26 (.calm 27 (.calm 28 (.calm 29 (.calm 30 (.calm 31 (.calm 32 (.calm 33 (.calm 34 (.calm 35 (.calm 36 .done))))))))))))))))))))))))))))))) .nil) .nil)) .nil))), by rfl, ?_⟩
    conv => whnf
    refine ⟨k0, _, hx', ?_⟩
    conv => whnf
    refine (s_LinkOk_ok x (hL x (List.mem_of_getElem? hx))).mono ?_
    rintro _ _ ⟨rfl, rfl⟩
    conv => whnf
    refine br_if (fun h4 => ?_) (fun h4 => ?_) <;> (try rw [h4]) <;> (conv => whnf)
    · exact bR_eq (linksOk_ff fun h => by rw [notB_t, (h.2.2.2 _ x hx).1] at h4; cases h4).symm
    rw [notB_f] at h4
    refine ⟨k0, _, hg', ?_⟩
    conv => whnf
    refine ⟨k0, _, hx', ?_⟩
    conv => whnf
    refine br_if (fun h5 => ?_) (fun h5 => ?_) <;> (try rw [h5]) <;> (conv => whnf)
    · exact bR_eq (linksOk_ff fun h => by rw [notB_t, eqI_f, ssC_len] at h5; exact h5 ((h.2.2.2 _ x hx).2.1 g hg)).symm
    rw [notB_f, eqI_t, ssC_len] at h5
    refine ⟨k0, _, ht', ?_⟩
    conv => whnf
    refine ⟨k0, _, hx', ?_⟩
    conv => whnf
    refine br_if (fun h6 => ?_) (fun h6 => ?_) <;> (try rw [h6]) <;> (conv => whnf)
    · exact bR_eq (linksOk_ff fun h => by rw [notB_t, eqI_f, ssC_len] at h6; exact h6 ((h.2.2.2 _ x hx).2.2 t ht)).symm
    rw [notB_f, eqI_t, ssC_len] at h6
    rw [wk]
    refine ⟨w.xLinks.length - (k + 1).toNat, _, by omega, norm_wk (keep := [1, 2, 3, 4]) (kb := [1]) (ρ := []) rfl, ⟨k + 1, rfl, rfl, by omega, by omega, ?_⟩⟩
    intro i y hi hy
    by_cases e : i = k.toNat
    · subst e
      rw [hx] at hy
      cases hy
      refine ⟨h4, fun g' hg2 => ?_, fun g' hg2 => ?_⟩
      · rw [hg] at hg2; cases hg2; exact h5
      · rw [ht] at hg2; cases hg2; exact h6
    · exact hk i y (by omega) hy
  · rw [ltI_f] at h
    exact bR_eq (clB_t.2 ⟨h1, h2, h3, fun i y hy => hk i y (by have := (List.getElem?_eq_some_iff.1 hy).1; omega) hy⟩).symm

set_option maxRecDepth 100000 in
set_option maxHeartbeats 2000000 in
theorem s_l13Grams_ok (w : DWorld) (ho : w.ok) (hn : 1 ≤ w.xPlaces ∧ w.xPlaces ≤ 3) : FnV Tryz.prog 105 [wV w] fun rs outs => rs = [bR (gramsOk w)] ∧ outs = [] := by
  refine fn_ok (E := E24) τ_ok mixed Tryz.func105 (by rfl) (by rfl) false (by simp [Tryz.f105]) ?_
  obtain ⟨-, -, -, -, ⟨oG, hG⟩, ⟨oP, -⟩, -⟩ := ho
  have wn : wrp .i64 (w.xPlaces - 1) = w.xPlaces - 1 := wrp_i64 (by omega) (by omega)
  have gl : (w.xGrams.map DGram.c).length = w.xGrams.length := List.length_map ..
  have pl : (w.xParked.map DParked.c).length = w.xParked.length := List.length_map ..
  conv => whnf
  refine ⟨fun m s => ∃ (k : Int), s = ⟨[(1, .bptr 1 0 0), (2, .vals false [.sc (.bool false)]), (3, .vals false [.sc (.int .i64 k)])], [(1, ⟨0, w.x⟩)], []⟩ ∧ m = w.xGrams.length - k.toNat ∧ 0 ≤ k ∧ k ≤ w.xGrams.length ∧ ∀ g ∈ w.xGrams.take k.toNat, gramOk w.xPlaces g = true,
    ⟨_, _, norm_wk (keep := [1, 2, 3]) (kb := [1]) (ρ := []) rfl, ⟨0, rfl, rfl, by omega, by omega, by simp⟩⟩, ?_⟩
  rintro m _ ⟨k, rfl, rfl, k0, k1, hk⟩
  conv => whnf
  refine br_if (fun h => ?_) (fun h => ?_) <;> (try rw [h]) <;> (conv => whnf)
  · rw [ltI_t, gl] at h
    obtain ⟨x, hx⟩ : ∃ x, w.xGrams[k.toNat]? = some x := ⟨_, List.getElem?_eq_getElem (by omega)⟩
    have hxm := List.mem_of_getElem? hx
    have wk : wrp .i64 (k + 1) = k + 1 := wrp_i64 (by omega) (by omega)
    have bad : gramOk w.xPlaces x = false → gramsOk w = false := fun hn => clB_f.2 fun h => by rw [h.2.2.1 x hxm] at hn; cases hn
    refine ⟨k0, _, by rw [List.getElem?_map, hx]; rfl, ?_⟩
    conv => whnf
    repeat' (first
      | (refine br_if (fun h => ?_) (fun h => ?_) <;> (try rw [h]) <;> (conv => whnf))
      | (refine (s_l1In_ok _ _ _).mono ?_; rintro _ _ ⟨rfl, rfl⟩; conv => whnf)
      | fail)
    all_goals first
      | (refine bR_eq (bad ?_).symm
         unfold gramOk GramOk
         rw [clB_f]
         simp only [eqI_t, eqI_f, emp_t, emp_f, notB_t, notB_f, decide_eq_true_eq, decide_eq_false_iff_not, wn] at *
         omega)
      | (rw [wk]
         refine ⟨w.xGrams.length - (k + 1).toNat, _, by omega, norm_wk (keep := [1, 2, 3]) (kb := [1]) (ρ := []) rfl, ⟨k + 1, rfl, rfl, by omega, by omega, ?_⟩⟩
         rw [show (k + 1).toNat = k.toNat + 1 by omega]
         refine all_snoc hx hk ?_
         unfold gramOk GramOk
         rw [clB_t]
         simp only [eqI_t, eqI_f, emp_t, emp_f, notB_t, notB_f, decide_eq_true_eq, decide_eq_false_iff_not, wn] at *
         omega)
  rw [ltI_f, gl] at h
  rw [List.take_of_length_le (by omega)] at hk
  clear h k0 k1
  refine ⟨fun m s => ∃ (k : Int), s = ⟨[(1, .bptr 1 0 0), (2, .vals false [.sc (.bool false)]), (5, .vals false [.sc (.int .i64 k)])], [(1, ⟨0, w.x⟩)], []⟩ ∧ m = w.xParked.length - k.toNat ∧ 0 ≤ k ∧ k ≤ w.xParked.length ∧ ∀ p ∈ w.xParked.take k.toNat, 0 ≤ p.xAt ∧ p.xAt < w.xPlaces,
    ⟨_, _, norm_wk (keep := [1, 2, 5]) (kb := [1]) (ρ := []) rfl, ⟨0, rfl, rfl, by omega, by omega, by simp⟩⟩, ?_⟩
  rintro m _ ⟨k, rfl, rfl, k0, k1, hk2⟩
  conv => whnf
  refine br_if (fun h => ?_) (fun h => ?_) <;> (try rw [h]) <;> (conv => whnf)
  · rw [ltI_t, pl] at h
    obtain ⟨x, hx⟩ : ∃ x, w.xParked[k.toNat]? = some x := ⟨_, List.getElem?_eq_getElem (by omega)⟩
    have wk : wrp .i64 (k + 1) = k + 1 := wrp_i64 (by omega) (by omega)
    have hrow : (w.xParked.map DParked.c)[k.toNat]? = some x.c := by rw [List.getElem?_map, hx]; rfl
    refine ⟨.one (.take 0 (.take 2 (.take 6 (.early 7 (.take 8 (.or 1 (.take 3 (.take 4 (.or 5 (.or 9 (.take 10 .done) .nil) .nil))) .nil)))))), by rfl, ?_⟩
    conv => whnf
    repeat (first
      | (refine ⟨rfl, ?_⟩; conv => whnf)
      | (refine ⟨k0, _, hrow, ?_⟩; conv => whnf)
      | (refine (s_l1In_ok _ _ _).mono ?_; rintro _ _ ⟨rfl, rfl⟩; conv => whnf))
    refine br_if (fun h9 => ?_) (fun h9 => ?_) <;> (try rw [h9]) <;> (conv => whnf)
    · rw [notB_t, decide_eq_false_iff_not, wn] at h9
      exact bR_eq (clB_f.2 fun h => by have := h.2.2.2 x (List.mem_of_getElem? hx); omega : gramsOk w = false).symm
    · rw [notB_f, decide_eq_true_iff, wn] at h9
      rw [wk]
      refine ⟨w.xParked.length - (k + 1).toNat, _, by omega, norm_wk (keep := [1, 2, 5]) (kb := [1]) (ρ := []) rfl, ⟨k + 1, rfl, rfl, by omega, by omega, ?_⟩⟩
      rw [show (k + 1).toNat = k.toNat + 1 by omega]
      exact all_snoc hx hk2 (by omega)
  · rw [ltI_f, pl] at h
    rw [List.take_of_length_le (by omega)] at hk2
    repeat' (first
      | (refine br_if (fun h => ?_) (fun h => ?_) <;> (try rw [h]) <;> (conv => whnf))
      | fail)
    all_goals refine bR_eq (Bool.eq_iff_iff.2 ?_)
    all_goals unfold gramsOk
    all_goals rw [clB_t]
    all_goals simp only [leI_t, leI_f, gl, pl, Bool.false_eq_true, false_iff] at *
    · exact ⟨fun h => ⟨by omega, by omega, hk, hk2⟩, fun h => by omega⟩
    · intro h
      omega

set_option maxRecDepth 100000 in
set_option maxHeartbeats 1000000 in
theorem s_WorldOk_ok (w : DWorld) (ho : w.ok) (hb : ∀ h ∈ w.xHomes, ∀ s ∈ h.xP.xBox, s.size ≤ 1000000000) : FnV Tryz.prog 27 [wV w] fun rs outs => rs = [bR (worldOk w)] ∧ outs = [] := by
  refine fn_ok (E := E24) τ_ok mixed Tryz.func27 (by rfl) (by rfl) false (by simp [Tryz.f27]) ?_
  conv => whnf
  refine (s_l1In_ok _ _ _).mono ?_
  rintro _ _ ⟨rfl, rfl⟩
  conv => whnf
  refine br_if (fun h2 => ?_) (fun h2 => ?_) <;> (try rw [h2]) <;> (conv => whnf)
  rotate_left
  · rw [decide_eq_false_iff_not] at h2
    exact bR_eq (worldOk_ff fun h => h2 h.2.1).symm
  rw [decide_eq_true_iff] at h2
  refine (s_l1In_ok _ _ _).mono ?_
  rintro _ _ ⟨rfl, rfl⟩
  conv => whnf
  refine br_if (fun h6 => ?_) (fun h6 => ?_) <;> (try rw [h6]) <;> (conv => whnf)
  rotate_left
  · rw [decide_eq_false_iff_not] at h6
    exact bR_eq (worldOk_ff fun h => h6 h.2.2.2.2.2.1).symm
  rw [decide_eq_true_iff] at h6
  refine (s_CodeOk_ok w.xCode ho.1).mono ?_
  rintro _ _ ⟨rfl, rfl⟩
  conv => whnf
  refine br_if (fun h1 => ?_) (fun h1 => ?_) <;> (try rw [h1]) <;> (conv => whnf)
  rotate_left
  · exact bR_eq (worldOk_ff fun h => by rw [h.1] at h1; cases h1).symm
  refine (s_l13Homes_ok w ho h2 hb).mono ?_
  rintro _ _ ⟨rfl, rfl⟩
  conv => whnf
  refine br_if (fun h3 => ?_) (fun h3 => ?_) <;> (try rw [h3]) <;> (conv => whnf)
  rotate_left
  · exact bR_eq (worldOk_ff fun h => by rw [show homesOk w = true from clB_t.2 ⟨h.2.2.1, h.2.2.2.2.2.2.2.1⟩] at h3; cases h3).symm
  refine (s_l13Links_ok w ho h2).mono ?_
  rintro _ _ ⟨rfl, rfl⟩
  conv => whnf
  refine br_if (fun h4 => ?_) (fun h4 => ?_) <;> (try rw [h4]) <;> (conv => whnf)
  rotate_left
  · exact bR_eq (worldOk_ff fun h => by rw [h.2.2.2.2.2.2.1] at h4; cases h4).symm
  refine (s_l13Grams_ok w ho h2).mono ?_
  rintro _ _ ⟨rfl, rfl⟩
  conv => whnf
  refine bR_eq (Bool.eq_iff_iff.2 ?_)
  obtain ⟨a1, a2⟩ := clB_t.1 h3
  unfold gramsOk
  rw [worldOk_t, clB_t]
  exact ⟨fun ⟨b1, b2, b3, b4⟩ => ⟨h1, h2, a1, b1, b2, h6, h4, a2, b3, b4⟩, fun h => ⟨h.2.2.2.1, h.2.2.2.2.1, h.2.2.2.2.2.2.2.2.1, h.2.2.2.2.2.2.2.2.2⟩⟩

end Go.Proofs.YtcaonpncopfeoaaGreat.V
