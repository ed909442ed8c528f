/- The judge of doubles: the reference's. -/
import Derived.Test.YtcaonpncopfeoaaGreatQ38
set_option linter.unusedVariables false
set_option linter.unusedSimpArgs false
namespace Go.Proofs.YtcaonpncopfeoaaGreat.V
open Go

def MdE39 (f : Nat) : List Mode :=
  match f with
  | 27 => [.rd]
  | 149 => [.rd, .rd]
  | 151 => [.rd, .rd]
  | _ => []
def E39 : Env := ⟨τ, MdE39⟩

def OnceOk (w : DWorld) (xs : List Int) : Prop := ∀ p, 1 ≤ p → p < w.xNext → xs.count p ≤ 1
noncomputable def judgeN (w : DWorld) : Bool := clB (worldOk w = true ∧ OnceOk w (occ w))
theorem occ_mem {w : DWorld} {p : Int} (h : p ∈ occ w) : p ∈ occ0 w ∨ ∃ i, i < w.xLinks.length ∧ p ∈ occI w i := by
  unfold occ occN at h
  rw [List.mem_append, List.mem_flatMap] at h
  rcases h with h | ⟨i, hi, h⟩
  · exact .inl h
  · exact .inr ⟨i, List.mem_range.1 hi, h⟩
theorem occ_in0 {w : DWorld} {p : Int} (h : p ∈ occ0 w) : p ∈ occ w := by
  unfold occ occN
  exact List.mem_append_left _ h
theorem occ_in {w : DWorld} {p : Int} {i : Nat} (hi : i < w.xLinks.length) (h : p ∈ occI w i) : p ∈ occ w := by
  unfold occ occN
  exact List.mem_append_right _ (List.mem_flatMap.2 ⟨i, List.mem_range.2 hi, h⟩)
theorem pid_1 {w : DWorld} (hw : worldOk w = true) {i : Nat} {h : DHome} (hh : w.xHomes[i]? = some h) : 1 ≤ h.xP.xPid := by
  obtain ⟨-, -, -, -, -, -, -, h8, -⟩ := worldOk_t.1 hw
  exact (procOk_t.1 (h8 h (List.mem_of_getElem? hh)).2).1.1
theorem next_1 {w : DWorld} (hw : worldOk w = true) : 1 ≤ w.xNext ∧ w.xNext ≤ 1000000000 := (worldOk_t.1 hw).2.2.2.2.2.1

set_option maxRecDepth 100000 in
set_option maxHeartbeats 2000000 in
theorem s_JudgeOnce_ok (w : DWorld) (ho : w.ok) (hb' : ∀ h ∈ w.xHomes, ∀ s ∈ h.xP.xBox, s.size ≤ 1000000000) (hb : ∀ g ∈ w.xGave, ∀ s ∈ g, s.size ≤ 2000000) : FnV Tryz.prog 46 [wV w] fun rs outs => rs = [bR (judgeN w)] ∧ outs = [] := by
  refine fn_ok (E := E39) τ_ok mixed Tryz.func46 (by rfl) (by rfl) false (by simp [Tryz.f46]) ?_
  conv => whnf
  refine (s_WorldOk_ok w ho hb').mono ?_
  rintro _ _ ⟨rfl, rfl⟩
  conv => whnf
  refine br_if (fun h1 => ?_) (fun h1 => ?_) <;> (try rw [h1]) <;> (conv => whnf)
  · exact bR_eq (clB_f.2 fun h => by rw [notB_t, h.1] at h1; cases h1).symm
  rw [notB_f] at h1
  have hh8 := (worldOk_t.1 h1).2.2.1
  obtain ⟨p1, p2, p3, p4, -⟩ := world_parts h1
  have n9 := places9 p1
  refine ⟨fun m s => ∃ (k : Int), s = ⟨[(1, .bptr 1 0 0), (2, .vals false [.sc (.bool false)]), (3, .vals false [.sc (.int .i64 k)])], [(1, ⟨0, w.x⟩)], []⟩ ∧ m = w.xHomes.length - k.toNat ∧ 0 ≤ k ∧ k ≤ w.xHomes.length ∧ ∀ (i : Nat) (h : DHome), i < k.toNat → w.xHomes[i]? = some h → h.xP.xPid < w.xNext → (occ w).count h.xP.xPid ≤ 1,
    ⟨_, _, norm_wk (keep := [1, 2, 3]) (kb := [1]) (ρ := []) rfl, ⟨0, rfl, rfl, by omega, by omega, fun i h hi => absurd hi (by simp)⟩⟩, ?_⟩
  rintro m _ ⟨k, rfl, rfl, k0, k1, hk⟩
  conv => whnf
  rw [hmC_len]
  refine br_if (fun h2 => ?_) (fun h2 => ?_) <;> (try rw [h2]) <;> (conv => whnf)
  · rw [ltI_t] at h2
    obtain ⟨x, hx⟩ : ∃ x, w.xHomes[k.toNat]? = some x := ⟨_, List.getElem?_eq_getElem (by omega)⟩
    have nx : (x.xP.xPid < w.xNext → (occ w).count x.xP.xPid ≤ 1) → ∀ (i : Nat) (h : DHome), i < (k + 1).toNat → w.xHomes[i]? = some h → h.xP.xPid < w.xNext → (occ w).count h.xP.xPid ≤ 1 := fun e i h hi hh => by
      by_cases e2 : i = k.toNat
      · subst e2
        rw [hx] at hh
        cases hh
        exact e
      · exact hk i h (by omega) hh
    rcases h3 : ltI x.xP.xPid w.xNext with _ | _
    · refine ⟨.take 0 (.take 2 (.take 7 (.early 8 (.or 1 (.take 3 (.take 4 (.take 5 (.or 6 (.take 9 (.take 10 (.take 12 (.take 14 (.or 11 (.or 13 (.take 15 (.take 16 (.take 17 (.or 18 (.or 19 (.calm 20 (.calm 21 .done)) .nil) .nil)))) .nil) (.or 13 (.take 15 (.take 16 (.take 17 (.early 18 (.or 11 (.or 19 (.calm 20 (.calm 21 .done)) .nil) .nil))))) .nil)))))) .nil)))) .nil)))), by rfl, ?_⟩
      apply Exists.intro
      refine ⟨?_, ?_⟩
      · conv => whnf
        repeat' (first
          | (refine ⟨rfl, ?_⟩; conv => whnf)
          | (refine ⟨k0, _, hmC_at hx, ?_⟩; conv => whnf)
          | (rw [h3]; conv => whnf)
          | exact norm_wk (keep := [1, 2, 3, 38]) (kb := [1]) (ρ := []) rfl
          | (refine ⟨?_, ?_⟩ <;> conv => whnf)
          | fail)
      conv => whnf
      rw [ltI_f] at h3
      rw [wrp_i64 (x := k + 1) (by omega) (by omega)]
      exact ⟨w.xHomes.length - (k + 1).toNat, _, by omega, norm_wk (keep := [1, 2, 3]) (kb := [1]) (ρ := []) rfl, ⟨k + 1, rfl, rfl, by omega, by omega, nx fun e => absurd e (by omega)⟩⟩
    · refine ⟨.take 0 (.take 2 (.take 7 (.early 8 (.or 1 (.take 3 (.take 4 (.take 5 (.or 6 (.take 9 (.take 10 (.take 12 (.take 14 (.or 11 (.or 13 (.take 15 (.take 16 (.take 17 (.or 18 (.or 19 (.calm 20 (.calm 21 .done)) .nil) .nil)))) .nil) (.or 13 (.take 15 (.take 16 (.take 17 (.early 18 (.or 11 (.or 19 (.calm 20 (.calm 21 .done)) .nil) .nil))))) .nil)))))) .nil)))) .nil)))), by rfl, ?_⟩
      apply Exists.intro
      refine ⟨?_, ?_⟩
      · conv => whnf
        repeat' (first
          | (refine ⟨rfl, ?_⟩; conv => whnf)
          | (refine ⟨k0, _, hmC_at hx, ?_⟩; conv => whnf)
          | (rw [h3]; conv => whnf)
          | (refine (s_l15Many_ok w x.xP.xPid ho h1 hb).mono ?_; rintro _ _ ⟨rfl, rfl⟩; conv => whnf)
          | exact norm_wk (keep := [1, 2, 3, 38]) (kb := [1]) (ρ := []) rfl
          | (refine ⟨?_, ?_⟩ <;> conv => whnf)
          | fail)
      conv => whnf
      rw [ltI_t] at h3
      refine br_if (fun h4 => ?_) (fun h4 => ?_) <;> (try rw [h4]) <;> (conv => whnf)
      · rw [ltI_t] at h4
        refine bR_eq (clB_f.2 fun h => ?_).symm
        have := h.2 _ (pid_1 h1 hx) h3
        omega
      · rw [ltI_f] at h4
        rw [wrp_i64 (x := k + 1) (by omega) (by omega)]
        exact ⟨w.xHomes.length - (k + 1).toNat, _, by omega, norm_wk (keep := [1, 2, 3]) (kb := [1]) (ρ := []) rfl, ⟨k + 1, rfl, rfl, by omega, by omega, nx fun e => by omega⟩⟩
  rw [ltI_f] at h2
  have hH : ∀ p ∈ occ0 w, p < w.xNext → (occ w).count p ≤ 1 := fun p hp e => by
    obtain ⟨i, hi⟩ := List.getElem?_of_mem hp
    rw [occ0, List.getElem?_map] at hi
    cases hx : w.xHomes[i]? with
    | none => rw [hx] at hi; cases hi
    | some h =>
      rw [hx] at hi
      cases hi
      exact hk i h (by have := (List.getElem?_eq_some_iff.1 hx).1; omega) hx e
  refine ⟨fun m s => ∃ (k : Int), s = ⟨[(1, .bptr 1 0 0), (2, .vals false [.sc (.bool false)]), (4, .vals false [.sc (.int .i64 k)])], [(1, ⟨0, w.x⟩)], []⟩ ∧ m = w.xLinks.length - k.toNat ∧ 0 ≤ k ∧ k ≤ w.xLinks.length ∧ ∀ i : Nat, i < k.toNat → ∀ p ∈ occI w i, 1 ≤ p → p < w.xNext → (occ w).count p ≤ 1,
    ⟨_, _, norm_wk (keep := [1, 2, 4]) (kb := [1]) (ρ := []) rfl, ⟨0, rfl, rfl, by omega, by omega, fun i hi => absurd hi (by simp)⟩⟩, ?_⟩
  clear hk h2 k0 k1 k
  rintro m _ ⟨k, rfl, rfl, k0, k1, hk⟩
  conv => whnf
  rw [lkC_len]
  refine br_if (fun h2 => ?_) (fun h2 => ?_) <;> (try rw [h2]) <;> (conv => whnf)
  rotate_left
  · rw [ltI_f] at h2
    refine bR_eq (clB_t.2 ⟨h1, fun p e1 e2 => ?_⟩).symm
    by_cases hp : p ∈ occ w
    · rcases occ_mem hp with h | ⟨i, hi, h⟩
      · exact hH p h e2
      · exact hk i (by omega) p h e1 e2
    · rw [List.count_eq_zero.2 hp]
      omega
  rw [ltI_t] at h2
  obtain ⟨l, g, t, hl, hg, ht, lo, lg, lt⟩ := link_at h1 (i := k.toNat) (by omega)
  have lo1 := lo.1
  have lo2 := lo.2.1
  have gl := ssC_len g
  have gb := hb g (List.mem_of_getElem? hg)
  have ol := occI_len hl hg
  refine ⟨k0, _, lkC_at hl, ?_⟩
  conv => whnf
  refine ⟨fun m s => ∃ (j v : Int), s = ⟨[(1, .bptr 1 0 0), (2, .vals false [.sc (.bool false)]), (4, .vals false [.sc (.int .i64 k)]), (5, .vals false [.sc (.int .i64 j)])], [(1, ⟨0, w.x⟩)], []⟩ ∧ m = g.length - j.toNat ∧ l.xGot ≤ j ∧ j ≤ g.length ∧ ∀ p ∈ (occI w k.toNat).take (j - l.xGot).toNat, 1 ≤ p → p < w.xNext → (occ w).count p ≤ 1,
    ⟨_, _, norm_wk (keep := [1, 2, 4, 5]) (kb := [1]) (ρ := []) rfl, ⟨l.xGot, 0, rfl, rfl, by omega, by omega, by rw [Int.sub_self]; intro p hp; simp at hp⟩⟩, ?_⟩
  rintro m _ ⟨j, v, rfl, rfl, j0, j1, hj⟩
  conv => whnf
  refine ⟨k0, _, sssC_at hg, ?_⟩
  conv => whnf
  rw [gl]
  refine br_if (fun h3 => ?_) (fun h3 => ?_) <;> (try rw [h3]) <;> (conv => whnf)
  rotate_left
  · rw [ltI_f] at h3
    rw [List.take_of_length_le (by omega)] at hj
    rw [wrp_i64 (x := k + 1) (by omega) (by omega)]
    refine ⟨w.xLinks.length - (k + 1).toNat, _, by omega, norm_wk (keep := [1, 2, 4]) (kb := [1]) (ρ := []) rfl, ⟨k + 1, rfl, rfl, by omega, by omega, ?_⟩⟩
    intro i hi
    by_cases e : i = k.toNat
    · subst e
      exact hj
    · exact hk i (by omega)
  rw [ltI_t] at h3
  obtain ⟨x, hx⟩ : ∃ x, g[j.toNat]? = some x := ⟨_, List.getElem?_eq_getElem (by omega)⟩
  have j00 : 0 ≤ j := by omega
  have og := occI_get (n := (j - l.xGot).toNat) hl hg (by rw [← hx]; congr 1; omega)
  have nx : (1 ≤ movesI w.xCode x → movesI w.xCode x < w.xNext → (occ w).count (movesI w.xCode x) ≤ 1) → ∀ p ∈ (occI w k.toNat).take (j + 1 - l.xGot).toNat, 1 ≤ p → p < w.xNext → (occ w).count p ≤ 1 := fun e p hp => by
    rw [show (j + 1 - l.xGot).toNat = (j - l.xGot).toNat + 1 by omega, take_snoc og, List.mem_append, List.mem_singleton] at hp
    rcases hp with hp | rfl
    · exact hj p hp
    · exact e
  refine ⟨.take 1 (.take 3 (.take 6 (.or 0 (.or 2 (.take 4 (.or 5 (.take 7 (.or 8 (.or 9 (.take 10 .done) .nil) .nil)) .nil)) .nil) (.or 2 (.take 4 (.or 0 (.or 5 (.take 7 (.or 8 (.or 9 (.take 10 .done) .nil) .nil)) .nil) (.or 5 (.take 7 (.early 8 (.or 0 (.or 9 (.take 10 .done) .nil) .nil))) .nil))) .nil)))), by rfl, ?_⟩
  apply Exists.intro
  refine ⟨?_, ?_⟩
  · conv => whnf
    repeat' (first
      | (refine ⟨rfl, ?_⟩; conv => whnf)
      | (refine ⟨k0, _, sssC_at hg, ?_⟩; conv => whnf)
      | (refine ⟨j00, _, ssC_at hx, ?_⟩; conv => whnf)
      | (refine (s_l13Moves_ok w ho x (gb x (List.mem_of_getElem? hx))).mono ?_; rintro _ _ ⟨rfl, rfl⟩; conv => whnf)
      | exact norm_wk (keep := [1, 2, 4, 5, 6]) (kb := [1]) (ρ := []) rfl
      | (refine ⟨?_, ?_⟩ <;> conv => whnf)
      | fail)
  conv => whnf
  refine br_if (fun h4 => ?_) (fun h4 => ?_) <;> rw [h4] <;> (conv => whnf)
  rotate_left
  · rw [ltI_f] at h4
    rw [wrp_i64 (x := j + 1) (by omega) (by omega)]
    exact ⟨g.length - (j + 1).toNat, _, by omega, norm_wk (keep := [1, 2, 4, 5]) (kb := [1]) (ρ := []) rfl, ⟨j + 1, 0, rfl, rfl, by omega, by omega, nx fun e1 e2 => by omega⟩⟩
  refine br_if (fun h5 => ?_) (fun h5 => ?_) <;> rw [h5] <;> (conv => whnf)
  rotate_left
  · rw [ltI_f] at h5
    rw [wrp_i64 (x := j + 1) (by omega) (by omega)]
    exact ⟨g.length - (j + 1).toNat, _, by omega, norm_wk (keep := [1, 2, 4, 5]) (kb := [1]) (ρ := []) rfl, ⟨j + 1, 0, rfl, rfl, by omega, by omega, nx fun e1 e2 => by omega⟩⟩
  rw [ltI_t] at h4 h5
  refine (s_l15Many_ok w (movesI w.xCode x) ho h1 hb).mono ?_
  rintro _ _ ⟨rfl, rfl⟩
  conv => whnf
  refine br_if (fun h6 => ?_) (fun h6 => ?_) <;> (try rw [h6]) <;> (conv => whnf)
  · rw [ltI_t] at h6
    refine bR_eq (clB_f.2 fun h => ?_).symm
    have := h.2 _ (by omega) h5
    omega
  · rw [ltI_f] at h6
    rw [wrp_i64 (x := j + 1) (by omega) (by omega)]
    exact ⟨g.length - (j + 1).toNat, _, by omega, norm_wk (keep := [1, 2, 4, 5]) (kb := [1]) (ρ := []) rfl, ⟨j + 1, 0, rfl, rfl, by omega, by omega, nx fun e1 e2 => by omega⟩⟩

end Go.Proofs.YtcaonpncopfeoaaGreat.V
