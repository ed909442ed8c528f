/- keep, l7Keep; copyFrom, l7Copy. -/
import Derived.Test.YtcaonpncopfeoaaGreatQ13
set_option linter.unusedVariables false
set_option linter.unusedSimpArgs false
namespace Go.Proofs.YtcaonpncopfeoaaGreat.V
open Go

def MdE14 (f : Nat) : List Mode :=
  match f with
  | 369 => [.pp [true], .rd, .rd]
  | 370 => [.rd, .rd]
  | 373 => [.pp [true], .rd, .rd]
  | _ => []
def E14 : Env := ⟨τ, MdE14⟩
@[reducible] def pR (l : List DNode) : RV := ⟨true, [.own true 5 (npC l)]⟩

theorem flat_int (v : Int) : Flat 1 [[.sc (.int .i64 v)]] := flat1 .i64 v
theorem nnC_app (l : List Int) (y : Int) : nnC l ++ [[.sc (.int .i64 y)]] = nnC (l ++ [y]) := by
  rw [nnC, nnC, List.map_append]
  rfl
theorem nnC_at {l : List Int} {a : Int} (h0 : 0 ≤ a) (h1 : a < l.length) : (nnC l)[a.toNat]? = some [.sc (.int .i64 (kid l a))] := by
  have : l[a.toNat]? = some l[a.toNat] := List.getElem?_eq_getElem (by omega)
  rw [List.getElem?_map, kid, this]
  rfl
theorem keepR_d {l : List DNode} (hp : poolOk l = true) (roots : List Int) (hR : ∀ r ∈ roots, 0 ≤ r ∧ r < l.length) (d : Int) :
    roots.map (kid (mvS d (reachL l roots) l [] l.length).2) = keepR l roots := by
  refine List.map_congr_left fun r hr => ?_
  obtain ⟨h0, h1⟩ := hR r hr
  exact getD_same ((mvS_eq (pre := []) hp (reach_closed hp roots) d 0 l.length (Nat.le_refl _)).2 _ (by omega) (reachL_root hr h0 h1))
theorem keepN_d {l : List DNode} (hp : poolOk l = true) (roots : List Int) (d : Int) : (mvS d (reachL l roots) l [] l.length).1 = keepN l roots :=
  (mvS_eq (pre := []) hp (reach_closed hp roots) d 0 l.length (Nat.le_refl _)).1

set_option maxRecDepth 100000 in
set_option maxHeartbeats 1000000 in
theorem i_keep_ok (p : DPool) (roots : List Int) (hl : p.xNodes.length ≤ 400000) (hp : poolOk p.xNodes = true) (hr : roots.length ≤ 100000) (hR : ∀ r ∈ roots, Has p r) :
    FnV Tryz.prog 325 [pV p, nnV roots] fun rs outs => rs = [pR (keepN p.xNodes roots), nnR (keepR p.xNodes roots)] ∧ outs = [] := by
  refine fn_ok (E := E14) τ_ok mixed Tryz.func325 (by rfl) (by rfl) false (by simp [Tryz.f325]) ?_
  have hrl := nnC_len roots
  conv => whnf
  refine (i_moveIn_ok [] p roots (by decide) hl hp (by omega) hR).mono ?_
  rintro _ _ ⟨rfl, rfl⟩
  conv => whnf
  have hN := keepN_d hp roots (-1)
  have hK := keepR_d hp roots hR (-1)
  obtain ⟨l1, -, -⟩ := mvS_len (d := (-1)) (is := reachL p.xNodes roots) (q := p.xNodes) (pre := []) (k := p.xNodes.length) (Nat.le_refl _)
  rw [hN]
  generalize (mvS (-1) (reachL p.xNodes roots) p.xNodes [] p.xNodes.length).2 = at' at *
  refine ⟨fun m s => ∃ (k : Int), s = ⟨[(4, .bptr 4 0 0), (6, .bptr 6 0 0), (7, .vals false [.ref 100 0]), (8, .vals false [.ref 300 0]), (16, .vals false [.rd none 1 (nnC roots)]), (17, .vals false [.sc (.int .i64 roots.length)]), (18, .vals false [.sc (.int .i64 k)])], [(4, ⟨0, [.nil 5]⟩), (6, ⟨0, [.ref 200 0]⟩)],
      [(200, ⟨true, 0, 0, true, 5, npC (keepN p.xNodes roots)⟩), (100, ⟨true, 0, 0, true, 1, nnC at'⟩), (300, ⟨true, 0, 0, true, 1, nnC ((roots.take k.toNat).map (kid at'))⟩)]⟩ ∧ m = roots.length - k.toNat ∧ 0 ≤ k ∧ k ≤ roots.length,
    ⟨_, _, norm_wk (keep := [4, 6, 7, 8, 16, 17, 18]) (kb := [4, 6]) (ρ := [(5006000, some 200), (14, some 100), (15, some 300)]) rfl, ⟨0, by rw [nnC_len]; rfl, rfl, by omega, by omega⟩⟩, ?_⟩
  rintro m _ ⟨k, rfl, rfl, k0, k1⟩
  conv => whnf
  refine br_if (fun h => ?_) (fun h => ?_) <;> (try rw [h]) <;> (conv => whnf)
  · rw [ltI_t] at h
    try rw [hrl] at h
    obtain ⟨x, hx⟩ : ∃ x, roots[k.toNat]? = some x := ⟨_, List.getElem?_eq_getElem (by omega)⟩
    obtain ⟨x0, x1⟩ := hR x (List.mem_of_getElem? hx)
    refine ⟨k0, _, by rw [List.getElem?_map, hx]; rfl, ?_⟩
    conv => whnf
    refine ⟨x0, by show x < ((nnC at').length : Int); rw [nnC_len]; omega, ?_⟩
    conv => whnf
    refine ⟨_, nnC_at x0 (by omega), ?_⟩
    conv => whnf
    refine .inl ⟨flat_int _, ?_⟩
    conv => whnf
    refine ⟨?_, ?_⟩
    · show ((nnC ((roots.take k.toNat).map (kid at'))).length + 1) * d3.bytes ≤ 140737488355328
      rw [nnC_len, List.length_map, List.length_take]
      simp only [d3]
      omega
    conv => whnf
    rw [wrp_i64 (x := k + 1) (by omega) (by omega)]
    refine ⟨roots.length - (k + 1).toNat, _, by omega, norm_wk (keep := [4, 6, 7, 8, 16, 17, 18]) (kb := [4, 6]) (ρ := [(200, some 200), (100, some 100), (28, some 300)]) rfl, ⟨k + 1, ?_, rfl, by omega, by omega⟩⟩
    rw [show (k + 1).toNat = k.toNat + 1 by omega, List.take_add_one, hx, List.map_append, show (some x).toList.map (kid at') = [kid at' x] from rfl, ← nnC_app]
    rfl
  · rw [ltI_f] at h
    try rw [hrl] at h
    rw [List.take_of_length_le (by omega), hK]
    exact ⟨rfl, rfl⟩

set_option maxRecDepth 100000 in
set_option maxHeartbeats 1000000 in
theorem s_l7Keep_ok (p : DPool) (roots : List Int) (hl : p.xNodes.length ≤ 400000) (hp : poolOk p.xNodes = true) (hr : roots.length ≤ 100000) (hR : ∀ r ∈ roots, Has p r) :
    FnV Tryz.prog 322 [pV p, nnV roots] fun rs outs => rs = [pR (keepN p.xNodes roots), nnR (keepR p.xNodes roots)] ∧ outs = [] := by
  refine fn_ok (E := E14) τ_ok mixed Tryz.func322 (by rfl) (by rfl) false (by simp [Tryz.f322]) ?_
  have hrl := nnC_len roots
  conv => whnf
  refine ⟨.take 2 (.or 0 (.or 1 (.or 3 (.or 4 (.take 5 .done) .nil) .nil) .nil) (.or 1 (.or 0 (.or 3 (.or 4 (.take 5 .done) .nil) .nil) (.or 3 (.or 0 (.or 4 (.take 5 .done) .nil) .nil) .nil)) .nil)), by rfl, ?_⟩
  apply Exists.intro
  refine ⟨?_, ?_⟩
  · conv => whnf
    repeat' (first
      | (refine (s_l7Reach_ok p roots (by omega) hp (by omega) hR).mono ?_; rintro _ _ ⟨rfl, rfl⟩; conv => whnf)
      | (refine (s_l7Into_ok [] p (reachL p.xNodes roots) (by decide) hl hp (reachL_len _ _)).mono ?_; rintro _ _ ⟨rfl, rfl⟩; conv => whnf)
      | exact norm_wk (keep := [1, 4, 6, 7]) (kb := [4, 6]) (ρ := [(5006000, some 200), (15, some 100)]) rfl
      | (refine ⟨?_, ?_⟩ <;> conv => whnf)
      | fail)
  conv => whnf
  have hN := keepN_d hp roots 0
  have hK := keepR_d hp roots hR 0
  obtain ⟨l1, -, -⟩ := mvS_len (d := 0) (is := reachL p.xNodes roots) (q := p.xNodes) (pre := []) (k := p.xNodes.length) (Nat.le_refl _)
  rw [hN]
  generalize (mvS 0 (reachL p.xNodes roots) p.xNodes [] p.xNodes.length).2 = at' at *
  refine ⟨fun m s => ∃ (k : Int), s = ⟨[(1, .vals false [.rd none 1 (nnC roots)]), (4, .bptr 4 0 0), (6, .bptr 6 0 0), (7, .vals false [.ref 100 0]), (8, .vals false [.ref 300 0]), (9, .vals false [.sc (.int .i64 k)])], [(4, ⟨0, [.nil 5]⟩), (6, ⟨0, [.ref 200 0]⟩)],
      [(200, ⟨true, 0, 0, true, 5, npC (keepN p.xNodes roots)⟩), (100, ⟨true, 0, 0, true, 1, nnC at'⟩), (300, ⟨true, 0, 0, true, 1, nnC ((roots.take k.toNat).map (kid at'))⟩)]⟩ ∧ m = roots.length - k.toNat ∧ 0 ≤ k ∧ k ≤ roots.length,
    ⟨_, _, norm_wk (keep := [1, 4, 6, 7, 8, 9]) (kb := [4, 6]) (ρ := [(200, some 200), (100, some 100), (16, some 300)]) rfl, ⟨0, rfl, rfl, by omega, by omega⟩⟩, ?_⟩
  rintro m _ ⟨k, rfl, rfl, k0, k1⟩
  conv => whnf
  refine br_if (fun h => ?_) (fun h => ?_) <;> (try rw [h]) <;> (conv => whnf)
  · rw [ltI_t] at h
    try rw [hrl] at h
    obtain ⟨x, hx⟩ : ∃ x, roots[k.toNat]? = some x := ⟨_, List.getElem?_eq_getElem (by omega)⟩
    obtain ⟨x0, x1⟩ := hR x (List.mem_of_getElem? hx)
    refine ⟨k0, _, by rw [List.getElem?_map, hx]; rfl, ?_⟩
    conv => whnf
    refine ⟨x0, by show x < ((nnC at').length : Int); rw [nnC_len]; omega, ?_⟩
    conv => whnf
    refine ⟨_, nnC_at x0 (by omega), ?_⟩
    conv => whnf
    refine .inl ⟨flat_int _, ?_⟩
    conv => whnf
    refine ⟨?_, ?_⟩
    · show ((nnC ((roots.take k.toNat).map (kid at'))).length + 1) * d3.bytes ≤ 140737488355328
      rw [nnC_len, List.length_map, List.length_take]
      simp only [d3]
      omega
    conv => whnf
    rw [wrp_i64 (x := k + 1) (by omega) (by omega)]
    refine ⟨roots.length - (k + 1).toNat, _, by omega, norm_wk (keep := [1, 4, 6, 7, 8, 9]) (kb := [4, 6]) (ρ := [(200, some 200), (100, some 100), (32, some 300)]) rfl, ⟨k + 1, ?_, rfl, by omega, by omega⟩⟩
    rw [show (k + 1).toNat = k.toNat + 1 by omega, List.take_add_one, hx, List.map_append, show (some x).toList.map (kid at') = [kid at' x] from rfl, ← nnC_app]
    rfl
  · rw [ltI_f] at h
    try rw [hrl] at h
    rw [List.take_of_length_le (by omega), hK]
    exact ⟨rfl, rfl⟩

end Go.Proofs.YtcaonpncopfeoaaGreat.V
