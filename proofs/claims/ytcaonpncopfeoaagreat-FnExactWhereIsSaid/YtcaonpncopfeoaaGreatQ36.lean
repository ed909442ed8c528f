/- WhereIs. -/
import Derived.Test.YtcaonpncopfeoaaGreatQ35
set_option linter.unusedVariables false
set_option linter.unusedSimpArgs false
namespace Go.Proofs.YtcaonpncopfeoaaGreat.V
open Go

def MdE36 (f : Nat) : List Mode :=
  match f with
  | 144 => [.rd, .rd]
  | 145 => [.rd, .rd]
  | 148 => [.rd, .rd]
  | 149 => [.rd, .rd]
  | 150 => [.mptr, .rd]
  | 152 => [.mptr, .rd]
  | _ => []
def E36 : Env := ⟨τ, MdE36⟩

theorem hmC_at {l : List DHome} {k : Nat} {x : DHome} (h : l[k]? = some x) : (l.map DHome.c)[k]? = some x.c := by rw [List.getElem?_map, h]; rfl
theorem hmC_len (l : List DHome) : (l.map DHome.c).length = l.length := List.length_map ..
theorem hIx_at {w : DWorld} {pid : Int} (h : 0 ≤ hIx w pid) : ∃ x, w.xHomes[(hIx w pid).toNat]? = some x := by
  rcases fidx_ge (fun x : DHome => pidP pid x) w.xHomes 0 (by omega) with ⟨e, -⟩ | ⟨-, -, -, x, hx, -⟩
  · unfold hIx at h
    omega
  · rw [Int.sub_zero] at hx
    exact ⟨x, hx⟩
set_option maxRecDepth 100000 in
set_option maxHeartbeats 1000000 in
theorem s_WhereIs_ok (w : DWorld) (pid : Int) (ho : w.ok) (hb : ∀ g ∈ w.xGave, ∀ s ∈ g, s.size ≤ 2000000) : FnV Tryz.prog 44 [wV w, iV pid] fun rs outs => rs = [iR (whI w pid)] ∧ outs = [] := by
  refine fn_ok (E := E36) τ_ok mixed Tryz.func44 (by rfl) (by rfl) false (by simp [Tryz.f44]) ?_
  conv => whnf
  have oh := ho.2.2.1.1
  have ol := ho.2.2.2.1.1
  have og := ho.2.2.2.2.2.2.2.1
  refine (s_HomeOf_ok w pid ho).mono ?_
  rintro _ _ ⟨rfl, rfl⟩
  conv => whnf
  refine br_if (fun h1 => ?_) (fun h1 => ?_) <;> (try rw [h1]) <;> (conv => whnf)
  · rw [leI_t] at h1
    obtain ⟨x, hx⟩ := hIx_at h1
    refine ⟨h1, _, hmC_at hx, ?_⟩
    conv => whnf
    exact iR_eq (wh_home h1 hx).symm rfl
  rw [leI_f] at h1
  refine ⟨fun m s => ∃ (k : Int), s = ⟨[(1, .vals false [.sc (.int .i64 pid)]), (2, .bptr 2 0 0), (4, .vals false [.sc (.int .i64 0)]), (6, .vals false [.sc (.int .i64 k)])], [(2, ⟨0, w.x⟩)], []⟩ ∧ m = w.xLinks.length - k.toNat ∧ 0 ≤ k ∧ k ≤ w.xLinks.length ∧ (k = 0 ∨ 0 < w.xPlaces) ∧ NoHit w pid k.toNat 0,
    ⟨_, _, norm_wk (keep := [1, 2, 4, 6]) (kb := [2]) (ρ := []) rfl, ⟨0, rfl, rfl, by omega, by omega, .inl rfl, NoHit.start⟩⟩, ?_⟩
  rintro m _ ⟨k, rfl, rfl, k0, k1, kp, hk⟩
  conv => whnf
  rw [lkC_len]
  refine br_if (fun h2 => ?_) (fun h2 => ?_) <;> rw [h2] <;> (conv => whnf)
  rotate_left
  · rw [ltI_f] at h2
    exact iR_eq (wh_no h1 (.inr (hk.all (.inl (by omega))))).symm rfl
  rw [sssC_len]
  refine br_if (fun h3 => ?_) (fun h3 => ?_) <;> rw [h3] <;> (conv => whnf)
  rotate_left
  · rw [ltI_f] at h3
    exact iR_eq (wh_no h1 (.inr (hk.all (.inr (by omega))))).symm rfl
  refine br_if (fun h4 => ?_) (fun h4 => ?_) <;> rw [h4] <;> (conv => whnf)
  rotate_left
  · rw [ltI_f] at h4
    exact iR_eq (wh_no h1 (.inl (by omega))).symm rfl
  rw [ltI_t] at h2 h3 h4
  obtain ⟨l, hl⟩ : ∃ x, w.xLinks[k.toNat]? = some x := ⟨_, List.getElem?_eq_getElem (by omega)⟩
  obtain ⟨g, hg⟩ : ∃ x, w.xGave[k.toNat]? = some x := ⟨_, List.getElem?_eq_getElem (by omega)⟩
  have gl := ssC_len g
  have gb := hb g (List.mem_of_getElem? hg)
  have glen := (og.2 g (List.mem_of_getElem? hg)).1
  refine ⟨k0, _, lkC_at hl, ?_⟩
  conv => whnf
  refine (s_l1Max_ok l.xGot 0).mono ?_
  rintro _ _ ⟨rfl, rfl⟩
  conv => whnf
  have hm := maxI_0 l.xGot
  refine ⟨fun m s => ∃ (j : Int), s = ⟨[(1, .vals false [.sc (.int .i64 pid)]), (2, .bptr 2 0 0), (4, .vals false [.sc (.int .i64 0)]), (6, .vals false [.sc (.int .i64 k)]), (7, .vals false [.sc (.int .i64 j)])], [(2, ⟨0, w.x⟩)], []⟩ ∧ m = g.length - j.toNat ∧ 0 ≤ j ∧ l.xGot ≤ j ∧ NoHit w pid k.toNat j.toNat,
    ⟨_, _, norm_wk (keep := [1, 2, 4, 6, 7]) (kb := [2]) (ρ := []) rfl, ⟨maxI 0 l.xGot, rfl, rfl, hm.1, hm.2.1, hk.skip hl (by omega)⟩⟩, ?_⟩
  rintro m _ ⟨j, rfl, rfl, j0, j1, hj⟩
  conv => whnf
  refine ⟨k0, _, sssC_at hg, ?_⟩
  conv => whnf
  rw [gl]
  refine br_if (fun h5 => ?_) (fun h5 => ?_) <;> (try rw [h5]) <;> (conv => whnf)
  · rw [ltI_t] at h5
    obtain ⟨x, hx⟩ : ∃ x, g[j.toNat]? = some x := ⟨_, List.getElem?_eq_getElem (by omega)⟩
    have hit : Hit w pid k.toNat j.toNat ↔ (0 < pid ∧ movesI w.xCode x = pid) := by
      constructor
      · rintro ⟨a, l', g', s, e1, e2, e3, e4, e5⟩
        rw [hg] at e2
        cases e2
        rw [hx] at e3
        cases e3
        exact ⟨a, e5⟩
      · rintro ⟨a, b⟩
        exact ⟨a, l, g, x, hl, hg, hx, by omega, b⟩
    rcases h6 : ltI 0 pid with _ | _
    rotate_left
    · refine ⟨.take 0 (.take 1 (.take 2 (.take 4 (.take 6 (.take 9 (.take 13 (.or 3 (.or 5 (.take 7 (.or 8 (.take 10 (.or 11 (.or 12 (.calm 14 (.calm 15 .done)) .nil) .nil)) .nil)) .nil) (.or 5 (.take 7 (.or 3 (.or 8 (.take 10 (.or 11 (.or 12 (.calm 14 (.calm 15 .done)) .nil) .nil)) .nil) (.or 8 (.take 10 (.early 11 (.or 3 (.or 12 (.calm 14 (.calm 15 .done)) .nil) .nil))) .nil))) .nil)))))))), by rfl, ?_⟩
      apply Exists.intro
      refine ⟨?_, ?_⟩
      · conv => whnf
        rw [h6]
        conv => whnf
        repeat' (first
          | (refine ⟨rfl, ?_⟩; conv => whnf)
          | (refine ⟨k0, _, sssC_at hg, ?_⟩; conv => whnf)
          | (refine ⟨j0, _, ssC_at hx, ?_⟩; conv => whnf)
          | (refine (s_l13Moves_ok w ho x (gb x (List.mem_of_getElem? hx))).mono ?_; rintro _ _ ⟨rfl, rfl⟩; conv => whnf)
          | exact norm_wk (keep := [1, 2, 4, 6, 7, 70]) (kb := [2]) (ρ := []) rfl
          | (refine ⟨?_, ?_⟩ <;> conv => whnf)
          | fail)
      conv => whnf
      refine br_if (fun h7 => ?_) (fun h7 => ?_) <;> (try rw [h7]) <;> (conv => whnf)
      · rw [ltI_t] at h6
        rw [eqI_t] at h7
        have hf := hj.fst (hit.2 ⟨h6, h7⟩)
        refine ⟨by omega, ?_⟩
        conv => whnf
        exact iR_eq ((wh_way h1 h4 hf).trans (by rw [Int.toNat_of_nonneg k0])).symm rfl
      · rw [eqI_f] at h7
        rw [wrp_i64 (x := j + 1) (by omega) (by omega)]
        refine ⟨g.length - (j + 1).toNat, _, by omega, norm_wk (keep := [1, 2, 4, 6, 7]) (kb := [2]) (ρ := []) rfl, ⟨j + 1, rfl, rfl, by omega, by omega, ?_⟩⟩
        rw [show (j + 1).toNat = j.toNat + 1 by omega]
        exact hj.step fun e => h7 (hit.1 e).2
    · refine ⟨.take 0 (.take 1 (.take 2 (.take 4 (.take 6 (.take 9 (.take 13 (.or 3 (.or 5 (.take 7 (.or 8 (.take 10 (.or 11 (.or 12 (.calm 14 (.calm 15 .done)) .nil) .nil)) .nil)) .nil) (.or 5 (.take 7 (.or 3 (.or 8 (.take 10 (.or 11 (.or 12 (.calm 14 (.calm 15 .done)) .nil) .nil)) .nil) (.or 8 (.take 10 (.early 11 (.or 3 (.or 12 (.calm 14 (.calm 15 .done)) .nil) .nil))) .nil))) .nil)))))))), by rfl, ?_⟩
      apply Exists.intro
      refine ⟨?_, ?_⟩
      · conv => whnf
        rw [h6]
        conv => whnf
        repeat' (first
          | (refine ⟨rfl, ?_⟩; conv => whnf)
          | exact norm_wk (keep := [1, 2, 4, 6, 7, 70]) (kb := [2]) (ρ := []) rfl
          | (refine ⟨?_, ?_⟩ <;> conv => whnf)
          | fail)
      conv => whnf
      rw [ltI_f] at h6
      rw [wrp_i64 (x := j + 1) (by omega) (by omega)]
      refine ⟨g.length - (j + 1).toNat, _, by omega, norm_wk (keep := [1, 2, 4, 6, 7]) (kb := [2]) (ρ := []) rfl, ⟨j + 1, rfl, rfl, by omega, by omega, ?_⟩⟩
      rw [show (j + 1).toNat = j.toNat + 1 by omega]
      exact hj.step fun e => absurd (hit.1 e).1 (by omega)
  · rw [ltI_f] at h5
    rw [wrp_i64 (x := k + 1) (by omega) (by omega)]
    refine ⟨w.xLinks.length - (k + 1).toNat, _, by omega, norm_wk (keep := [1, 2, 4, 6]) (kb := [2]) (ρ := []) rfl, ⟨k + 1, rfl, rfl, by omega, by omega, .inr h4, ?_⟩⟩
    rw [show (k + 1).toNat = k.toNat + 1 by omega]
    exact hj.next hg (by omega)

def WayE (w : DWorld) (pid : Int) (o : List Int) : Prop := match o with | [] => ∀ i k, ¬ Hit w pid i k | x :: _ => ∃ i : Nat, x = i ∧ FstI w pid i
def WayI (w : DWorld) (pid : Int) (o : List Int) (i k : Nat) : Prop := match o with | [] => NoHit w pid i k | x :: _ => ∃ i : Nat, x = i ∧ FstI w pid i
theorem WayI.fin {w : DWorld} {pid : Int} {o : List Int} {i : Nat} (h : WayI w pid o i 0) (hi : w.xLinks.length ≤ i ∨ w.xGave.length ≤ i) : WayE w pid o := by
  cases o with
  | nil => exact NoHit.all h hi
  | cons x o => exact h
theorem WayI.mono {w : DWorld} {pid : Int} {o : List Int} {i k j n : Nat} (h : WayI w pid o i k) (hi : NoHit w pid i k → NoHit w pid j n) : WayI w pid o j n := by
  cases o with
  | nil => exact hi h
  | cons x o => exact h
theorem WayI.hit {w : DWorld} {pid : Int} {o : List Int} {i k j n : Nat} (h : WayI w pid o i k) (hi : Hit w pid i k) : WayI w pid (o ++ [(i : Int)]) j n := by
  cases o with
  | nil => exact ⟨i, rfl, NoHit.fst h hi⟩
  | cons x o => exact h
theorem nnC_snoc (o : List Int) (x : Int) : nnC o ++ [[.sc (.int .i64 x)]] = nnC (o ++ [x]) := by rw [nnC, nnC, List.map_append]; rfl

set_option maxRecDepth 100000 in
set_option maxHeartbeats 1000000 in
theorem i_onWay_ok (w : DWorld) (pid : Int) (ho : w.ok) (hb : ∀ g ∈ w.xGave, ∀ s ∈ g, s.size ≤ 2000000) (hG : w.xGave.length ≤ 1048576 ∧ ∀ g ∈ w.xGave, g.length ≤ 1048576) : FnV Tryz.prog 150 [.mptr none (wC w), iV pid] fun rs outs => ∃ o : List Int, o.length ≤ 9223372036854775807 ∧ WayE w pid o ∧ rs = [⟨false, [.own true 1 (nnC o)]⟩] ∧ outs = [wC w] := by
  refine fn_ok (E := E36) τ_ok mixed Tryz.func150 (by rfl) (by rfl) false (by simp [Tryz.f150]) ?_
  conv => whnf
  have ol := ho.2.2.2.1.1
  have og := ho.2.2.2.2.2.2.2.1
  rw [lkC_len]
  refine ⟨fun m s => ∃ (k : Int) (o : List Int), s = ⟨[(0, .bptr 1000000 0 0), (1, .vals false [.sc (.int .i64 pid)]), (4, .vals false [.nil 1]), (5, .vals false [.ref 100 0]), (14, .vals false [.rd none 5 (w.xLinks.map DLink.c)]), (15, .vals false [.sc (.int .i64 w.xLinks.length)]), (16, .vals false [.sc (.int .i64 k)])], [(1000000, ⟨0, w.x⟩)], [(100, ⟨true, 0, 0, true, 1, nnC o⟩)]⟩ ∧ m = w.xLinks.length - k.toNat ∧ 0 ≤ k ∧ k ≤ w.xLinks.length ∧ k ≤ 1048576 ∧ (o.length : Int) ≤ k * 1048576 ∧ WayI w pid o k.toNat 0,
    ⟨_, _, norm_wk (keep := [0, 1, 4, 5, 14, 15, 16]) (kb := [1000000]) (ρ := [(10, some 100)]) rfl, ⟨0, [], rfl, rfl, by omega, by omega, by omega, by simp, NoHit.start⟩⟩, ?_⟩
  rintro m _ ⟨k, o, rfl, rfl, k0, k1, k2, ho2, hk⟩
  conv => whnf
  refine br_if (fun h1 => ?_) (fun h1 => ?_) <;> (try rw [h1]) <;> (conv => whnf)
  rotate_left
  · rw [ltI_f] at h1
    exact ⟨o, by omega, hk.fin (.inl (by omega)), rfl, rfl⟩
  rw [ltI_t] at h1
  obtain ⟨l, hl⟩ : ∃ x, w.xLinks[k.toNat]? = some x := ⟨_, List.getElem?_eq_getElem (by omega)⟩
  refine ⟨k0, _, lkC_at hl, ?_⟩
  conv => whnf
  rw [sssC_len]
  refine br_if (fun h2 => ?_) (fun h2 => ?_) <;> (try rw [h2]) <;> (conv => whnf)
  · rw [leI_t] at h2
    exact ⟨o, by omega, hk.fin (.inr (by omega)), rfl, rfl⟩
  rw [leI_f] at h2
  obtain ⟨g, hg⟩ : ∃ x, w.xGave[k.toNat]? = some x := ⟨_, List.getElem?_eq_getElem (by omega)⟩
  have gl := ssC_len g
  have gb := hb g (List.mem_of_getElem? hg)
  have glen := hG.2 g (List.mem_of_getElem? hg)
  have hm0 := maxI_0 (minI l.xGot (ssC g).length)
  have hm1 := minI_c l.xGot (ssC g).length
  obtain ⟨M, hM⟩ : ∃ M, maxI 0 (minI l.xGot (ssC g).length) = M := ⟨_, rfl⟩
  rw [hM] at hm0
  have hM' : (if true = true then maxI 0 (if false = true then maxI l.xGot ↑(ssC g).length else minI l.xGot ↑(ssC g).length) else minI 0 (if false = true then maxI l.xGot ↑(ssC g).length else minI l.xGot ↑(ssC g).length)) = M := hM
  have eM : ((ssC g).take (((ssC g).length : Nat) : Int).toNat).drop M.toNat = ssC (g.drop M.toNat) := by
    rw [Int.toNat_natCast, List.take_length, ssC, ssC, List.map_drop]
  refine ⟨.take 0 (.take 1 (.take 2 (.take 4 (.take 7 (.take 9 (.take 10 (.take 11 (.take 13 (.take 21 (.early 8 (.or 3 (.take 5 (.or 6 (.or 12 (.take 14 (.or 15 (.take 16 (.or 17 (.or 18 (.or 19 (.take 20 .done) .nil) .nil) .nil)) .nil)) .nil) (.or 12 (.take 14 (.or 6 (.or 15 (.take 16 (.or 17 (.or 18 (.or 19 (.take 20 .done) .nil) .nil) .nil)) .nil) (.or 15 (.take 16 (.or 6 (.or 17 (.or 18 (.or 19 (.take 20 .done) .nil) .nil) .nil) (.or 17 (.or 6 (.or 18 (.or 19 (.take 20 .done) .nil) .nil) (.or 18 (.or 6 (.or 19 (.take 20 .done) .nil) .nil) .nil)) .nil))) .nil))) .nil))) (.or 12 (.take 14 (.or 3 (.take 5 (.or 6 (.or 15 (.take 16 (.or 17 (.or 18 (.or 19 (.take 20 .done) .nil) .nil) .nil)) .nil) (.or 15 (.take 16 (.or 6 (.or 17 (.or 18 (.or 19 (.take 20 .done) .nil) .nil) .nil) (.or 17 (.or 6 (.or 18 (.or 19 (.take 20 .done) .nil) .nil) (.or 18 (.or 6 (.or 19 (.take 20 .done) .nil) .nil) .nil)) .nil))) .nil))) (.or 15 (.take 16 (.or 3 (.take 5 (.or 6 (.or 17 (.or 18 (.or 19 (.take 20 .done) .nil) .nil) .nil) (.or 17 (.or 6 (.or 18 (.or 19 (.take 20 .done) .nil) .nil) (.or 18 (.or 6 (.or 19 (.take 20 .done) .nil) .nil) .nil)) .nil))) (.or 17 (.or 3 (.take 5 (.or 6 (.or 18 (.or 19 (.take 20 .done) .nil) .nil) (.or 18 (.or 6 (.or 19 (.take 20 .done) .nil) .nil) .nil))) (.or 18 (.or 3 (.take 5 (.or 6 (.or 19 (.take 20 .done) .nil) .nil)) .nil) .nil)) .nil))) .nil))) .nil)))))))))))), by rfl, ?_⟩
  apply Exists.intro
  refine ⟨?_, ?_⟩
  · conv => whnf
    repeat' (first
      | (refine ⟨rfl, ?_⟩; conv => whnf)
      | (refine ⟨k0, _, sssC_at hg, ?_⟩; conv => whnf)
      | (rw [hM']; refine ⟨by omega, by omega, by omega, ?_⟩; conv => whnf)
      | (rw [eM]; exact norm_wk (keep := [0, 1, 4, 5, 14, 15, 16, 6, 47, 48, 49]) (kb := [1000000]) (ρ := [(100, some 100)]) rfl)
      | (refine ⟨?_, ?_⟩ <;> conv => whnf)
      | fail)
  conv => whnf
  rw [ssC_len, List.length_drop]
  refine ⟨fun m s => ∃ (j : Int) (o : List Int), s = ⟨[(0, .bptr 1000000 0 0), (1, .vals false [.sc (.int .i64 pid)]), (4, .vals false [.nil 1]), (5, .vals false [.ref 100 0]), (14, .vals false [.rd none 5 (w.xLinks.map DLink.c)]), (15, .vals false [.sc (.int .i64 w.xLinks.length)]), (16, .vals false [.sc (.int .i64 k)]), (6, .vals false [.sc (.int .i64 k)]), (47, .vals false [.rd none 1 (ssC (g.drop M.toNat))]), (48, .vals false [.sc (.int .i64 (g.length - M.toNat : Nat))]), (49, .vals false [.sc (.int .i64 j)])], [(1000000, ⟨0, w.x⟩)], [(100, ⟨true, 0, 0, true, 1, nnC o⟩)]⟩ ∧ m = g.length - M.toNat - j.toNat ∧ 0 ≤ j ∧ j ≤ (g.length - M.toNat : Nat) ∧ (o.length : Int) ≤ k * 1048576 + j ∧ WayI w pid o k.toNat (M.toNat + j.toNat),
    ⟨_, _, norm_wk (keep := [0, 1, 4, 5, 14, 15, 16, 6, 47, 48, 49]) (kb := [1000000]) (ρ := [(100, some 100)]) rfl, ⟨0, o, rfl, rfl, by omega, by omega, by omega, hk.mono fun h => h.skip hl (by omega)⟩⟩, ?_⟩
  clear hk ho2 o
  rintro m _ ⟨j, o, rfl, rfl, j0, j1, ho2, hk⟩
  conv => whnf
  refine br_if (fun h3 => ?_) (fun h3 => ?_) <;> (try rw [h3]) <;> (conv => whnf)
  rotate_left
  · rw [ltI_f] at h3
    rw [wrp_i64 (x := k + 1) (by omega) (by omega)]
    refine ⟨w.xLinks.length - (k + 1).toNat, _, by omega, norm_wk (keep := [0, 1, 4, 5, 14, 15, 16]) (kb := [1000000]) (ρ := [(100, some 100)]) rfl, ⟨k + 1, o, rfl, rfl, by omega, by omega, by omega, by omega, ?_⟩⟩
    rw [show (k + 1).toNat = k.toNat + 1 by omega]
    exact hk.mono fun h => h.next hg (by omega)
  rw [ltI_t] at h3
  obtain ⟨x, hx⟩ : ∃ x, g[M.toNat + j.toNat]? = some x := ⟨_, List.getElem?_eq_getElem (by omega)⟩
  have hx' : (g.drop M.toNat)[j.toNat]? = some x := by rw [List.getElem?_drop, hx]
  have hit : Hit w pid k.toNat (M.toNat + j.toNat) ↔ (0 < pid ∧ movesI w.xCode x = pid) := by
    constructor
    · rintro ⟨a, l', g', s, e1, e2, e3, e4, e5⟩
      rw [hg] at e2
      cases e2
      rw [hx] at e3
      cases e3
      exact ⟨a, e5⟩
    · rintro ⟨a, b⟩
      exact ⟨a, l, g, x, hl, hg, hx, by omega, b⟩
  refine ⟨j0, _, ssC_at hx', ?_⟩
  conv => whnf
  have ek : (j + 1).toNat = j.toNat + 1 := by omega
  have wj : wrp .i64 (j + 1) = j + 1 := wrp_i64 (by omega) (by omega)
  have nx : ∀ {o' : List Int}, WayI w pid o' k.toNat (M.toNat + j.toNat + 1) → WayI w pid o' k.toNat (M.toNat + (j + 1).toNat) := fun h => by rw [ek, ← Nat.add_assoc]; exact h
  refine br_if (fun h4 => ?_) (fun h4 => ?_) <;> (try rw [h4]) <;> (conv => whnf)
  · refine (i_moved_ok w ho x (gb x (List.mem_of_getElem? hx))).mono ?_
    rintro _ _ ⟨rfl, rfl⟩
    conv => whnf
    refine br_if (fun h5 => ?_) (fun h5 => ?_) <;> (try rw [h5]) <;> (conv => whnf)
    · rw [ltI_t] at h4
      rw [eqI_t] at h5
      refine .inl ⟨flat1 .i64 k, ?_⟩
      conv => whnf
      have cl : (nnC o).length = o.length := List.length_map ..
      have cs : nnC o ++ chunk d3.size 1 [C.sc (Value.int IntKind.i64 k)] = nnC (o ++ [k]) := nnC_snoc o k
      refine ⟨show ((nnC o).length + 1) * 8 ≤ 140737488355328 by omega, ?_⟩
      rw [cs]
      conv => whnf
      rw [wj]
      refine ⟨g.length - M.toNat - (j + 1).toNat, _, by omega, norm_wk (keep := [0, 1, 4, 5, 14, 15, 16, 6, 47, 48, 49]) (kb := [1000000]) (ρ := [(65, some 100)]) rfl, ⟨j + 1, o ++ [k], rfl, rfl, by omega, by omega, by rw [List.length_append, List.length_singleton]; omega, ?_⟩⟩
      have := WayI.hit (j := k.toNat) (n := M.toNat + (j + 1).toNat) hk (hit.2 ⟨h4, h5⟩)
      rw [Int.toNat_of_nonneg k0] at this
      exact this
    · rw [eqI_f] at h5
      rw [wj]
      exact ⟨g.length - M.toNat - (j + 1).toNat, _, by omega, norm_wk (keep := [0, 1, 4, 5, 14, 15, 16, 6, 47, 48, 49]) (kb := [1000000]) (ρ := [(100, some 100)]) rfl, ⟨j + 1, o, rfl, rfl, by omega, by omega, by omega, nx (hk.mono fun h => h.step fun e => h5 (hit.1 e).2)⟩⟩
  · rw [ltI_f] at h4
    rw [wj]
    exact ⟨g.length - M.toNat - (j + 1).toNat, _, by omega, norm_wk (keep := [0, 1, 4, 5, 14, 15, 16, 6, 47, 48, 49]) (kb := [1000000]) (ρ := [(100, some 100)]) rfl, ⟨j + 1, o, rfl, rfl, by omega, by omega, by omega, nx (hk.mono fun h => h.step fun e => absurd (hit.1 e).1 (by omega))⟩⟩

set_option maxRecDepth 100000 in
set_option maxHeartbeats 1000000 in
theorem i_WhereIs_ok (w : DWorld) (pid : Int) (ho : w.ok) (hb : ∀ g ∈ w.xGave, ∀ s ∈ g, s.size ≤ 2000000) (hG : w.xGave.length ≤ 1048576 ∧ ∀ g ∈ w.xGave, g.length ≤ 1048576) : FnV Tryz.prog 45 [wV w, iV pid] fun rs outs => rs = [iR (whI w pid)] ∧ outs = [] := by
  refine fn_ok (E := E36) τ_ok mixed Tryz.func45 (by rfl) (by rfl) false (by simp [Tryz.f45]) ?_
  conv => whnf
  refine (i_HomeOf_ok w pid ho).mono ?_
  rintro _ _ ⟨rfl, rfl⟩
  conv => whnf
  refine br_if (fun h1 => ?_) (fun h1 => ?_) <;> (try rw [h1]) <;> (conv => whnf)
  · rw [leI_t] at h1
    obtain ⟨x, hx⟩ := hIx_at h1
    refine ⟨h1, _, hmC_at hx, ?_⟩
    conv => whnf
    exact iR_eq (wh_home h1 hx).symm rfl
  rw [leI_f] at h1
  refine (i_onWay_ok w pid ho hb hG).mono ?_
  rintro _ _ ⟨o, ol, hE, rfl, rfl⟩
  conv => whnf
  have cl : (nnC o).length = o.length := List.length_map ..
  refine br_if (fun h2 => ?_) (fun h2 => ?_) <;> rw [h2] <;> (conv => whnf)
  rotate_left
  · rw [ltI_f] at h2
    have h2' : ((nnC o).length : Int) ≤ 0 := h2
    obtain rfl : o = [] := List.length_eq_zero_iff.1 (by omega)
    exact iR_eq (wh_no h1 (.inr hE)).symm rfl
  refine br_if (fun h3 => ?_) (fun h3 => ?_) <;> rw [h3] <;> (conv => whnf)
  rotate_left
  · rw [ltI_f] at h3
    exact iR_eq (wh_no h1 (.inl (by omega))).symm rfl
  rw [ltI_t] at h2 h3
  have h2' : (0 : Int) < (nnC o).length := h2
  obtain ⟨x, r, rfl⟩ : ∃ x r, o = x :: r := by
    cases o with
    | nil => rw [cl] at h2'; exact absurd h2' (by simp)
    | cons x r => exact ⟨x, r, rfl⟩
  obtain ⟨i, rfl, hf⟩ := hE
  refine ⟨.calm 0 (.calm 1 (.calm 2 (.calm 3 (.calm 4 (.calm 5 (.calm 6 .done)))))), by rfl, ?_⟩
  apply Exists.intro
  refine ⟨?_, ?_⟩
  · conv => whnf
    repeat' (first
      | (refine ⟨rfl, ?_⟩; conv => whnf)
      | (refine ⟨Int.le_refl 0, h2, ?_⟩; conv => whnf)
      | (refine ⟨_, rfl, ?_⟩; conv => whnf)
      | (refine ⟨show w.xPlaces ≠ 0 by omega, ?_⟩; conv => whnf)
      | exact norm_wk (keep := [4]) (kb := []) (ρ := []) rfl
      | (refine ⟨?_, ?_⟩ <;> conv => whnf)
      | fail)
  conv => whnf
  exact iR_eq (wh_way h1 h3 hf).symm rfl

end Go.Proofs.YtcaonpncopfeoaaGreat.V
