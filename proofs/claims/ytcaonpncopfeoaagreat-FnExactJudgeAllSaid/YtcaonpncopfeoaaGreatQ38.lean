/- How often a process is there. -/
import Derived.Test.YtcaonpncopfeoaaGreatH1
import Derived.Test.YtcaonpncopfeoaaGreatH2
import Derived.Test.YtcaonpncopfeoaaGreatH3
import Derived.Test.YtcaonpncopfeoaaGreatD2
import Derived.Test.YtcaonpncopfeoaaGreatQ42
set_option linter.unusedVariables false
set_option linter.unusedSimpArgs false
namespace Go.Proofs.YtcaonpncopfeoaaGreat.V
open Go

def MdE38 (f : Nat) : List Mode :=
  match f with
  | 149 => [.rd, .rd]
  | _ => []
def E38 : Env := ⟨τ, MdE38⟩

/-! ### all the processes: at home and on their way -/
def occ0 (w : DWorld) : List Int := w.xHomes.map fun h => h.xP.xPid
noncomputable def occI (w : DWorld) (i : Nat) : List Int := match w.xLinks[i]?, w.xGave[i]? with
  | some l, some g => (g.drop l.xGot.toNat).map (movesI w.xCode)
  | _, _ => []
noncomputable def occN (w : DWorld) (i : Nat) : List Int := occ0 w ++ (List.range i).flatMap (occI w)
noncomputable def occ (w : DWorld) : List Int := occN w w.xLinks.length
theorem occN_0 (w : DWorld) : occN w 0 = occ0 w := by simp [occN]
theorem occN_succ (w : DWorld) (i : Nat) : occN w (i + 1) = occN w i ++ occI w i := by
  simp [occN, List.range_succ, List.flatMap_append]
theorem occI_at {w : DWorld} {i : Nat} {l : DLink} {g : List ByteArray} (hl : w.xLinks[i]? = some l) (hg : w.xGave[i]? = some g) : occI w i = (g.drop l.xGot.toNat).map (movesI w.xCode) := by
  unfold occI
  rw [hl, hg]
theorem occI_len {w : DWorld} {i : Nat} {l : DLink} {g : List ByteArray} (hl : w.xLinks[i]? = some l) (hg : w.xGave[i]? = some g) : (occI w i).length = g.length - l.xGot.toNat := by
  rw [occI_at hl hg, List.length_map, List.length_drop]
theorem occI_get {w : DWorld} {i n : Nat} {l : DLink} {g : List ByteArray} {x : ByteArray} (hl : w.xLinks[i]? = some l) (hg : w.xGave[i]? = some g) (hx : g[l.xGot.toNat + n]? = some x) : (occI w i)[n]? = some (movesI w.xCode x) := by
  rw [occI_at hl hg, List.getElem?_map, List.getElem?_drop, hx]
  rfl
theorem occ_get0 {w : DWorld} {i : Nat} {h : DHome} (hh : w.xHomes[i]? = some h) : (occ0 w)[i]? = some h.xP.xPid := by
  rw [occ0, List.getElem?_map, hh]
  rfl
theorem take_snoc {l : List Int} {k : Nat} {x : Int} (h : l[k]? = some x) : l.take (k + 1) = l.take k ++ [x] := by
  rw [List.take_add_one, h]
  rfl
theorem cnt_snoc (l : List Int) (p x : Int) : ((l ++ [x]).count p : Int) = l.count p + (if x = p then 1 else 0) := by
  rw [List.count_append, List.count_singleton]
  by_cases h : x = p
  · simp [h]
  · simp [h]

set_option maxRecDepth 100000 in
set_option maxHeartbeats 1000000 in
theorem s_l15Many_ok (w : DWorld) (pid : Int) (ho : w.ok) (hw : worldOk w = true) (hb : ∀ g ∈ w.xGave, ∀ s ∈ g, s.size ≤ 2000000) : FnV Tryz.prog 151 [wV w, iV pid] fun rs outs => rs = [iR ((occ w).count pid : Nat)] ∧ outs = [] := by
  refine fn_ok (E := E38) τ_ok mixed Tryz.func151 (by rfl) (by rfl) false (by simp [Tryz.f151]) ?_
  have hh8 := (worldOk_t.1 hw).2.2.1
  obtain ⟨p1, p2, p3, p4, -⟩ := world_parts hw
  have n9 := places9 p1
  conv => whnf
  refine ⟨fun m s => ∃ (k n : Int), s = ⟨[(1, .vals false [.sc (.int .i64 pid)]), (2, .bptr 2 0 0), (4, .vals false [.sc (.int .i64 0)]), (5, .vals false [.sc (.int .i64 n)]), (6, .vals false [.sc (.int .i64 k)])], [(2, ⟨0, w.x⟩)], []⟩ ∧ m = w.xHomes.length - k.toNat ∧ 0 ≤ k ∧ k ≤ w.xHomes.length ∧ n = ((occ0 w).take k.toNat).count pid ∧ n ≤ k,
    ⟨_, _, norm_wk (keep := [1, 2, 4, 5, 6]) (kb := [2]) (ρ := []) rfl, ⟨0, 0, rfl, rfl, by omega, by omega, rfl, by omega⟩⟩, ?_⟩
  rintro m _ ⟨k, n, rfl, rfl, k0, k1, hn, hn2⟩
  conv => whnf
  rw [hmC_len]
  refine br_if (fun h1 => ?_) (fun h1 => ?_) <;> (try rw [h1]) <;> (conv => whnf)
  · rw [ltI_t] at h1
    obtain ⟨x, hx⟩ : ∃ x, w.xHomes[k.toNat]? = some x := ⟨_, List.getElem?_eq_getElem (by omega)⟩
    refine ⟨k0, _, hmC_at hx, ?_⟩
    conv => whnf
    have ek : (k + 1).toNat = k.toNat + 1 := by omega
    have es := cnt_snoc ((occ0 w).take k.toNat) pid x.xP.xPid
    rw [← take_snoc (occ_get0 hx)] at es
    have hn0 : 0 ≤ n := by omega
    refine br_if (fun h2 => ?_) (fun h2 => ?_) <;> (try rw [h2]) <;> (conv => whnf)
    · rw [eqI_t] at h2
      rw [if_pos h2] at es
      rw [wrp_i64 (x := n + 1) (by omega) (by omega), wrp_i64 (x := k + 1) (by omega) (by omega)]
      exact ⟨w.xHomes.length - (k + 1).toNat, _, by omega, norm_wk (keep := [1, 2, 4, 5, 6]) (kb := [2]) (ρ := []) rfl, ⟨k + 1, n + 1, rfl, rfl, by omega, by omega, by rw [ek]; omega, by omega⟩⟩
    · rw [eqI_f] at h2
      rw [if_neg h2] at es
      rw [wrp_i64 (x := k + 1) (by omega) (by omega)]
      exact ⟨w.xHomes.length - (k + 1).toNat, _, by omega, norm_wk (keep := [1, 2, 4, 5, 6]) (kb := [2]) (ρ := []) rfl, ⟨k + 1, n, rfl, rfl, by omega, by omega, by rw [ek]; omega, by omega⟩⟩
  rw [ltI_f] at h1
  rw [List.take_of_length_le (by rw [occ0, List.length_map]; omega)] at hn
  have hn0 : 0 ≤ n := by omega
  refine ⟨fun m s => ∃ (k n : Int), s = ⟨[(1, .vals false [.sc (.int .i64 pid)]), (2, .bptr 2 0 0), (4, .vals false [.sc (.int .i64 0)]), (5, .vals false [.sc (.int .i64 n)]), (7, .vals false [.sc (.int .i64 k)])], [(2, ⟨0, w.x⟩)], []⟩ ∧ m = w.xLinks.length - k.toNat ∧ 0 ≤ k ∧ k ≤ w.xLinks.length ∧ n = (occN w k.toNat).count pid ∧ n ≤ 8 + k * 100000,
    ⟨_, _, norm_wk (keep := [1, 2, 4, 5, 7]) (kb := [2]) (ρ := []) rfl, ⟨0, n, rfl, rfl, by omega, by omega, by rw [hn, ← occN_0]; rfl, by omega⟩⟩, ?_⟩
  clear hn hn2 hn0 h1 k0 k1 k n
  rintro m _ ⟨k, n, rfl, rfl, k0, k1, hn, hn2⟩
  conv => whnf
  rw [lkC_len]
  refine br_if (fun h1 => ?_) (fun h1 => ?_) <;> (try rw [h1]) <;> (conv => whnf)
  rotate_left
  · rw [ltI_f] at h1
    exact iR_eq (by rw [hn, occ, show w.xLinks.length = k.toNat by omega]) rfl
  rw [ltI_t] at h1
  obtain ⟨l, g, t, hl, hg, ht, lo, lg, lt⟩ := link_at hw (i := k.toNat) (by omega)
  have lo1 := lo.1
  have lo2 := lo.2.1
  have gl := ssC_len g
  have gb := hb g (List.mem_of_getElem? hg)
  have ol := occI_len hl hg
  refine ⟨k0, _, lkC_at hl, ?_⟩
  conv => whnf
  refine ⟨fun m s => ∃ (j n : Int), s = ⟨[(1, .vals false [.sc (.int .i64 pid)]), (2, .bptr 2 0 0), (4, .vals false [.sc (.int .i64 0)]), (5, .vals false [.sc (.int .i64 n)]), (7, .vals false [.sc (.int .i64 k)]), (8, .vals false [.sc (.int .i64 j)])], [(2, ⟨0, w.x⟩)], []⟩ ∧ m = g.length - j.toNat ∧ l.xGot ≤ j ∧ j ≤ g.length ∧ n = (occN w k.toNat ++ (occI w k.toNat).take (j - l.xGot).toNat).count pid ∧ n ≤ 8 + k * 100000 + j,
    ⟨_, _, norm_wk (keep := [1, 2, 4, 5, 7, 8]) (kb := [2]) (ρ := []) rfl, ⟨l.xGot, n, rfl, rfl, by omega, by omega, by rw [Int.sub_self, hn]; simp, by omega⟩⟩, ?_⟩
  clear hn hn2 n
  rintro m _ ⟨j, n, rfl, rfl, j0, j1, hn, hn2⟩
  conv => whnf
  refine ⟨k0, _, sssC_at hg, ?_⟩
  conv => whnf
  rw [gl]
  refine br_if (fun h2 => ?_) (fun h2 => ?_) <;> (try rw [h2]) <;> (conv => whnf)
  rotate_left
  · rw [ltI_f] at h2
    rw [List.take_of_length_le (by omega), ← occN_succ] at hn
    rw [wrp_i64 (x := k + 1) (by omega) (by omega)]
    exact ⟨w.xLinks.length - (k + 1).toNat, _, by omega, norm_wk (keep := [1, 2, 4, 5, 7]) (kb := [2]) (ρ := []) rfl, ⟨k + 1, n, rfl, rfl, by omega, by omega, by rw [show (k + 1).toNat = k.toNat + 1 by omega]; exact hn, by omega⟩⟩
  rw [ltI_t] at h2
  obtain ⟨x, hx⟩ : ∃ x, g[j.toNat]? = some x := ⟨_, List.getElem?_eq_getElem (by omega)⟩
  have j00 : 0 ≤ j := by omega
  have es := cnt_snoc (occN w k.toNat ++ (occI w k.toNat).take (j - l.xGot).toNat) pid (movesI w.xCode x)
  rw [List.append_assoc, ← take_snoc (occI_get (n := (j - l.xGot).toNat) hl hg (by rw [← hx]; congr 1; omega)), show (j - l.xGot).toNat + 1 = (j + 1 - l.xGot).toNat by omega] at es
  have hn0 : 0 ≤ n := by omega
  refine ⟨.take 1 (.take 3 (.take 6 (.take 10 (.or 0 (.or 2 (.take 4 (.or 5 (.take 7 (.or 8 (.or 9 (.take 11 .done) .nil) .nil)) .nil)) .nil) (.or 2 (.take 4 (.or 0 (.or 5 (.take 7 (.or 8 (.or 9 (.take 11 .done) .nil) .nil)) .nil) (.or 5 (.take 7 (.early 8 (.or 0 (.or 9 (.take 11 .done) .nil) .nil))) .nil))) .nil))))), by rfl, ?_⟩
  apply Exists.intro
  refine ⟨?_, ?_⟩
  · conv => whnf
    repeat' (first
      | (refine ⟨rfl, ?_⟩; conv => whnf)
      | (refine ⟨k0, _, sssC_at hg, ?_⟩; conv => whnf)
      | (refine ⟨j00, _, ssC_at hx, ?_⟩; conv => whnf)
      | (refine (s_l13Moves_ok w ho x (gb x (List.mem_of_getElem? hx))).mono ?_; rintro _ _ ⟨rfl, rfl⟩; conv => whnf)
      | exact norm_wk (keep := [1, 2, 4, 5, 7, 8, 61]) (kb := [2]) (ρ := []) rfl
      | (refine ⟨?_, ?_⟩ <;> conv => whnf)
      | fail)
  conv => whnf
  refine br_if (fun h3 => ?_) (fun h3 => ?_) <;> (try rw [h3]) <;> (conv => whnf)
  · rw [eqI_t] at h3
    rw [if_pos h3] at es
    rw [wrp_i64 (x := n + 1) (by omega) (by omega), wrp_i64 (x := j + 1) (by omega) (by omega)]
    exact ⟨g.length - (j + 1).toNat, _, by omega, norm_wk (keep := [1, 2, 4, 5, 7, 8]) (kb := [2]) (ρ := []) rfl, ⟨j + 1, n + 1, rfl, rfl, by omega, by omega, by omega, by omega⟩⟩
  · rw [eqI_f] at h3
    rw [if_neg h3] at es
    rw [wrp_i64 (x := j + 1) (by omega) (by omega)]
    exact ⟨g.length - (j + 1).toNat, _, by omega, norm_wk (keep := [1, 2, 4, 5, 7, 8]) (kb := [2]) (ρ := []) rfl, ⟨j + 1, n, rfl, rfl, by omega, by omega, by omega, by omega⟩⟩

end Go.Proofs.YtcaonpncopfeoaaGreat.V
