/- Machines tidied, packed. -/
import Derived.Test.YtcaonpncopfeoaaGreatQ26
set_option linter.unusedVariables false
set_option linter.unusedSimpArgs false
namespace Go.Proofs.YtcaonpncopfeoaaGreat.V
open Go

def MdE29 (f : Nat) : List Mode :=
  match f with
  | 195 => [.rd]
  | 204 => [.rd]
  | 261 => [.rd, .rd]
  | 275 => [.rd, .rd]
  | 285 => [.rd]
  | 287 => [.rd]
  | 321 => [.rd, .rd]
  | 322 => [.rd, .rd]
  | 324 => [.rd, .rd]
  | 325 => [.rd, .rd]
  | 371 => [.rd, .clo]
  | 372 => [.rd, .mptr]
  | 393 => [.rd, .clo]
  | _ => []
def E29 : Env := ⟨τ, MdE29⟩

set_option maxRecDepth 100000 in
theorem i_rootsOk1_ok (p : DPool) (hl : p.xNodes.length ≤ 9223372036854775807) (r : Int) : FnV Tryz.prog 372 [iV r, .mptr none [.sl false 5 (npC p.xNodes)]] fun rs outs => rs = [bR (notB (decide (0 ≤ r ∧ r < p.xNodes.length)))] ∧ outs = [[.sl false 5 (npC p.xNodes)]] := by
  refine fn_ok (E := E29) τ_ok mixed Tryz.func372 (by rfl) (by rfl) false (by simp [Tryz.f372]) ?_
  conv => whnf
  refine (i_isNode_ok p r hl).mono ?_
  rintro _ _ ⟨rfl, rfl⟩
  conv => whnf
  exact ⟨rfl, rfl⟩

set_option maxRecDepth 100000 in
theorem i_Root_ix (p : DPool) (hp : p.xNodes.length ≤ 9223372036854775807) (xs : List Int) (hl : xs.length ≤ 9223372036854775807) : FnV Tryz.prog 393 [.rdv false [.sl true 1 (xs.map (fun x : Int => [.sc (.int .i64 x)]))], .mptr (some 372) [.sl false 5 (npC p.xNodes)]] fun rs outs => rs = [iR (fidx (fun r : Int => notB (decide (0 ≤ r ∧ r < p.xNodes.length))) xs 0)] ∧ outs = [[.sl false 5 (npC p.xNodes)]] := by
  refine fn_ok (E := E29) τ_ok mixed Tryz.func393 (by rfl) (by rfl) false (by simp [Tryz.f393]) ?_
  conv => whnf
  rw [List.length_map]
  refine ⟨fun m s => ∃ (k : Int), s = ⟨[(0, .vals false [.rd none 1 (xs.map (fun x : Int => [.sc (.int .i64 x)]))]), (1, .clo 372 1000001 0), (4, .vals false [.sc (.int .i64 0)]), (7, .vals false [.sc (.int .i64 (xs.length : Nat))]), (8, .vals false [.sc (.int .i64 k)])], [(1000001, ⟨0, [.rd none 5 (npC p.xNodes)]⟩)], []⟩ ∧ m = xs.length - k.toNat ∧ 0 ≤ k ∧ k ≤ xs.length ∧ fidx (fun r : Int => notB (decide (0 ≤ r ∧ r < p.xNodes.length))) (xs.drop k.toNat) k = fidx (fun r : Int => notB (decide (0 ≤ r ∧ r < p.xNodes.length))) xs 0,
    ⟨_, _, norm_wk (keep := [0, 1, 4, 7, 8]) (kb := [1000001]) (ρ := []) rfl, ⟨0, rfl, rfl, by omega, by omega, rfl⟩⟩, ?_⟩
  rintro m _ ⟨k, rfl, rfl, k0, k1, hk⟩
  conv => whnf
  refine br_if (fun h => ?_) (fun h => ?_) <;> (try rw [h]) <;> (conv => whnf)
  · rw [ltI_t] at h
    obtain ⟨x, hx⟩ : ∃ x, xs[k.toNat]? = some x := ⟨_, List.getElem?_eq_getElem (by omega)⟩
    have hss := fidx_step (p := (fun r : Int => notB (decide (0 ≤ r ∧ r < p.xNodes.length)))) hx
    rw [Int.toNat_of_nonneg k0] at hss
    rw [hss] at hk
    refine ⟨by omega, _, by rw [List.getElem?_map, hx]; rfl, ?_⟩
    conv => whnf
    refine (i_rootsOk1_ok p hp x).mono ?_
    rintro _ _ ⟨rfl, rfl⟩
    conv => whnf
    refine br_if (fun h2 => ?_) (fun h2 => ?_) <;> (try rw [h2]) <;> (conv => whnf)
    · rw [if_pos h2] at hk
      rw [← hk]
      exact ⟨rfl, rfl⟩
    · rw [if_neg (by rw [h2]; decide)] at hk
      rw [wrp_i64 (x := k + 1) (by omega) (by omega)]
      have ek : (k + 1).toNat = k.toNat + 1 := by omega
      exact ⟨xs.length - (k + 1).toNat, _, by omega, norm_wk (keep := [0, 1, 4, 7, 8]) (kb := [1000001]) (ρ := []) rfl, ⟨k + 1, rfl, rfl, by omega, by omega, by rw [ek]; exact hk⟩⟩
  · rw [ltI_f] at h
    rw [List.drop_eq_nil_of_le (by omega)] at hk
    rw [← hk]
    exact ⟨rfl, rfl⟩

set_option maxRecDepth 100000 in
theorem i_Root_cf (p : DPool) (hp : p.xNodes.length ≤ 9223372036854775807) (xs : List Int) (hl : xs.length ≤ 9223372036854775807) : FnV Tryz.prog 371 [.rdv false [.sl true 1 (xs.map (fun x : Int => [.sc (.int .i64 x)]))], .mptr (some 372) [.sl false 5 (npC p.xNodes)]] fun rs outs => rs = [bR (xs.any (fun r : Int => notB (decide (0 ≤ r ∧ r < p.xNodes.length))))] ∧ outs = [[.sl false 5 (npC p.xNodes)]] := by
  refine fn_ok (E := E29) τ_ok mixed Tryz.func371 (by rfl) (by rfl) false (by simp [Tryz.f371]) ?_
  conv => whnf
  refine (i_Root_ix p hp xs hl).mono ?_
  rintro _ _ ⟨rfl, rfl⟩
  conv => whnf
  rw [fidx_any]
  exact ⟨rfl, rfl⟩

set_option maxRecDepth 100000 in
theorem i_rootsOk_ok (p : DPool) (roots : List Int) (hp : p.ok) (hr : roots.length ≤ 1000000) : FnV Tryz.prog 324 [pV p, nnV roots] fun rs outs => rs = [bR (rootsOk p.xNodes roots)] ∧ outs = [] := by
  refine fn_ok (E := E29) τ_ok mixed Tryz.func324 (by rfl) (by rfl) false (by simp [Tryz.f324]) ?_
  conv => whnf
  refine (i_PoolOk_ok p hp).mono ?_
  rintro _ _ ⟨rfl, rfl⟩
  conv => whnf
  refine br_if (fun h => ?_) (fun h => ?_) <;> (try rw [h]) <;> (conv => whnf)
  · refine (i_Root_cf p hp.1 roots (by omega)).mono ?_
    rintro _ _ ⟨rfl, rfl⟩
    conv => whnf
    refine bR_eq (Bool.eq_iff_iff.2 ?_)
    unfold rootsOk
    rw [notB_t, List.any_eq_false, clB_t]
    refine ⟨fun h2 => ⟨h, fun r hr => ?_⟩, fun h2 r hr => ?_⟩
    · have := h2 r hr
      rw [Bool.not_eq_true, notB_f, decide_eq_true_iff] at this
      exact this
    · rw [Bool.not_eq_true, notB_f, decide_eq_true_iff]
      exact h2.2 r hr
  · exact bR_eq (clB_f.2 fun h2 => by rw [h] at h2; cases h2.1).symm

set_option maxRecDepth 100000 in
theorem s_l7Roots_ok (p : DPool) (roots : List Int) (hp : p.ok) (hr : roots.length ≤ 1000000) : FnV Tryz.prog 321 [pV p, nnV roots] fun rs outs => rs = [bR (rootsOk p.xNodes roots)] ∧ outs = [] := by
  refine fn_ok (E := E29) τ_ok mixed Tryz.func321 (by rfl) (by rfl) false (by simp [Tryz.f321]) ?_
  conv => whnf
  refine ⟨fun m s => ∃ (k : Int), s = ⟨[(1, .vals false [.rd none 1 (nnC roots)]), (2, .bptr 2 0 0), (4, .vals false [.sc (.bool false)]), (5, .vals false [.sc (.int .i64 k)])], [(2, ⟨0, [.rd none 5 (npC p.xNodes)]⟩)], []⟩ ∧ m = roots.length - k.toNat ∧ 0 ≤ k ∧ k ≤ roots.length ∧ ∀ r ∈ roots.take k.toNat, 0 ≤ r ∧ r < p.xNodes.length,
    ⟨_, _, norm_wk (keep := [1, 2, 4, 5]) (kb := [2]) (ρ := []) rfl, ⟨0, rfl, rfl, by omega, by omega, by simp⟩⟩, ?_⟩
  rintro m _ ⟨k, rfl, rfl, k0, k1, hk⟩
  conv => whnf
  rw [nnC_len]
  refine br_if (fun h => ?_) (fun h => ?_) <;> (try rw [h]) <;> (conv => whnf)
  · rw [ltI_t] at h
    obtain ⟨x, hx⟩ : ∃ x, roots[k.toNat]? = some x := ⟨_, List.getElem?_eq_getElem (by omega)⟩
    have hrow : (nnC roots)[k.toNat]? = some [.sc (.int .i64 x)] := by rw [List.getElem?_map, hx]; rfl
    refine ⟨.take 1 (.take 2 (.take 3 (.early 4 (.or 0 (.or 5 (.take 6 .done) .nil) .nil)))), by rfl, ?_⟩
    apply Exists.intro
    refine ⟨?_, ?_⟩
    · conv => whnf
      repeat' (first
        | (refine ⟨rfl, ?_⟩; conv => whnf)
        | (refine ⟨k0, _, hrow, ?_⟩; conv => whnf)
        | (refine (s_l2Has_ok p x hp.1).mono ?_; rintro _ _ ⟨rfl, rfl⟩; conv => whnf)
        | exact norm_wk (keep := [1, 2, 4, 5, 18]) (kb := [2]) (ρ := []) rfl
        | (refine ⟨?_, ?_⟩ <;> conv => whnf)
        | fail)
    conv => whnf
    refine br_if (fun h2 => ?_) (fun h2 => ?_) <;> (try rw [h2]) <;> (conv => whnf)
    · rw [notB_t, decide_eq_false_iff_not] at h2
      exact bR_eq (clB_f.2 fun h3 => h2 (h3.2 x (List.mem_of_getElem? hx))).symm
    · rw [notB_f, decide_eq_true_iff] at h2
      rw [wrp_i64 (x := k + 1) (by omega) (by omega)]
      refine ⟨roots.length - (k + 1).toNat, _, by omega, norm_wk (keep := [1, 2, 4, 5]) (kb := [2]) (ρ := []) rfl, ⟨k + 1, rfl, rfl, by omega, by omega, ?_⟩⟩
      rw [show (k + 1).toNat = k.toNat + 1 by omega]
      exact all_snoc hx hk h2
  · rw [ltI_f] at h
    rw [List.take_of_length_le (by omega)] at hk
    refine (s_PoolOk_ok p hp).mono ?_
    rintro _ _ ⟨rfl, rfl⟩
    conv => whnf
    refine bR_eq (Bool.eq_iff_iff.2 ?_)
    unfold rootsOk
    rw [clB_t]
    exact ⟨fun h => ⟨h, hk⟩, fun h => h.1⟩

@[reducible] def mR (m : DMachine) : RV := ⟨true, [.own true 5 (npC m.xPool.xNodes), .rd (.sc (.int .i64 m.xAt)), .rd (.sc (.int .i64 m.xS)), .rd (.sc (.int .i64 m.xE)), .rd (.sc (.int .i64 m.xD)), .rd (.sc (.int .i64 m.xState)), .rd (.sc (.int .i64 m.xAsk)), .rd (.sc (.int .i64 m.xArg))]⟩

theorem q0n : notB true = false := notB_f.2 rfl

set_option maxRecDepth 100000 in
set_option maxHeartbeats 4000000 in
theorem i_Tidy_ok (c : DCode) (m : DMachine) (h : machineOk c m = true) (hm : m.ok) : FnV Tryz.prog 265 [mV m] fun rs outs => rs = [mR (tidyD m)] ∧ outs = [] := by
  refine fn_ok (E := E29) τ_ok mixed Tryz.func265 (by rfl) (by rfl) false (by simp [Tryz.f265]) ?_
  obtain ⟨hp, hR⟩ := rootsM_ok h
  have hok : rootsOk m.xPool.xNodes (rootsM m) = true := clB_t.2 ⟨hp, hR⟩
  conv => whnf
  have r4 : m.xState = 1 ∨ m.xState = 2 → rootsM m = [m.xS, m.xE, m.xD, m.xArg] := fun e => by
    unfold rootsM
    rw [if_pos e]
    rfl
  have r3 : ¬ (m.xState = 1 ∨ m.xState = 2) → rootsM m = [m.xS, m.xE, m.xD] := fun e => by
    unfold rootsM
    rw [if_neg e]
    rfl
  have hpl := (poolOk_t.1 hp).1
  refine br_if (fun a1 => ?_) (fun a1 => ?_) <;> (try rw [a1]) <;> (conv => whnf)
  · have en : m.xState = 1 ∨ m.xState = 2 := .inl (eqI_t.1 a1)
    have e := r4 en
    rw [e] at hok hR
    refine .inl ⟨flat_int _, ?_⟩
    conv => whnf
    refine ⟨by simp only [d3, chunk_len, List.length_cons]; omega, ?_⟩
    conv => whnf
    refine (i_rootsOk_ok m.xPool [m.xS, m.xE, m.xD, m.xArg] hm.1 (by simp)).mono ?_
    rintro _ _ ⟨rfl, rfl⟩
    conv => whnf
    rw [hok, q0n]
    conv => whnf
    refine (i_keep_ok m.xPool [m.xS, m.xE, m.xD, m.xArg] (by omega) hp (by simp) hR).mono ?_
    rintro _ _ ⟨rfl, rfl⟩
    conv => whnf
    have k0 : (nnC (keepR m.xPool.xNodes [m.xS, m.xE, m.xD, m.xArg]))[0]? = some [.sc (.int .i64 (kid (tblM m) m.xS))] := by unfold keepR tblM; rw [e]; rfl
    have k1 : (nnC (keepR m.xPool.xNodes [m.xS, m.xE, m.xD, m.xArg]))[1]? = some [.sc (.int .i64 (kid (tblM m) m.xE))] := by unfold keepR tblM; rw [e]; rfl
    have k2 : (nnC (keepR m.xPool.xNodes [m.xS, m.xE, m.xD, m.xArg]))[2]? = some [.sc (.int .i64 (kid (tblM m) m.xD))] := by unfold keepR tblM; rw [e]; rfl
    have k3 : (nnC (keepR m.xPool.xNodes [m.xS, m.xE, m.xD, m.xArg]))[3]? = some [.sc (.int .i64 (kid (tblM m) m.xArg))] := by unfold keepR tblM; rw [e]; rfl
    have kl : (nnC (keepR m.xPool.xNodes [m.xS, m.xE, m.xD, m.xArg])).length = 4 := rfl
    generalize nnC (keepR m.xPool.xNodes [m.xS, m.xE, m.xD, m.xArg]) = rr at k0 k1 k2 k3 kl
    refine ⟨.one (.take 0 (.take 1 (.take 3 (.take 4 (.take 6 (.take 7 (.early 2 (.take 9 (.early 5 (.early 8 (.or 10 (.take 11 (.or 12 (.take 13 (.or 14 .done .nil)) .nil)) .nil))))))))))), by rfl, ?_⟩
    conv => whnf
    repeat (first
      | (refine ⟨by decide, by show _ < (rr.length : Int); rw [kl]; decide, ?_⟩; conv => whnf)
      | (refine ⟨_, k0, ?_⟩; conv => whnf)
      | (refine ⟨_, k1, ?_⟩; conv => whnf)
      | (refine ⟨_, k2, ?_⟩; conv => whnf)
      | (refine ⟨_, k3, ?_⟩; conv => whnf)
      | (refine ⟨rfl, ?_⟩; conv => whnf))
    have eT : tidyD m = ⟨⟨keepN m.xPool.xNodes [m.xS, m.xE, m.xD, m.xArg]⟩, m.xAt, kid (tblM m) m.xS, kid (tblM m) m.xE, kid (tblM m) m.xD, m.xState, m.xAsk, kid (tblM m) m.xArg⟩ := by unfold tidyD; rw [e, if_pos en]
    rw [eT]
    exact ⟨rfl, rfl⟩
  refine br_if (fun a2 => ?_) (fun a2 => ?_) <;> (try rw [a2]) <;> (conv => whnf)
  · have en : m.xState = 1 ∨ m.xState = 2 := .inr (eqI_t.1 a2)
    have e := r4 en
    rw [e] at hok hR
    refine .inl ⟨flat_int _, ?_⟩
    conv => whnf
    refine ⟨by simp only [d3, chunk_len, List.length_cons]; omega, ?_⟩
    conv => whnf
    refine (i_rootsOk_ok m.xPool [m.xS, m.xE, m.xD, m.xArg] hm.1 (by simp)).mono ?_
    rintro _ _ ⟨rfl, rfl⟩
    conv => whnf
    rw [hok, q0n]
    conv => whnf
    refine (i_keep_ok m.xPool [m.xS, m.xE, m.xD, m.xArg] (by omega) hp (by simp) hR).mono ?_
    rintro _ _ ⟨rfl, rfl⟩
    conv => whnf
    have k0 : (nnC (keepR m.xPool.xNodes [m.xS, m.xE, m.xD, m.xArg]))[0]? = some [.sc (.int .i64 (kid (tblM m) m.xS))] := by unfold keepR tblM; rw [e]; rfl
    have k1 : (nnC (keepR m.xPool.xNodes [m.xS, m.xE, m.xD, m.xArg]))[1]? = some [.sc (.int .i64 (kid (tblM m) m.xE))] := by unfold keepR tblM; rw [e]; rfl
    have k2 : (nnC (keepR m.xPool.xNodes [m.xS, m.xE, m.xD, m.xArg]))[2]? = some [.sc (.int .i64 (kid (tblM m) m.xD))] := by unfold keepR tblM; rw [e]; rfl
    have k3 : (nnC (keepR m.xPool.xNodes [m.xS, m.xE, m.xD, m.xArg]))[3]? = some [.sc (.int .i64 (kid (tblM m) m.xArg))] := by unfold keepR tblM; rw [e]; rfl
    have kl : (nnC (keepR m.xPool.xNodes [m.xS, m.xE, m.xD, m.xArg])).length = 4 := rfl
    generalize nnC (keepR m.xPool.xNodes [m.xS, m.xE, m.xD, m.xArg]) = rr at k0 k1 k2 k3 kl
    refine ⟨.one (.take 0 (.take 1 (.take 3 (.take 4 (.take 6 (.take 7 (.early 2 (.take 9 (.early 5 (.early 8 (.or 10 (.take 11 (.or 12 (.take 13 (.or 14 .done .nil)) .nil)) .nil))))))))))), by rfl, ?_⟩
    conv => whnf
    repeat (first
      | (refine ⟨by decide, by show _ < (rr.length : Int); rw [kl]; decide, ?_⟩; conv => whnf)
      | (refine ⟨_, k0, ?_⟩; conv => whnf)
      | (refine ⟨_, k1, ?_⟩; conv => whnf)
      | (refine ⟨_, k2, ?_⟩; conv => whnf)
      | (refine ⟨_, k3, ?_⟩; conv => whnf)
      | (refine ⟨rfl, ?_⟩; conv => whnf))
    have eT : tidyD m = ⟨⟨keepN m.xPool.xNodes [m.xS, m.xE, m.xD, m.xArg]⟩, m.xAt, kid (tblM m) m.xS, kid (tblM m) m.xE, kid (tblM m) m.xD, m.xState, m.xAsk, kid (tblM m) m.xArg⟩ := by unfold tidyD; rw [e, if_pos en]
    rw [eT]
    exact ⟨rfl, rfl⟩
  · have en : ¬ (m.xState = 1 ∨ m.xState = 2) := by
      rw [eqI_f] at a1 a2
      omega
    have e := r3 en
    rw [e] at hok hR
    refine (i_rootsOk_ok m.xPool [m.xS, m.xE, m.xD] hm.1 (by simp)).mono ?_
    rintro _ _ ⟨rfl, rfl⟩
    conv => whnf
    rw [hok, q0n]
    conv => whnf
    refine (i_keep_ok m.xPool [m.xS, m.xE, m.xD] (by omega) hp (by simp) hR).mono ?_
    rintro _ _ ⟨rfl, rfl⟩
    conv => whnf
    have k0 : (nnC (keepR m.xPool.xNodes [m.xS, m.xE, m.xD]))[0]? = some [.sc (.int .i64 (kid (tblM m) m.xS))] := by unfold keepR tblM; rw [e]; rfl
    have k1 : (nnC (keepR m.xPool.xNodes [m.xS, m.xE, m.xD]))[1]? = some [.sc (.int .i64 (kid (tblM m) m.xE))] := by unfold keepR tblM; rw [e]; rfl
    have k2 : (nnC (keepR m.xPool.xNodes [m.xS, m.xE, m.xD]))[2]? = some [.sc (.int .i64 (kid (tblM m) m.xD))] := by unfold keepR tblM; rw [e]; rfl
    have kl : (nnC (keepR m.xPool.xNodes [m.xS, m.xE, m.xD])).length = 3 := rfl
    generalize nnC (keepR m.xPool.xNodes [m.xS, m.xE, m.xD]) = rr at k0 k1 k2 kl
    refine ⟨.one (.take 0 (.take 1 (.take 3 (.take 4 (.take 6 (.take 7 (.early 2 (.take 9 (.early 5 (.early 8 (.or 10 (.take 11 (.or 12 (.take 13 (.or 14 .done .nil)) .nil)) .nil))))))))))), by rfl, ?_⟩
    conv => whnf
    repeat (first
      | (refine ⟨by decide, by show _ < (rr.length : Int); rw [kl]; decide, ?_⟩; conv => whnf)
      | (refine ⟨_, k0, ?_⟩; conv => whnf)
      | (refine ⟨_, k1, ?_⟩; conv => whnf)
      | (refine ⟨_, k2, ?_⟩; conv => whnf)
      | (refine ⟨rfl, ?_⟩; conv => whnf))
    have eT : tidyD m = ⟨⟨keepN m.xPool.xNodes [m.xS, m.xE, m.xD]⟩, m.xAt, kid (tblM m) m.xS, kid (tblM m) m.xE, kid (tblM m) m.xD, m.xState, m.xAsk, m.xArg⟩ := by unfold tidyD; rw [e, if_neg en]
    rw [eT]
    exact ⟨rfl, rfl⟩

set_option maxRecDepth 100000 in
set_option maxHeartbeats 4000000 in
theorem s_Tidy_ok (c : DCode) (m : DMachine) (h : machineOk c m = true) (hm : m.ok) : FnV Tryz.prog 258 [mV m] fun rs outs => rs = [mR (tidyD m)] ∧ outs = [] := by
  refine fn_ok (E := E29) τ_ok mixed Tryz.func258 (by rfl) (by rfl) false (by simp [Tryz.f258]) ?_
  obtain ⟨hp, hR⟩ := rootsM_ok h
  have hok : rootsOk m.xPool.xNodes (rootsM m) = true := clB_t.2 ⟨hp, hR⟩
  conv => whnf
  have r4 : m.xState = 1 ∨ m.xState = 2 → rootsM m = [m.xS, m.xE, m.xD, m.xArg] := fun e => by
    unfold rootsM
    rw [if_pos e]
    rfl
  have r3 : ¬ (m.xState = 1 ∨ m.xState = 2) → rootsM m = [m.xS, m.xE, m.xD] := fun e => by
    unfold rootsM
    rw [if_neg e]
    rfl
  have hpl := (poolOk_t.1 hp).1
  refine br_if (fun a1 => ?_) (fun a1 => ?_) <;> (try rw [a1]) <;> (conv => whnf)
  · have en : m.xState = 1 ∨ m.xState = 2 := .inl (eqI_t.1 a1)
    have e := r4 en
    rw [e] at hok hR
    refine .inl ⟨flat_int _, ?_⟩
    conv => whnf
    refine ⟨by simp only [d3, chunk_len, List.length_cons]; omega, ?_⟩
    conv => whnf
    refine (s_l7Roots_ok m.xPool [m.xS, m.xE, m.xD, m.xArg] hm.1 (by simp)).mono ?_
    rintro _ _ ⟨rfl, rfl⟩
    conv => whnf
    rw [hok, q0n]
    conv => whnf
    refine (s_l7Keep_ok m.xPool [m.xS, m.xE, m.xD, m.xArg] (by omega) hp (by simp) hR).mono ?_
    rintro _ _ ⟨rfl, rfl⟩
    conv => whnf
    have k0 : (nnC (keepR m.xPool.xNodes [m.xS, m.xE, m.xD, m.xArg]))[0]? = some [.sc (.int .i64 (kid (tblM m) m.xS))] := by unfold keepR tblM; rw [e]; rfl
    have k1 : (nnC (keepR m.xPool.xNodes [m.xS, m.xE, m.xD, m.xArg]))[1]? = some [.sc (.int .i64 (kid (tblM m) m.xE))] := by unfold keepR tblM; rw [e]; rfl
    have k2 : (nnC (keepR m.xPool.xNodes [m.xS, m.xE, m.xD, m.xArg]))[2]? = some [.sc (.int .i64 (kid (tblM m) m.xD))] := by unfold keepR tblM; rw [e]; rfl
    have k3 : (nnC (keepR m.xPool.xNodes [m.xS, m.xE, m.xD, m.xArg]))[3]? = some [.sc (.int .i64 (kid (tblM m) m.xArg))] := by unfold keepR tblM; rw [e]; rfl
    have kl : (nnC (keepR m.xPool.xNodes [m.xS, m.xE, m.xD, m.xArg])).length = 4 := rfl
    generalize nnC (keepR m.xPool.xNodes [m.xS, m.xE, m.xD, m.xArg]) = rr at k0 k1 k2 k3 kl
    repeat (first
      | (refine ⟨by decide, by show _ < (rr.length : Int); rw [kl]; decide, ?_⟩; conv => whnf)
      | (refine ⟨_, k0, ?_⟩; conv => whnf)
      | (refine ⟨_, k1, ?_⟩; conv => whnf)
      | (refine ⟨_, k2, ?_⟩; conv => whnf)
      | (refine ⟨_, k3, ?_⟩; conv => whnf)
      | (refine ⟨rfl, ?_⟩; conv => whnf))
    have eT : tidyD m = ⟨⟨keepN m.xPool.xNodes [m.xS, m.xE, m.xD, m.xArg]⟩, m.xAt, kid (tblM m) m.xS, kid (tblM m) m.xE, kid (tblM m) m.xD, m.xState, m.xAsk, kid (tblM m) m.xArg⟩ := by unfold tidyD; rw [e, if_pos en]
    rw [eT]
    exact ⟨rfl, rfl⟩
  refine br_if (fun a2 => ?_) (fun a2 => ?_) <;> (try rw [a2]) <;> (conv => whnf)
  · have en : m.xState = 1 ∨ m.xState = 2 := .inr (eqI_t.1 a2)
    have e := r4 en
    rw [e] at hok hR
    refine .inl ⟨flat_int _, ?_⟩
    conv => whnf
    refine ⟨by simp only [d3, chunk_len, List.length_cons]; omega, ?_⟩
    conv => whnf
    refine (s_l7Roots_ok m.xPool [m.xS, m.xE, m.xD, m.xArg] hm.1 (by simp)).mono ?_
    rintro _ _ ⟨rfl, rfl⟩
    conv => whnf
    rw [hok, q0n]
    conv => whnf
    refine (s_l7Keep_ok m.xPool [m.xS, m.xE, m.xD, m.xArg] (by omega) hp (by simp) hR).mono ?_
    rintro _ _ ⟨rfl, rfl⟩
    conv => whnf
    have k0 : (nnC (keepR m.xPool.xNodes [m.xS, m.xE, m.xD, m.xArg]))[0]? = some [.sc (.int .i64 (kid (tblM m) m.xS))] := by unfold keepR tblM; rw [e]; rfl
    have k1 : (nnC (keepR m.xPool.xNodes [m.xS, m.xE, m.xD, m.xArg]))[1]? = some [.sc (.int .i64 (kid (tblM m) m.xE))] := by unfold keepR tblM; rw [e]; rfl
    have k2 : (nnC (keepR m.xPool.xNodes [m.xS, m.xE, m.xD, m.xArg]))[2]? = some [.sc (.int .i64 (kid (tblM m) m.xD))] := by unfold keepR tblM; rw [e]; rfl
    have k3 : (nnC (keepR m.xPool.xNodes [m.xS, m.xE, m.xD, m.xArg]))[3]? = some [.sc (.int .i64 (kid (tblM m) m.xArg))] := by unfold keepR tblM; rw [e]; rfl
    have kl : (nnC (keepR m.xPool.xNodes [m.xS, m.xE, m.xD, m.xArg])).length = 4 := rfl
    generalize nnC (keepR m.xPool.xNodes [m.xS, m.xE, m.xD, m.xArg]) = rr at k0 k1 k2 k3 kl
    repeat (first
      | (refine ⟨by decide, by show _ < (rr.length : Int); rw [kl]; decide, ?_⟩; conv => whnf)
      | (refine ⟨_, k0, ?_⟩; conv => whnf)
      | (refine ⟨_, k1, ?_⟩; conv => whnf)
      | (refine ⟨_, k2, ?_⟩; conv => whnf)
      | (refine ⟨_, k3, ?_⟩; conv => whnf)
      | (refine ⟨rfl, ?_⟩; conv => whnf))
    have eT : tidyD m = ⟨⟨keepN m.xPool.xNodes [m.xS, m.xE, m.xD, m.xArg]⟩, m.xAt, kid (tblM m) m.xS, kid (tblM m) m.xE, kid (tblM m) m.xD, m.xState, m.xAsk, kid (tblM m) m.xArg⟩ := by unfold tidyD; rw [e, if_pos en]
    rw [eT]
    exact ⟨rfl, rfl⟩
  · have en : ¬ (m.xState = 1 ∨ m.xState = 2) := by
      rw [eqI_f] at a1 a2
      omega
    have e := r3 en
    rw [e] at hok hR
    refine (s_l7Roots_ok m.xPool [m.xS, m.xE, m.xD] hm.1 (by simp)).mono ?_
    rintro _ _ ⟨rfl, rfl⟩
    conv => whnf
    rw [hok, q0n]
    conv => whnf
    refine (s_l7Keep_ok m.xPool [m.xS, m.xE, m.xD] (by omega) hp (by simp) hR).mono ?_
    rintro _ _ ⟨rfl, rfl⟩
    conv => whnf
    have k0 : (nnC (keepR m.xPool.xNodes [m.xS, m.xE, m.xD]))[0]? = some [.sc (.int .i64 (kid (tblM m) m.xS))] := by unfold keepR tblM; rw [e]; rfl
    have k1 : (nnC (keepR m.xPool.xNodes [m.xS, m.xE, m.xD]))[1]? = some [.sc (.int .i64 (kid (tblM m) m.xE))] := by unfold keepR tblM; rw [e]; rfl
    have k2 : (nnC (keepR m.xPool.xNodes [m.xS, m.xE, m.xD]))[2]? = some [.sc (.int .i64 (kid (tblM m) m.xD))] := by unfold keepR tblM; rw [e]; rfl
    have kl : (nnC (keepR m.xPool.xNodes [m.xS, m.xE, m.xD])).length = 3 := rfl
    generalize nnC (keepR m.xPool.xNodes [m.xS, m.xE, m.xD]) = rr at k0 k1 k2 kl
    repeat (first
      | (refine ⟨by decide, by show _ < (rr.length : Int); rw [kl]; decide, ?_⟩; conv => whnf)
      | (refine ⟨_, k0, ?_⟩; conv => whnf)
      | (refine ⟨_, k1, ?_⟩; conv => whnf)
      | (refine ⟨_, k2, ?_⟩; conv => whnf)
      | (refine ⟨rfl, ?_⟩; conv => whnf))
    have eT : tidyD m = ⟨⟨keepN m.xPool.xNodes [m.xS, m.xE, m.xD]⟩, m.xAt, kid (tblM m) m.xS, kid (tblM m) m.xE, kid (tblM m) m.xD, m.xState, m.xAsk, m.xArg⟩ := by unfold tidyD; rw [e, if_neg en]
    rw [eT]
    exact ⟨rfl, rfl⟩

end Go.Proofs.YtcaonpncopfeoaaGreat.V
