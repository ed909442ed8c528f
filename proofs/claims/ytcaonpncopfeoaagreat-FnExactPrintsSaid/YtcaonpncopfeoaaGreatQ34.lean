/- Homes. -/
import Derived.Test.YtcaonpncopfeoaaGreatQ27
set_option linter.unusedVariables false
set_option linter.unusedSimpArgs false
namespace Go.Proofs.YtcaonpncopfeoaaGreat.V
open Go

def MdE34 (f : Nat) : List Mode :=
  match f with
  | 237 => [.rd, .clo]
  | 238 => [.rd, .mptr]
  | _ => []
def E34 : Env := ⟨τ, MdE34⟩

theorem iR_eq {x y : Int} {o o' : List (List C)} (h : x = y) (h2 : o = o') : [iR x] = [iR y] ∧ o = o' := ⟨by rw [h], h2⟩
theorem hmC_at {l : List DHome} {k : Nat} {x : DHome} (h : l[k]? = some x) : (l.map DHome.c)[k]? = some x.c := by rw [List.getElem?_map, h]; rfl
theorem hmC_len (l : List DHome) : (l.map DHome.c).length = l.length := List.length_map ..
noncomputable def pidP (pid : Int) (x : DHome) : Bool := eqI x.xP.xPid pid
noncomputable def hIx (w : DWorld) (pid : Int) : Int := fidx (fun x : DHome => pidP pid x) w.xHomes 0

set_option maxRecDepth 100000 in
theorem i_HomeOf1_ok (pid : Int) (x : DHome) : FnV Tryz.prog 238 [.rdv true x.c, .mptr none [.sc (.int .i64 pid)]] fun rs outs => rs = [bR (pidP pid x)] ∧ outs = [[.sc (.int .i64 pid)]] := by
  refine fn_ok (E := E34) τ_ok mixed Tryz.func238 (by rfl) (by rfl) false (by simp [Tryz.f238]) ?_
  conv => whnf
  exact ⟨rfl, rfl⟩

set_option maxRecDepth 100000 in
theorem i_Home_ix (pid : Int) (xs : List DHome) (hl : xs.length ≤ 9223372036854775807) : FnV Tryz.prog 237 [.rdv false [.sl true 12 (xs.map (fun x : DHome => x.c))], .mptr (some 238) [.sc (.int .i64 pid)]] fun rs outs => rs = [iR (fidx (fun x : DHome => pidP pid x) xs 0)] ∧ outs = [[.sc (.int .i64 pid)]] := by
  refine fn_ok (E := E34) τ_ok mixed Tryz.func237 (by rfl) (by rfl) false (by simp [Tryz.f237]) ?_
  conv => whnf
  rw [List.length_map]
  refine ⟨fun m s => ∃ (k : Int), s = ⟨[(0, .vals false [.rd none 12 (xs.map (fun x : DHome => x.c))]), (1, .clo 238 1000001 0), (4, .vals false [.sc (.int .i64 0)]), (7, .vals false [.sc (.int .i64 (xs.length : Nat))]), (8, .vals false [.sc (.int .i64 k)])], [(1000001, ⟨0, [.sc (.int .i64 pid)]⟩)], []⟩ ∧ m = xs.length - k.toNat ∧ 0 ≤ k ∧ k ≤ xs.length ∧ fidx (fun x : DHome => pidP pid x) (xs.drop k.toNat) k = fidx (fun x : DHome => pidP pid x) xs 0,
    ⟨_, _, norm_wk (keep := [0, 1, 4, 7, 8]) (kb := [1000001]) (ρ := []) rfl, ⟨0, rfl, rfl, by omega, by omega, rfl⟩⟩, ?_⟩
  rintro m _ ⟨k, rfl, rfl, k0, k1, hk⟩
  conv => whnf
  refine br_if (fun h => ?_) (fun h => ?_) <;> (try rw [h]) <;> (conv => whnf)
  · rw [ltI_t] at h
    obtain ⟨x, hx⟩ : ∃ x, xs[k.toNat]? = some x := ⟨_, List.getElem?_eq_getElem (by omega)⟩
    have hss := fidx_step (p := (fun x : DHome => pidP pid x)) hx
    rw [Int.toNat_of_nonneg k0] at hss
    rw [hss] at hk
    refine ⟨by omega, _, by rw [List.getElem?_map, hx]; rfl, ?_⟩
    conv => whnf
    refine (i_HomeOf1_ok pid x).mono ?_
    rintro _ _ ⟨rfl, rfl⟩
    conv => whnf
    refine br_if (fun h2 => ?_) (fun h2 => ?_) <;> (try rw [h2]) <;> (conv => whnf)
    · rw [if_pos h2] at hk
      rw [← hk]
      exact ⟨rfl, rfl⟩
    · rw [if_neg (by rw [h2]; decide)] at hk
      rw [wrp_i64 (x := k + 1) (by omega) (by omega)]
      have ek : (k + 1).toNat = k.toNat + 1 := by omega
      exact ⟨xs.length - (k + 1).toNat, _, by omega, norm_wk (keep := [0, 1, 4, 7, 8]) (kb := [1000001]) (ρ := []) rfl, ⟨k + 1, rfl, rfl, by omega, by omega, by rw [ek]; exact hk⟩⟩
  · rw [ltI_f] at h
    rw [List.drop_eq_nil_of_le (by omega)] at hk
    rw [← hk]
    exact ⟨rfl, rfl⟩

set_option maxRecDepth 100000 in
theorem i_HomeOf_ok (w : DWorld) (pid : Int) (ho : w.ok) : FnV Tryz.prog 145 [wV w, iV pid] fun rs outs => rs = [iR (hIx w pid)] ∧ outs = [] := by
  refine fn_ok (E := E34) τ_ok mixed Tryz.func145 (by rfl) (by rfl) false (by simp [Tryz.f145]) ?_
  conv => whnf
  refine (i_Home_ix pid w.xHomes ho.2.2.1.1).mono ?_
  rintro _ _ ⟨rfl, rfl⟩
  conv => whnf
  exact ⟨rfl, rfl⟩

set_option maxRecDepth 100000 in
theorem s_HomeOf_ok (w : DWorld) (pid : Int) (ho : w.ok) : FnV Tryz.prog 144 [wV w, iV pid] fun rs outs => rs = [iR (hIx w pid)] ∧ outs = [] := by
  refine fn_ok (E := E34) τ_ok mixed Tryz.func144 (by rfl) (by rfl) false (by simp [Tryz.f144]) ?_
  have hl : w.xHomes.length ≤ 9223372036854775807 := ho.2.2.1.1
  conv => whnf
  refine ⟨fun m s => ∃ (k : Int), s = ⟨[(1, .vals false [.sc (.int .i64 pid)]), (2, .bptr 2 0 0), (4, .vals false [.sc (.int .i64 0)]), (5, .vals false [.sc (.int .i64 k)])], [(2, ⟨0, w.x⟩)], []⟩ ∧ m = w.xHomes.length - k.toNat ∧ 0 ≤ k ∧ k ≤ w.xHomes.length ∧ fidx (fun x : DHome => pidP pid x) (w.xHomes.drop k.toNat) k = hIx w pid,
    ⟨_, _, norm_wk (keep := [1, 2, 4, 5]) (kb := [2]) (ρ := []) rfl, ⟨0, rfl, rfl, by omega, by omega, rfl⟩⟩, ?_⟩
  rintro m _ ⟨k, rfl, rfl, k0, k1, hk⟩
  conv => whnf
  refine br_if (fun h => ?_) (fun h => ?_) <;> (try rw [h]) <;> (conv => whnf)
  · rw [ltI_t, List.length_map] at h
    obtain ⟨x, hx⟩ : ∃ x, w.xHomes[k.toNat]? = some x := ⟨_, List.getElem?_eq_getElem (by omega)⟩
    have hs := fidx_step (p := fun x : DHome => pidP pid x) hx
    rw [Int.toNat_of_nonneg k0] at hs
    rw [hs] at hk
    refine ⟨by omega, _, by rw [List.getElem?_map, hx]; rfl, ?_⟩
    conv => whnf
    refine br_if (fun h2 => ?_) (fun h2 => ?_) <;> (try rw [h2]) <;> (conv => whnf)
    · rw [if_pos (show pidP pid x = true from h2)] at hk
      rw [← hk]
      exact ⟨rfl, rfl⟩
    · rw [if_neg (show ¬ pidP pid x = true from fun e => by unfold pidP at e; rw [h2] at e; cases e)] at hk
      rw [wrp_i64 (x := k + 1) (by omega) (by omega)]
      have ek : (k + 1).toNat = k.toNat + 1 := by omega
      exact ⟨w.xHomes.length - (k + 1).toNat, _, by omega, norm_wk (keep := [1, 2, 4, 5]) (kb := [2]) (ρ := []) rfl, ⟨k + 1, rfl, rfl, by omega, by omega, by rw [ek]; exact hk⟩⟩
  · rw [ltI_f, List.length_map] at h
    rw [List.drop_eq_nil_of_le (by omega)] at hk
    rw [← hk]
    exact ⟨rfl, rfl⟩

end Go.Proofs.YtcaonpncopfeoaaGreat.V
