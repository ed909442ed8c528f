/- What HomeOf comes to (seat r3). -/
import Derived.Test.YtppfojiogappaaaH1
import Derived.Test.YtppfojiogappaaaH2
import Derived.Test.YtppfojiogappaaaH3
import Derived.Test.YtppfojiogappaaaD2
set_option linter.unusedVariables false
set_option linter.unusedSimpArgs false
namespace Go.Proofs.Ytppfojiogappaaa.V
open Go

/-- The place in the list of the home of a process. -/
def hix (pid : Int) : List DHome → Int → Int
  | [], _ => -1
  | h :: r, k => if h.xP.xPid = pid then k else hix pid r (k + 1)

def Md20 (f : Nat) : List Mode :=
  match f with
  | 4 => [.rd, .rd]
  | 5 => [.rd, .rd]
  | 6 => [.rd]
  | 7 => [.rd, .rd]
  | 8 => [.rd, .rd]
  | 21 => [.rd, .clo]
  | 22 => [.rd, .mptr]
  | _ => []
def En20 : Env := ⟨τ, Md20⟩

theorem hix_step {pid : Int} {hs : List DHome} {k : Nat} {x : DHome} (hx : hs[k]? = some x) : hix pid (hs.drop k) k = if x.xP.xPid = pid then (k : Int) else hix pid (hs.drop (k + 1)) ((k : Int) + 1) := by
  obtain ⟨hlt, e⟩ := List.getElem?_eq_some_iff.1 hx
  rw [List.drop_eq_getElem_cons hlt, e]
  rfl

set_option maxRecDepth 100000 in
theorem homeOfS_ok (a : DWorld) (pid : Int) (hl : a.xHomes.length ≤ 9223372036854775807) : FnV Try.prog 5 [.rdv true a.c, iV pid] fun rs outs => rs = [iR (hix pid a.xHomes 0)] ∧ outs = [] := by
  refine fn_ok (E := En20) τ_ok mixed Try.func5 (by rfl) (by rfl) false (by simp [Try.f5]) ?_
  conv => whnf
  refine ⟨fun m s => ∃ (k : Int), s = ⟨[(1, .vals false [.sc (.int .i64 pid)]), (2, .bptr 2 0 0), (4, .vals false [.sc (.int .i64 0)]), (5, .vals false [.sc (.int .i64 k)])], [(2, ⟨0, a.x⟩)], []⟩ ∧ m = a.xHomes.length - k.toNat ∧ 0 ≤ k ∧ k ≤ a.xHomes.length ∧ hix pid (a.xHomes.drop k.toNat) k = hix pid a.xHomes 0,
    ⟨_, _, norm_wk (keep := [1, 2, 4, 5]) (kb := [2]) (ρ := []) rfl, ⟨0, rfl, rfl, by omega, by omega, rfl⟩⟩, ?_⟩
  rintro m _ ⟨k, rfl, rfl, k0, k1, hk⟩
  conv => whnf
  refine br_if (fun h => ?_) (fun h => ?_) <;> (try rw [h]) <;> (conv => whnf)
  · rw [ltI_t, List.length_map] at h
    obtain ⟨x, hx⟩ : ∃ x, a.xHomes[k.toNat]? = some x := ⟨_, List.getElem?_eq_getElem (by omega)⟩
    have hs := hix_step (pid := pid) hx
    rw [Int.toNat_of_nonneg k0] at hs
    rw [hs] at hk
    refine ⟨by omega, _, by rw [List.getElem?_map, hx]; rfl, ?_⟩
    conv => whnf
    refine br_if (fun h2 => ?_) (fun h2 => ?_) <;> (try rw [h2]) <;> (conv => whnf)
    · rw [eqI_t] at h2
      rw [if_pos h2] at hk
      rw [← hk]
      exact ⟨rfl, rfl⟩
    · rw [eqI_f] at h2
      rw [if_neg h2] at hk
      rw [wrp_i64 (x := k + 1) (by omega) (by omega)]
      have ek : (k + 1).toNat = k.toNat + 1 := by omega
      exact ⟨a.xHomes.length - (k + 1).toNat, _, by omega, norm_wk (keep := [1, 2, 4, 5]) (kb := [2]) (ρ := []) rfl, ⟨k + 1, rfl, rfl, by omega, by omega, by rw [ek]; exact hk⟩⟩
  · rw [ltI_f, List.length_map] at h
    have hd : a.xHomes.drop k.toNat = [] := List.drop_eq_nil_of_le (by omega)
    rw [hd] at hk
    rw [← hk]
    exact ⟨rfl, rfl⟩

theorem szW {a : DWorld} (ho : a.ok) : 0 ≤ a.sz := a.sz_nonneg

set_option maxHeartbeats 1600000 in
set_option maxRecDepth 100000 in
theorem f3_of (h7 : ∀ (a : DWorld) (pid : Int), a.ok → FnV Try.prog 7 [.rdv true a.c, iV pid] fun rs outs => rs = [iR (hix pid a.xHomes 0)] ∧ outs = []) (a : DWorld) (pid : Int) (ho : a.ok) :
    FnV Try.prog 3 [.rdv true a.c, iV pid] fun rs outs => rs = [bR true] ∧ outs = [] := by
  refine fn_ok (E := En20) τ_ok mixed Try.func3 (by rfl) (by rfl) false (by simp [Try.f3]) ?_
  have hl : a.xHomes.length ≤ 9223372036854775807 := ho.2.2.1.1
  conv => whnf
  refine (szWorld_ok a 1048576 (by omega) (by omega) ho).mono ?_
  rintro _ _ ⟨rfl, rfl⟩
  conv => whnf
  refine br_if (fun h => ?_) (fun h => ?_) <;> (try rw [h]) <;> (conv => whnf)
  · exact ⟨rfl, rfl⟩
  rw [ltI_f, ← Int.not_lt, szR_lt (by omega), Int.not_lt] at h
  refine (toWorld_ok a (by omega)).mono ?_
  rintro _ _ ⟨rfl, rfl⟩
  conv => whnf
  refine (homeOfS_ok a pid hl).mono ?_
  rintro _ _ ⟨rfl, rfl⟩
  conv => whnf
  refine (toWorld_ok a (by omega)).mono ?_
  rintro _ _ ⟨rfl, rfl⟩
  conv => whnf
  refine (h7 a pid ho).mono ?_
  rintro _ _ ⟨rfl, rfl⟩
  conv => whnf
  have q0 : notB true = false := notB_f.2 rfl
  rw [eqI_self, q0]
  conv => whnf
  refine ⟨.or 0 (.or 1 (.or 2 (.or 3 (.take 4 .done) .nil) .nil) .nil) (.or 1 (.or 0 (.or 2 (.or 3 (.take 4 .done) .nil) .nil) (.or 2 (.or 0 (.or 3 (.take 4 .done) .nil) .nil) .nil)) .nil), by rfl, ?_⟩
  apply Exists.intro
  refine ⟨?_, ?_⟩
  · conv => whnf
    refine ⟨?_, ?_⟩
    · conv => whnf
      refine (toWorld_ok a (by omega)).mono ?_
      rintro _ _ ⟨rfl, rfl⟩
      conv => whnf
      refine (eqWorld_ok a ho).mono ?_
      rintro _ _ ⟨rfl, rfl⟩
      conv => whnf
      exact norm_wk (keep := [30]) (kb := []) (ρ := []) rfl
    · conv => whnf
      refine ⟨?_, ?_⟩
      · conv => whnf
        refine (toWorld_ok a (by omega)).mono ?_
        rintro _ _ ⟨rfl, rfl⟩
        conv => whnf
        refine (eqWorld_ok a ho).mono ?_
        rintro _ _ ⟨rfl, rfl⟩
        conv => whnf
        exact norm_wk (keep := [30]) (kb := []) (ρ := []) rfl
      · conv => whnf
        refine (toWorld_ok a (by omega)).mono ?_
        rintro _ _ ⟨rfl, rfl⟩
        conv => whnf
        refine (eqWorld_ok a ho).mono ?_
        rintro _ _ ⟨rfl, rfl⟩
        conv => whnf
        exact norm_wk (keep := [30]) (kb := []) (ρ := []) rfl
  conv => whnf
  rw [q0]
  conv => whnf
  exact ⟨rfl, rfl⟩

set_option maxRecDepth 100000 in
theorem f22_ok (x : DHome) (pid : Int) : FnV Try.prog 22 [.rdv true x.c, .mptr none [.sc (.int .i64 pid)]] fun rs outs => rs = [bR (eqI x.xP.xPid pid)] ∧ outs = [[.sc (.int .i64 pid)]] := by
  refine fn_ok (E := En20) τ_ok mixed Try.func22 (by rfl) (by rfl) false (by simp [Try.f22]) ?_
  conv => whnf
  exact ⟨rfl, rfl⟩

set_option maxRecDepth 100000 in
theorem f21_ok (hs : List DHome) (pid : Int) (hl : hs.length ≤ 9223372036854775807) : FnV Try.prog 21 [.rdv false [.sl true 12 (hs.map DHome.c)], .mptr (some 22) [.sc (.int .i64 pid)]] fun rs outs => rs = [iR (hix pid hs 0)] ∧ outs = [[.sc (.int .i64 pid)]] := by
  refine fn_ok (E := En20) τ_ok mixed Try.func21 (by rfl) (by rfl) false (by simp [Try.f21]) ?_
  conv => whnf
  rw [List.length_map]
  refine ⟨fun m s => ∃ (k : Int), s = ⟨[(0, .vals false [.rd none 12 (hs.map DHome.c)]), (1, .clo 22 1000001 0), (4, .vals false [.sc (.int .i64 0)]), (7, .vals false [.sc (.int .i64 (hs.length : Nat))]), (8, .vals false [.sc (.int .i64 k)])], [(1000001, ⟨0, [.sc (.int .i64 pid)]⟩)], []⟩ ∧ m = hs.length - k.toNat ∧ 0 ≤ k ∧ k ≤ hs.length ∧ hix pid (hs.drop k.toNat) k = hix pid hs 0,
    ⟨_, _, norm_wk (keep := [0, 1, 4, 7, 8]) (kb := []) (ρ := []) rfl, ⟨0, rfl, rfl, by omega, by omega, rfl⟩⟩, ?_⟩
  rintro m _ ⟨k, rfl, rfl, k0, k1, hk⟩
  conv => whnf
  refine br_if (fun h => ?_) (fun h => ?_) <;> (try rw [h]) <;> (conv => whnf)
  · rw [ltI_t] at h
    obtain ⟨x, hx⟩ : ∃ x, hs[k.toNat]? = some x := ⟨_, List.getElem?_eq_getElem (by omega)⟩
    have hss := hix_step (pid := pid) hx
    rw [Int.toNat_of_nonneg k0] at hss
    rw [hss] at hk
    refine ⟨by omega, _, by rw [List.getElem?_map, hx]; rfl, ?_⟩
    conv => whnf
    refine (f22_ok x pid).mono ?_
    rintro _ _ ⟨rfl, rfl⟩
    conv => whnf
    refine br_if (fun h2 => ?_) (fun h2 => ?_) <;> (try rw [h2]) <;> (conv => whnf)
    · rw [eqI_t] at h2
      rw [if_pos h2] at hk
      rw [← hk]
      exact ⟨rfl, rfl⟩
    · rw [eqI_f] at h2
      rw [if_neg h2] at hk
      rw [wrp_i64 (x := k + 1) (by omega) (by omega)]
      have ek : (k + 1).toNat = k.toNat + 1 := by omega
      exact ⟨hs.length - (k + 1).toNat, _, by omega, norm_wk (keep := [0, 1, 4, 7, 8]) (kb := []) (ρ := []) rfl, ⟨k + 1, rfl, rfl, by omega, by omega, by rw [ek]; exact hk⟩⟩
  · rw [ltI_f] at h
    have hd : hs.drop k.toNat = [] := List.drop_eq_nil_of_le (by omega)
    rw [hd] at hk
    rw [← hk]
    exact ⟨rfl, rfl⟩

set_option maxRecDepth 100000 in
theorem f7_ok (a : DWorld) (pid : Int) (ho : a.ok) : FnV Try.prog 7 [.rdv true a.c, iV pid] fun rs outs => rs = [iR (hix pid a.xHomes 0)] ∧ outs = [] := by
  refine fn_ok (E := En20) τ_ok mixed Try.func7 (by rfl) (by rfl) false (by simp [Try.f7]) ?_
  conv => whnf
  refine (f21_ok a.xHomes pid ho.2.2.1.1).mono ?_
  rintro _ _ ⟨rfl, rfl⟩
  conv => whnf
  exact ⟨rfl, rfl⟩

theorem f3_all {Cs : List C} (pid : Int) (h : TyL rowWorld Cs) : FnV Try.prog 3 [.rdv true Cs, iV pid] fun rs outs => rs = [bR true] ∧ outs = [] := by
  obtain ⟨a, rfl, ho⟩ := ty_World h
  exact f3_of (fun a pid ho => f7_ok a pid ho) a pid ho

end Go.Proofs.Ytppfojiogappaaa.V
