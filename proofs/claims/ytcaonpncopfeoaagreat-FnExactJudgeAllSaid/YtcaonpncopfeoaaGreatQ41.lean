/- The laws FnExactJudgeOnce and FnExactJudgeAll's functions. -/
import Derived.Test.YtcaonpncopfeoaaGreatQ40
set_option linter.unusedVariables false
set_option linter.unusedSimpArgs false
namespace Go.Proofs.YtcaonpncopfeoaaGreat.V
open Go

def MdE41 (f : Nat) : List Mode :=
  match f with
  | 26 => [.rd, .rd]
  | 28 => [.rd]
  | 30 => [.rd, .rd]
  | 31 => [.rd]
  | 32 => [.rd]
  | 33 => [.rd]
  | 34 => [.rd]
  | 46 => [.rd]
  | 47 => [.rd]
  | 48 => [.rd]
  | 49 => [.rd]
  | _ => []
def E41 : Env := ⟨τ, MdE41⟩

theorem gvs_size {w : DWorld} {n : Int} (hn : w.sz ≤ n) : (w.xGave.length : Int) ≤ n ∧ ∀ g ∈ w.xGave, (g.length : Int) ≤ n ∧ ∀ s ∈ g, (s.size : Int) ≤ n := by
  have g1 := w.xCode.sz_nonneg
  have g2 := szL_nonneg DLink.sz_nonneg w.xLinks
  have g3 := szL_nonneg DGram.sz_nonneg w.xGrams
  have g4 := szL_nonneg DParked.sz_nonneg w.xParked
  have g5 := szL_nonneg szS_nonneg w.xGave
  have g6 := szSS_nonneg w.xTook
  have g7 := szL_nonneg DHome.sz_nonneg w.xHomes
  have e1 : w.sz = w.xCode.sz + ((w.xHomes.length : Int) + szL DHome.sz w.xHomes) + ((w.xLinks.length : Int) + szL DLink.sz w.xLinks) + ((w.xGrams.length : Int) + szL DGram.sz w.xGrams) + ((w.xParked.length : Int) + szL DParked.sz w.xParked) + szSS w.xGave + szSS w.xTook := rfl
  have e3 : szSS w.xGave = w.xGave.length + szL szS w.xGave := rfl
  refine ⟨by omega, fun g hg => ?_⟩
  have h1 := szL_mem szS_nonneg hg
  have h2 := szL_nonneg szB_nonneg g
  have e4 : szS g = g.length + szL szB g := rfl
  refine ⟨by omega, fun s hs => ?_⟩
  have h3 := szL_mem szB_nonneg hs
  have e5 : szB s = s.size := rfl
  omega
theorem bxs_size {w : DWorld} {n : Int} (hn : w.sz ≤ n) : ∀ h ∈ w.xHomes, ∀ s ∈ h.xP.xBox, (s.size : Int) ≤ n := by
  intro h hh s hs
  have h1 := szL_mem DHome.sz_nonneg hh
  have h2 : (s.size : Int) ≤ szS h.xP.xBox := by
    have e1 := szL_mem szB_nonneg hs
    have e2 : szB s = s.size := rfl
    have e3 : szS h.xP.xBox = h.xP.xBox.length + szL szB h.xP.xBox := rfl
    omega
  have g1 := w.xCode.sz_nonneg
  have g2 := szL_nonneg DLink.sz_nonneg w.xLinks
  have g3 := szL_nonneg DGram.sz_nonneg w.xGrams
  have g4 := szL_nonneg DParked.sz_nonneg w.xParked
  have g5 := szSS_nonneg w.xGave
  have g6 := szSS_nonneg w.xTook
  have g7 := h.xP.xM.sz_nonneg
  have g8 := szS_nonneg h.xP.xOut
  have e1 : w.sz = w.xCode.sz + ((w.xHomes.length : Int) + szL DHome.sz w.xHomes) + ((w.xLinks.length : Int) + szL DLink.sz w.xLinks) + ((w.xGrams.length : Int) + szL DGram.sz w.xGrams) + ((w.xParked.length : Int) + szL DParked.sz w.xParked) + szSS w.xGave + szSS w.xTook := rfl
  have e2 : h.sz = h.xP.xM.sz + szS h.xP.xBox + szS h.xP.xOut := rfl
  omega

noncomputable def judgeA (w : DWorld) : Bool := clB (judgeO w = true ∧ judgeN w = true ∧ judgeQ w = true)

set_option maxRecDepth 100000 in
theorem i_JudgeAll_ok (w : DWorld) (ho : w.ok) (hb' : ∀ h ∈ w.xHomes, ∀ s ∈ h.xP.xBox, s.size ≤ 1000000000) (hb : ∀ g ∈ w.xGave, ∀ s ∈ g, s.size ≤ 2000000) : FnV Tryz.prog 49 [wV w] fun rs outs => rs = [bR (judgeA w)] ∧ outs = [] := by
  refine fn_ok (E := E41) τ_ok mixed Tryz.func49 (by rfl) (by rfl) false (by simp [Tryz.f49]) ?_
  conv => whnf
  refine (i_JudgeOrder_ok w ho hb').mono ?_
  rintro _ _ ⟨rfl, rfl⟩
  conv => whnf
  refine br_if (fun h1 => ?_) (fun h1 => ?_) <;> rw [h1] <;> (conv => whnf)
  rotate_left
  · exact bR_eq (clB_f.2 fun h => by rw [h.1] at h1; cases h1).symm
  refine (i_JudgeOnce_ok w ho hb' hb).mono ?_
  rintro _ _ ⟨rfl, rfl⟩
  conv => whnf
  refine br_if (fun h2 => ?_) (fun h2 => ?_) <;> rw [h2] <;> (conv => whnf)
  rotate_left
  · exact bR_eq (clB_f.2 fun h => by rw [h.2.1] at h2; cases h2).symm
  refine (i_JudgeQueue_ok w ho hb').mono ?_
  rintro _ _ ⟨rfl, rfl⟩
  conv => whnf
  exact bR_eq (by
    cases h3 : judgeQ w with
    | true => exact (clB_t.2 ⟨h1, h2, h3⟩).symm
    | false => exact (clB_f.2 fun h => by rw [h.2.2] at h3; cases h3).symm)

set_option maxRecDepth 100000 in
theorem s_JudgeAll_ok (w : DWorld) (ho : w.ok) (hb' : ∀ h ∈ w.xHomes, ∀ s ∈ h.xP.xBox, s.size ≤ 1000000000) (hb : ∀ g ∈ w.xGave, ∀ s ∈ g, s.size ≤ 2000000) : FnV Tryz.prog 48 [wV w] fun rs outs => rs = [bR (judgeA w)] ∧ outs = [] := by
  refine fn_ok (E := E41) τ_ok mixed Tryz.func48 (by rfl) (by rfl) false (by simp [Tryz.f48]) ?_
  conv => whnf
  refine (s_JudgeOrder_ok w ho hb').mono ?_
  rintro _ _ ⟨rfl, rfl⟩
  conv => whnf
  refine br_if (fun h1 => ?_) (fun h1 => ?_) <;> rw [h1] <;> (conv => whnf)
  rotate_left
  · exact bR_eq (clB_f.2 fun h => by rw [h.1] at h1; cases h1).symm
  refine (s_JudgeOnce_ok w ho hb' hb).mono ?_
  rintro _ _ ⟨rfl, rfl⟩
  conv => whnf
  refine br_if (fun h2 => ?_) (fun h2 => ?_) <;> rw [h2] <;> (conv => whnf)
  rotate_left
  · exact bR_eq (clB_f.2 fun h => by rw [h.2.1] at h2; cases h2).symm
  refine (s_JudgeQueue_ok w ho hb').mono ?_
  rintro _ _ ⟨rfl, rfl⟩
  conv => whnf
  exact bR_eq (by
    cases h3 : judgeQ w with
    | true => exact (clB_t.2 ⟨h1, h2, h3⟩).symm
    | false => exact (clB_f.2 fun h => by rw [h.2.2] at h3; cases h3).symm)

set_option maxHeartbeats 1600000 in
set_option maxRecDepth 100000 in
theorem f_FnExactJudgeOnce (a : DWorld) (ho : a.ok) : FnV Tryz.prog 10 [.rdv true a.c] fun rs outs => rs = [bR true] ∧ outs = [] := by
  refine fn_ok (E := E41) τ_ok mixed Tryz.func10 (by rfl) (by rfl) false (by simp [Tryz.f10]) ?_
  conv => whnf
  refine (szWorld_ok a 1048576 (by omega) (by omega) ho).mono ?_
  rintro _ _ ⟨rfl, rfl⟩
  conv => whnf
  refine br_if (fun h => ?_) (fun h => ?_) <;> (try rw [h]) <;> (conv => whnf)
  · exact ⟨rfl, rfl⟩
  rw [ltI_f, ← Int.not_lt, szR_lt (by omega), Int.not_lt] at h
  have hb' : ∀ h ∈ a.xHomes, ∀ s ∈ h.xP.xBox, s.size ≤ 1000000000 := fun h' hh s hs => by
    have := bxs_size h h' hh s hs
    omega
  have hb : ∀ g ∈ a.xGave, ∀ s ∈ g, s.size ≤ 2000000 := fun g hg s hs => by
    have := ((gvs_size h).2 g hg).2 s hs
    omega
  refine (toWorld_ok a (by omega)).mono ?_
  rintro _ _ ⟨rfl, rfl⟩
  conv => whnf
  refine (s_JudgeOnce_ok a ho hb' hb).mono ?_
  rintro _ _ ⟨rfl, rfl⟩
  conv => whnf
  refine (toWorld_ok a (by omega)).mono ?_
  rintro _ _ ⟨rfl, rfl⟩
  conv => whnf
  refine (i_JudgeOnce_ok a ho hb' hb).mono ?_
  rintro _ _ ⟨rfl, rfl⟩
  conv => whnf
  have q0 : notB true = false := notB_f.2 rfl
  rw [eqB_self, q0]
  conv => whnf
  refine ⟨.or 0 (.or 1 (.or 2 (.or 3 (.take 4 .done) .nil) .nil) .nil) (.or 1 (.or 0 (.or 2 (.or 3 (.take 4 .done) .nil) .nil) (.or 2 (.or 0 (.or 3 (.take 4 .done) .nil) .nil) .nil)) .nil), by rfl, ?_⟩
  apply Exists.intro
  refine ⟨?_, ?_⟩
  · conv => whnf
    repeat' (first
      | (refine (toWorld_ok a (by omega)).mono ?_; rintro _ _ ⟨rfl, rfl⟩; conv => whnf)
      | (refine (eqWorld_ok a ho).mono ?_; rintro _ _ ⟨rfl, rfl⟩; conv => whnf)
      | exact norm_wk (keep := [26]) (kb := []) (ρ := []) rfl
      | (refine ⟨?_, ?_⟩ <;> conv => whnf)
      | fail)
  conv => whnf
  rw [q0]
  conv => whnf
  exact ⟨rfl, rfl⟩

theorem FnExactJudgeOnce_all {Cs : List C} (h : TyL rowWorld Cs) : FnV Tryz.prog 10 [.rdv true Cs] fun rs outs => rs = [bR true] ∧ outs = [] := by
  obtain ⟨a, rfl, ho⟩ := ty_World h
  exact f_FnExactJudgeOnce a ho

set_option maxHeartbeats 1600000 in
set_option maxRecDepth 100000 in
theorem f_FnExactJudgeAll (a : DWorld) (ho : a.ok) : FnV Tryz.prog 11 [.rdv true a.c] fun rs outs => rs = [bR true] ∧ outs = [] := by
  refine fn_ok (E := E41) τ_ok mixed Tryz.func11 (by rfl) (by rfl) false (by simp [Tryz.f11]) ?_
  conv => whnf
  refine (szWorld_ok a 1048576 (by omega) (by omega) ho).mono ?_
  rintro _ _ ⟨rfl, rfl⟩
  conv => whnf
  refine br_if (fun h => ?_) (fun h => ?_) <;> (try rw [h]) <;> (conv => whnf)
  · exact ⟨rfl, rfl⟩
  rw [ltI_f, ← Int.not_lt, szR_lt (by omega), Int.not_lt] at h
  have hb' : ∀ h ∈ a.xHomes, ∀ s ∈ h.xP.xBox, s.size ≤ 1000000000 := fun h' hh s hs => by
    have := bxs_size h h' hh s hs
    omega
  have hb : ∀ g ∈ a.xGave, ∀ s ∈ g, s.size ≤ 2000000 := fun g hg s hs => by
    have := ((gvs_size h).2 g hg).2 s hs
    omega
  refine (toWorld_ok a (by omega)).mono ?_
  rintro _ _ ⟨rfl, rfl⟩
  conv => whnf
  refine (s_JudgeAll_ok a ho hb' hb).mono ?_
  rintro _ _ ⟨rfl, rfl⟩
  conv => whnf
  refine (toWorld_ok a (by omega)).mono ?_
  rintro _ _ ⟨rfl, rfl⟩
  conv => whnf
  refine (i_JudgeAll_ok a ho hb' hb).mono ?_
  rintro _ _ ⟨rfl, rfl⟩
  conv => whnf
  have q0 : notB true = false := notB_f.2 rfl
  rw [eqB_self, q0]
  conv => whnf
  refine ⟨.or 0 (.or 1 (.or 2 (.or 3 (.take 4 .done) .nil) .nil) .nil) (.or 1 (.or 0 (.or 2 (.or 3 (.take 4 .done) .nil) .nil) (.or 2 (.or 0 (.or 3 (.take 4 .done) .nil) .nil) .nil)) .nil), by rfl, ?_⟩
  apply Exists.intro
  refine ⟨?_, ?_⟩
  · conv => whnf
    repeat' (first
      | (refine (toWorld_ok a (by omega)).mono ?_; rintro _ _ ⟨rfl, rfl⟩; conv => whnf)
      | (refine (eqWorld_ok a ho).mono ?_; rintro _ _ ⟨rfl, rfl⟩; conv => whnf)
      | exact norm_wk (keep := [26]) (kb := []) (ρ := []) rfl
      | (refine ⟨?_, ?_⟩ <;> conv => whnf)
      | fail)
  conv => whnf
  rw [q0]
  conv => whnf
  exact ⟨rfl, rfl⟩

theorem FnExactJudgeAll_all {Cs : List C} (h : TyL rowWorld Cs) : FnV Tryz.prog 11 [.rdv true Cs] fun rs outs => rs = [bR true] ∧ outs = [] := by
  obtain ⟨a, rfl, ho⟩ := ty_World h
  exact f_FnExactJudgeAll a ho

end Go.Proofs.YtcaonpncopfeoaaGreat.V
