/- The laws FnExactJudgeOrder and FnExactJudgeQueue's functions. -/
import Derived.Test.YtcaonpncopfeoaaGreatH1
import Derived.Test.YtcaonpncopfeoaaGreatH2
import Derived.Test.YtcaonpncopfeoaaGreatH3
import Derived.Test.YtcaonpncopfeoaaGreatD2
import Derived.Test.YtcaonpncopfeoaaGreatQ27
set_option linter.unusedVariables false
set_option linter.unusedSimpArgs false
namespace Go.Proofs.YtcaonpncopfeoaaGreat.V
open Go

def MdE28 (f : Nat) : List Mode :=
  match f with
  | 26 => [.rd, .rd]
  | 28 => [.rd]
  | 30 => [.rd, .rd]
  | 31 => [.rd]
  | 32 => [.rd]
  | 33 => [.rd]
  | 34 => [.rd]
  | _ => []
def E28 : Env := ⟨τ, MdE28⟩

theorem bx_size {w : DWorld} {n : Int} (hn : w.sz ≤ n) : ∀ h ∈ w.xHomes, ∀ s ∈ h.xP.xBox, (s.size : Int) ≤ n := by
  intro h hh s hs
  have h1 := szL_mem DHome.sz_nonneg hh
  have h2 : (s.size : Int) ≤ szS h.xP.xBox := by
    have e1 := szL_mem szB_nonneg hs
    have e2 : szB s = s.size := rfl
    have e3 : szS h.xP.xBox = h.xP.xBox.length + szL szB h.xP.xBox := rfl
    omega
  have g1 := w.xCode.sz_nonneg
  have g2 := szL_nonneg DLink.sz_nonneg w.xLinks
  have g3 := szL_nonneg DGram.sz_nonneg w.xGrams
  have g4 := szL_nonneg DParked.sz_nonneg w.xParked
  have g5 := szSS_nonneg w.xGave
  have g6 := szSS_nonneg w.xTook
  have g7 := h.xP.xM.sz_nonneg
  have g8 := szS_nonneg h.xP.xOut
  have e1 : w.sz = w.xCode.sz + ((w.xHomes.length : Int) + szL DHome.sz w.xHomes) + ((w.xLinks.length : Int) + szL DLink.sz w.xLinks) + ((w.xGrams.length : Int) + szL DGram.sz w.xGrams) + ((w.xParked.length : Int) + szL DParked.sz w.xParked) + szSS w.xGave + szSS w.xTook := rfl
  have e2 : h.sz = h.xP.xM.sz + szS h.xP.xBox + szS h.xP.xOut := rfl
  omega


set_option maxHeartbeats 1600000 in
set_option maxRecDepth 100000 in
theorem f_FnExactJudgeOrder (a : DWorld) (ho : a.ok) : FnV Tryz.prog 5 [.rdv true a.c] fun rs outs => rs = [bR true] ∧ outs = [] := by
  refine fn_ok (E := E28) τ_ok mixed Tryz.func5 (by rfl) (by rfl) false (by simp [Tryz.f5]) ?_
  conv => whnf
  refine (szWorld_ok a 1048576 (by omega) (by omega) ho).mono ?_
  rintro _ _ ⟨rfl, rfl⟩
  conv => whnf
  refine br_if (fun h => ?_) (fun h => ?_) <;> (try rw [h]) <;> (conv => whnf)
  · exact ⟨rfl, rfl⟩
  rw [ltI_f, ← Int.not_lt, szR_lt (by omega), Int.not_lt] at h
  have hb : ∀ h ∈ a.xHomes, ∀ s ∈ h.xP.xBox, s.size ≤ 1000000000 := fun h' hh s hs => by
    have := bx_size h h' hh s hs
    omega
  refine (toWorld_ok a (by omega)).mono ?_
  rintro _ _ ⟨rfl, rfl⟩
  conv => whnf
  refine (s_JudgeOrder_ok a ho hb).mono ?_
  rintro _ _ ⟨rfl, rfl⟩
  conv => whnf
  refine (toWorld_ok a (by omega)).mono ?_
  rintro _ _ ⟨rfl, rfl⟩
  conv => whnf
  refine (i_JudgeOrder_ok a ho hb).mono ?_
  rintro _ _ ⟨rfl, rfl⟩
  conv => whnf
  have q0 : notB true = false := notB_f.2 rfl
  rw [eqB_self, q0]
  conv => whnf
  refine ⟨.or 0 (.or 1 (.or 2 (.or 3 (.take 4 .done) .nil) .nil) .nil) (.or 1 (.or 0 (.or 2 (.or 3 (.take 4 .done) .nil) .nil) (.or 2 (.or 0 (.or 3 (.take 4 .done) .nil) .nil) .nil)) .nil), by rfl, ?_⟩
  apply Exists.intro
  refine ⟨?_, ?_⟩
  · conv => whnf
    repeat' (first
      | (refine (toWorld_ok a (by omega)).mono ?_; rintro _ _ ⟨rfl, rfl⟩; conv => whnf)
      | (refine (eqWorld_ok a ho).mono ?_; rintro _ _ ⟨rfl, rfl⟩; conv => whnf)
      | exact norm_wk (keep := [26]) (kb := []) (ρ := []) rfl
      | (refine ⟨?_, ?_⟩ <;> conv => whnf)
      | fail)
  conv => whnf
  rw [q0]
  conv => whnf
  exact ⟨rfl, rfl⟩

theorem FnExactJudgeOrder_all {Cs : List C} (h : TyL rowWorld Cs) : FnV Tryz.prog 5 [.rdv true Cs] fun rs outs => rs = [bR true] ∧ outs = [] := by
  obtain ⟨a, rfl, ho⟩ := ty_World h
  exact f_FnExactJudgeOrder a ho

set_option maxHeartbeats 1600000 in
set_option maxRecDepth 100000 in
theorem f_FnExactJudgeQueue (a : DWorld) (ho : a.ok) : FnV Tryz.prog 6 [.rdv true a.c] fun rs outs => rs = [bR true] ∧ outs = [] := by
  refine fn_ok (E := E28) τ_ok mixed Tryz.func6 (by rfl) (by rfl) false (by simp [Tryz.f6]) ?_
  conv => whnf
  refine (szWorld_ok a 1048576 (by omega) (by omega) ho).mono ?_
  rintro _ _ ⟨rfl, rfl⟩
  conv => whnf
  refine br_if (fun h => ?_) (fun h => ?_) <;> (try rw [h]) <;> (conv => whnf)
  · exact ⟨rfl, rfl⟩
  rw [ltI_f, ← Int.not_lt, szR_lt (by omega), Int.not_lt] at h
  have hb : ∀ h ∈ a.xHomes, ∀ s ∈ h.xP.xBox, s.size ≤ 1000000000 := fun h' hh s hs => by
    have := bx_size h h' hh s hs
    omega
  refine (toWorld_ok a (by omega)).mono ?_
  rintro _ _ ⟨rfl, rfl⟩
  conv => whnf
  refine (s_JudgeQueue_ok a ho hb).mono ?_
  rintro _ _ ⟨rfl, rfl⟩
  conv => whnf
  refine (toWorld_ok a (by omega)).mono ?_
  rintro _ _ ⟨rfl, rfl⟩
  conv => whnf
  refine (i_JudgeQueue_ok a ho hb).mono ?_
  rintro _ _ ⟨rfl, rfl⟩
  conv => whnf
  have q0 : notB true = false := notB_f.2 rfl
  rw [eqB_self, q0]
  conv => whnf
  refine ⟨.or 0 (.or 1 (.or 2 (.or 3 (.take 4 .done) .nil) .nil) .nil) (.or 1 (.or 0 (.or 2 (.or 3 (.take 4 .done) .nil) .nil) (.or 2 (.or 0 (.or 3 (.take 4 .done) .nil) .nil) .nil)) .nil), by rfl, ?_⟩
  apply Exists.intro
  refine ⟨?_, ?_⟩
  · conv => whnf
    repeat' (first
      | (refine (toWorld_ok a (by omega)).mono ?_; rintro _ _ ⟨rfl, rfl⟩; conv => whnf)
      | (refine (eqWorld_ok a ho).mono ?_; rintro _ _ ⟨rfl, rfl⟩; conv => whnf)
      | exact norm_wk (keep := [26]) (kb := []) (ρ := []) rfl
      | (refine ⟨?_, ?_⟩ <;> conv => whnf)
      | fail)
  conv => whnf
  rw [q0]
  conv => whnf
  exact ⟨rfl, rfl⟩

theorem FnExactJudgeQueue_all {Cs : List C} (h : TyL rowWorld Cs) : FnV Tryz.prog 6 [.rdv true Cs] fun rs outs => rs = [bR true] ∧ outs = [] := by
  obtain ⟨a, rfl, ho⟩ := ty_World h
  exact f_FnExactJudgeQueue a ho

end Go.Proofs.YtcaonpncopfeoaaGreat.V
