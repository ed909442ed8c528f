/- The law FnExactPrints' function. -/
import Derived.Test.YtcaonpncopfeoaaGreatH1
import Derived.Test.YtcaonpncopfeoaaGreatH2
import Derived.Test.YtcaonpncopfeoaaGreatH3
import Derived.Test.YtcaonpncopfeoaaGreatD2
import Derived.Test.YtcaonpncopfeoaaGreatH5
import Derived.Test.YtcaonpncopfeoaaGreatH8
import Derived.Test.YtcaonpncopfeoaaGreatQ44
set_option linter.unusedVariables false
set_option linter.unusedSimpArgs false
namespace Go.Proofs.YtcaonpncopfeoaaGreat.V
open Go

def MdE45 (f : Nat) : List Mode :=
  match f with
  | 26 => [.rd, .rd]
  | 28 => [.rd]
  | 30 => [.rd, .rd]
  | 37 => [.mv [true, true, true, false, true, true, true, true, false, true, true], .rd]
  | 39 => [.rd, .rd]
  | 40 => [.rd, .rd]
  | 41 => [.rd, .rd]
  | 42 => [.mi, .rd]
  | 43 => [.rd, .rd]
  | _ => []
def E45 : Env := ⟨τ, MdE45⟩

theorem bxp_size {w : DWorld} {n : Int} (hn : w.sz ≤ n) : ∀ h ∈ w.xHomes, ∀ s ∈ h.xP.xBox, (s.size : Int) ≤ n := by
  intro h hh s hs
  have h1 := szL_mem DHome.sz_nonneg hh
  have h2 : (s.size : Int) ≤ szS h.xP.xBox := by
    have e1 := szL_mem szB_nonneg hs
    have e2 : szB s = s.size := rfl
    have e3 : szS h.xP.xBox = h.xP.xBox.length + szL szB h.xP.xBox := rfl
    omega
  have g1 := w.xCode.sz_nonneg
  have g2 := szL_nonneg DLink.sz_nonneg w.xLinks
  have g3 := szL_nonneg DGram.sz_nonneg w.xGrams
  have g4 := szL_nonneg DParked.sz_nonneg w.xParked
  have g5 := szSS_nonneg w.xGave
  have g6 := szSS_nonneg w.xTook
  have g7 := h.xP.xM.sz_nonneg
  have g8 := szS_nonneg h.xP.xOut
  have e1 : w.sz = w.xCode.sz + ((w.xHomes.length : Int) + szL DHome.sz w.xHomes) + ((w.xLinks.length : Int) + szL DLink.sz w.xLinks) + ((w.xGrams.length : Int) + szL DGram.sz w.xGrams) + ((w.xParked.length : Int) + szL DParked.sz w.xParked) + szSS w.xGave + szSS w.xTook := rfl
  have e2 : h.sz = h.xP.xM.sz + szS h.xP.xBox + szS h.xP.xOut := rfl
  omega
theorem pr_len (w : DWorld) (pid : Int) : (prI w pid).length ≤ 40 := by
  unfold prI
  split
  · rename_i h
    split
    · rename_i x hx
      obtain ⟨-, -, -, -, -, -, -, h8, -⟩ := worldOk_t.1 h.1
      exact (procOk_t.1 (h8 x (List.mem_of_getElem? hx)).2).2.2.2.1
    · exact Nat.zero_le _
  · exact Nat.zero_le _

set_option maxHeartbeats 1600000 in
set_option maxRecDepth 100000 in
theorem f_FnExactPrints (a : DWorld) (pid : Int) (ho : a.ok) : FnV Tryz.prog 8 [.rdv true a.c, iV pid] fun rs outs => rs = [bR true] ∧ outs = [] := by
  refine fn_ok (E := E45) τ_ok mixed Tryz.func8 (by rfl) (by rfl) false (by simp [Tryz.f8]) ?_
  conv => whnf
  refine (szWorld_ok a 1048576 (by omega) (by omega) ho).mono ?_
  rintro _ _ ⟨rfl, rfl⟩
  conv => whnf
  refine br_if (fun h => ?_) (fun h => ?_) <;> (try rw [h]) <;> (conv => whnf)
  · exact ⟨rfl, rfl⟩
  rw [ltI_f, ← Int.not_lt, szR_lt (by omega), Int.not_lt] at h
  have hb : ∀ h ∈ a.xHomes, ∀ s ∈ h.xP.xBox, s.size ≤ 1000000000 := fun h' hh s hs => by
    have := bxp_size h h' hh s hs
    omega
  obtain ⟨L, hL⟩ : ∃ L, prI a pid = L := ⟨_, rfl⟩
  have hl : L.length ≤ 40 := by rw [← hL]; exact pr_len a pid
  have hS := s_Prints_ok a pid ho hb
  have hI := i_Prints_ok a pid ho hb
  rw [hL] at hS hI
  have q0 : notB true = false := notB_f.2 rfl
  have wz : mzS L = L.length := szL_one L
  have ww : 1 + a.wz ≤ 1000000000 := by
    have := a.wz_le
    omega
  have wn := a.wz_nonneg
  refine (toWorld_ok a (by omega)).mono ?_
  rintro _ _ ⟨rfl, rfl⟩
  conv => whnf
  refine hS.mono ?_
  rintro _ _ ⟨rfl, rfl⟩
  conv => whnf
  refine (toWorld_ok a (by omega)).mono ?_
  rintro _ _ ⟨rfl, rfl⟩
  conv => whnf
  refine hI.mono ?_
  rintro _ _ ⟨rfl, rfl⟩
  conv => whnf
  refine (eqStringS_ok L (by omega)).mono ?_
  rintro _ _ ⟨rfl, rfl⟩
  conv => whnf
  rw [q0]
  conv => whnf
  refine ⟨.or 0 (.or 1 (.or 2 (.or 3 (.take 4 .done) .nil) .nil) .nil) (.or 1 (.or 0 (.or 2 (.or 3 (.take 4 .done) .nil) .nil) (.or 2 (.or 0 (.or 3 (.take 4 .done) .nil) .nil) .nil)) .nil), by rfl, ?_⟩
  apply Exists.intro
  refine ⟨?_, ?_⟩
  · conv => whnf
    repeat' (first
      | (refine (toWorld_ok a (by omega)).mono ?_; rintro _ _ ⟨rfl, rfl⟩; conv => whnf)
      | (refine (eqWorld_ok a ho).mono ?_; rintro _ _ ⟨rfl, rfl⟩; conv => whnf)
      | exact norm_wk (keep := [1, 2, 4, 6, 7, 8, 35]) (kb := [2, 7]) (ρ := [(23, some 501), (97, some 502), (171, some 503), (245, some 504), (319, some 505), (393, some 506), (467, some 507), (541, some 508), (615, some 509), (21, some 521), (26, some 522)]) rfl
      | (refine ⟨?_, ?_⟩ <;> conv => whnf)
      | fail)
  conv => whnf
  rw [q0]
  conv => whnf
  refine (markWorld_ok a 1 (by omega) ww ho).mono ?_
  rintro _ _ ⟨rfl, rfl⟩
  conv => whnf
  refine br_if (fun h2 => ?_) (fun h2 => ?_) <;> (try rw [h2]) <;> (conv => whnf)
  · rw [ltI_t] at h2
    omega
  refine (eqStringS_ok L (by omega)).mono ?_
  rintro _ _ ⟨rfl, rfl⟩
  conv => whnf
  rw [q0]
  conv => whnf
  refine (markStringS_ok L 1 (by omega) (by omega)).mono ?_
  rintro _ _ ⟨rfl, rfl⟩
  conv => whnf
  refine (heldStringS_ok L 1 (by omega) (by omega)).mono ?_
  rintro _ _ ⟨rfl, rfl⟩
  conv => whnf
  refine br_if (fun h3 => ?_) (fun h3 => ?_) <;> (try rw [h3]) <;> (conv => whnf)
  · rw [ltI_t] at h3
    omega
  rw [eqI_self, q0]
  conv => whnf
  refine (toWorld_ok a (by omega)).mono ?_
  rintro _ _ ⟨rfl, rfl⟩
  conv => whnf
  refine hI.mono ?_
  rintro _ _ ⟨rfl, rfl⟩
  conv => whnf
  refine (eqStringS_ok L (by omega)).mono ?_
  rintro _ _ ⟨rfl, rfl⟩
  conv => whnf
  rw [q0]
  conv => whnf
  refine (heldStringS_ok L 1 (by omega) (by omega)).mono ?_
  rintro _ _ ⟨rfl, rfl⟩
  conv => whnf
  refine br_if (fun h4 => ?_) (fun h4 => ?_) <;> (try rw [h4]) <;> (conv => whnf)
  · rw [ltI_t] at h4
    omega
  rw [eqI_self, q0]
  conv => whnf
  exact ⟨rfl, rfl⟩

theorem FnExactPrints_all {Cs : List C} (pid : Int) (h : TyL rowWorld Cs) : FnV Tryz.prog 8 [.rdv true Cs, iV pid] fun rs outs => rs = [bR true] ∧ outs = [] := by
  obtain ⟨a, rfl, ho⟩ := ty_World h
  exact f_FnExactPrints a pid ho

end Go.Proofs.YtcaonpncopfeoaaGreat.V
