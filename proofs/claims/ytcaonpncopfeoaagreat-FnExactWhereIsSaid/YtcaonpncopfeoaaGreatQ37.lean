/- The law FnExactWhereIs' function. -/
import Derived.Test.YtcaonpncopfeoaaGreatH1
import Derived.Test.YtcaonpncopfeoaaGreatH2
import Derived.Test.YtcaonpncopfeoaaGreatH3
import Derived.Test.YtcaonpncopfeoaaGreatD2
import Derived.Test.YtcaonpncopfeoaaGreatQ36
set_option linter.unusedVariables false
set_option linter.unusedSimpArgs false
namespace Go.Proofs.YtcaonpncopfeoaaGreat.V
open Go

def MdE37 (f : Nat) : List Mode :=
  match f with
  | 26 => [.rd, .rd]
  | 28 => [.rd]
  | 30 => [.rd, .rd]
  | 44 => [.rd, .rd]
  | 45 => [.rd, .rd]
  | _ => []
def E37 : Env := ⟨τ, MdE37⟩

theorem gv_size {w : DWorld} {n : Int} (hn : w.sz ≤ n) : (w.xGave.length : Int) ≤ n ∧ ∀ g ∈ w.xGave, (g.length : Int) ≤ n ∧ ∀ s ∈ g, (s.size : Int) ≤ n := by
  have g1 := w.xCode.sz_nonneg
  have g2 := szL_nonneg DLink.sz_nonneg w.xLinks
  have g3 := szL_nonneg DGram.sz_nonneg w.xGrams
  have g4 := szL_nonneg DParked.sz_nonneg w.xParked
  have g5 := szL_nonneg szS_nonneg w.xGave
  have g6 := szSS_nonneg w.xTook
  have g7 := szL_nonneg DHome.sz_nonneg w.xHomes
  have e1 : w.sz = w.xCode.sz + ((w.xHomes.length : Int) + szL DHome.sz w.xHomes) + ((w.xLinks.length : Int) + szL DLink.sz w.xLinks) + ((w.xGrams.length : Int) + szL DGram.sz w.xGrams) + ((w.xParked.length : Int) + szL DParked.sz w.xParked) + szSS w.xGave + szSS w.xTook := rfl
  have e3 : szSS w.xGave = w.xGave.length + szL szS w.xGave := rfl
  refine ⟨by omega, fun g hg => ?_⟩
  have h1 := szL_mem szS_nonneg hg
  have h2 := szL_nonneg szB_nonneg g
  have e4 : szS g = g.length + szL szB g := rfl
  refine ⟨by omega, fun s hs => ?_⟩
  have h3 := szL_mem szB_nonneg hs
  have e5 : szB s = s.size := rfl
  omega

set_option maxHeartbeats 1600000 in
set_option maxRecDepth 100000 in
theorem f_FnExactWhereIs (a : DWorld) (pid : Int) (ho : a.ok) : FnV Tryz.prog 9 [.rdv true a.c, iV pid] fun rs outs => rs = [bR true] ∧ outs = [] := by
  refine fn_ok (E := E37) τ_ok mixed Tryz.func9 (by rfl) (by rfl) false (by simp [Tryz.f9]) ?_
  conv => whnf
  refine (szWorld_ok a 1048576 (by omega) (by omega) ho).mono ?_
  rintro _ _ ⟨rfl, rfl⟩
  conv => whnf
  refine br_if (fun h => ?_) (fun h => ?_) <;> (try rw [h]) <;> (conv => whnf)
  · exact ⟨rfl, rfl⟩
  rw [ltI_f, ← Int.not_lt, szR_lt (by omega), Int.not_lt] at h
  obtain ⟨b1, b2⟩ := gv_size h
  have hb : ∀ g ∈ a.xGave, ∀ s ∈ g, s.size ≤ 2000000 := fun g hg s hs => by
    have := (b2 g hg).2 s hs
    omega
  have hG : a.xGave.length ≤ 1048576 ∧ ∀ g ∈ a.xGave, g.length ≤ 1048576 := ⟨by omega, fun g hg => by have := (b2 g hg).1; omega⟩
  refine (toWorld_ok a (by omega)).mono ?_
  rintro _ _ ⟨rfl, rfl⟩
  conv => whnf
  refine (s_WhereIs_ok a pid ho hb).mono ?_
  rintro _ _ ⟨rfl, rfl⟩
  conv => whnf
  refine (toWorld_ok a (by omega)).mono ?_
  rintro _ _ ⟨rfl, rfl⟩
  conv => whnf
  refine (i_WhereIs_ok a pid ho hb hG).mono ?_
  rintro _ _ ⟨rfl, rfl⟩
  conv => whnf
  have q0 : notB true = false := notB_f.2 rfl
  rw [eqI_self, q0]
  conv => whnf
  refine ⟨.or 0 (.or 1 (.or 2 (.or 3 (.take 4 .done) .nil) .nil) .nil) (.or 1 (.or 0 (.or 2 (.or 3 (.take 4 .done) .nil) .nil) (.or 2 (.or 0 (.or 3 (.take 4 .done) .nil) .nil) .nil)) .nil), by rfl, ?_⟩
  apply Exists.intro
  refine ⟨?_, ?_⟩
  · conv => whnf
    repeat' (first
      | (refine (toWorld_ok a (by omega)).mono ?_; rintro _ _ ⟨rfl, rfl⟩; conv => whnf)
      | (refine (eqWorld_ok a ho).mono ?_; rintro _ _ ⟨rfl, rfl⟩; conv => whnf)
      | exact norm_wk (keep := [30]) (kb := []) (ρ := []) rfl
      | (refine ⟨?_, ?_⟩ <;> conv => whnf)
      | fail)
  conv => whnf
  rw [q0]
  conv => whnf
  exact ⟨rfl, rfl⟩

theorem FnExactWhereIs_all {Cs : List C} (pid : Int) (h : TyL rowWorld Cs) : FnV Tryz.prog 9 [.rdv true Cs, iV pid] fun rs outs => rs = [bR true] ∧ outs = [] := by
  obtain ⟨a, rfl, ho⟩ := ty_World h
  exact f_FnExactWhereIs a pid ho

end Go.Proofs.YtcaonpncopfeoaaGreat.V
