/- The law FnExactProcRead's function. -/
import Derived.Test.YtcaonpncopfeoaaGreatH1
import Derived.Test.YtcaonpncopfeoaaGreatH2
import Derived.Test.YtcaonpncopfeoaaGreatH3
import Derived.Test.YtcaonpncopfeoaaGreatD2
import Derived.Test.YtcaonpncopfeoaaGreatH7
import Derived.Test.YtcaonpncopfeoaaGreatQ33
set_option linter.unusedVariables false
set_option linter.unusedSimpArgs false
namespace Go.Proofs.YtcaonpncopfeoaaGreat.V
open Go

def MdE43 (f : Nat) : List Mode :=
  match f with
  | 17 => [.rd, .rd]
  | 18 => [.rd, .rd]
  | 19 => [.rd]
  | 20 => [.rd, .rd]
  | 21 => [.rd, .rd]
  | 22 => [.rd, .rd]
  | 23 => [.mv [true, true, true], .rd]
  | 24 => [.mv [false, true, false, false, false, false, false, false, false, true, true], .rd]
  | 25 => [.rd, .rd]
  | _ => []
def E43 : Env := ⟨τ, MdE43⟩

theorem wzN (l : List DNode) : szL DNode.mz l = 5 * l.length := by
  induction l with
  | nil => rfl
  | cons x r ih =>
    simp only [szL, ih, List.length_cons, DNode.mz]
    omega
theorem wzS (l : List ByteArray) : mzS l = l.length := szL_one l
theorem prd_ok {c : DCode} {s : ByteArray} {p : DProc} (h : prdP c s = some p) (hs : s.size ≤ 2000000) : p.ok ∧ p.wz ≤ 20000 := by
  unfold prdP at h
  split at h
  · rename_i r b hr
    split at h
    · rename_i m hm
      split at h
      · rename_i hp
        cases h
        obtain ⟨a1, a2, a3, e1, e2, e3, e4⟩ := raw_parts hr
        obtain ⟨p1, p2, p3, p4, -, -⟩ := procOk_t.1 hp.2
        have hM := machine_ok p2
        have h3 := (texts_canon (sb_bytes s) e3).2.2.2.2.1
        have h4 := (texts_canon (sb_bytes s) e4).2.2.2.2.1
        rw [sb_len] at h3 h4
        simp only at p1 p3 p4
        have hN := (poolOk_t.1 (machineOk_t.1 p2).2.1).1
        simp only at hN
        refine ⟨⟨⟨by simp only; omega, by simp only; omega⟩, hM, ⟨by simp only; omega, fun y hy => by have := h3 y hy; omega⟩, ⟨by simp only; omega, fun y hy => by have := h4 y hy; omega⟩⟩, ?_⟩
        unfold DProc.wz
        rw [wzN, wzS, wzS]
        simp only
        omega
      · cases h
    · cases h
  · cases h
theorem prd_all (c : DCode) {s : ByteArray} (hs : s.size ≤ 2000000) : ∃ (P : DProc) (b : Bool), prdR c s = [P.r, bR b] ∧ P.ok ∧ P.wz ≤ 20000 := by
  cases h : prdP c s with
  | none =>
    refine ⟨p0, false, (prdR_no h).1.symm, ?_, by decide⟩
    unfold p0 m0
    simp [DProc.ok, DMachine.ok, DPool.ok]
  | some p =>
    obtain ⟨h1, h2⟩ := prd_ok h hs
    exact ⟨p, true, (prdR_yes h).1.symm, h1, h2⟩

set_option maxHeartbeats 1600000 in
set_option maxRecDepth 100000 in
theorem f_FnExactProcRead (a : DCode) (s : ByteArray) (ho : a.ok) : FnV Tryz.prog 3 [.rdv true a.c, sV s] fun rs outs => rs = [bR true] ∧ outs = [] := by
  refine fn_ok (E := E43) τ_ok mixed Tryz.func3 (by rfl) (by rfl) false (by simp [Tryz.f3]) ?_
  conv => whnf
  refine br_if (fun h0 => ?_) (fun h0 => ?_) <;> (try rw [h0]) <;> (conv => whnf)
  · exact ⟨rfl, rfl⟩
  rw [ltI_f] at h0
  refine (szCode_ok a 1048576 (by omega) (by omega) ho).mono ?_
  rintro _ _ ⟨rfl, rfl⟩
  conv => whnf
  refine br_if (fun h => ?_) (fun h => ?_) <;> (try rw [h]) <;> (conv => whnf)
  · exact ⟨rfl, rfl⟩
  rw [ltI_f, ← Int.not_lt, szR_lt (by omega), Int.not_lt] at h
  obtain ⟨P, b, hR, hP, hz⟩ := prd_all a (s := s) (by omega)
  refine (toCode_ok a (by omega)).mono ?_
  rintro _ _ ⟨rfl, rfl⟩
  conv => whnf
  refine (s_ProcRead_ok a s ho (by omega)).mono ?_
  rintro _ _ ⟨rfl, rfl⟩
  rw [hR]
  conv => whnf
  refine (toCode_ok a (by omega)).mono ?_
  rintro _ _ ⟨rfl, rfl⟩
  conv => whnf
  refine (i_ProcRead_ok a s ho (by omega)).mono ?_
  rintro _ _ ⟨rfl, rfl⟩
  rw [hR]
  conv => whnf
  refine (eqProc_ok P hP).mono ?_
  rintro _ _ ⟨rfl, rfl⟩
  conv => whnf
  have q0 : notB true = false := notB_f.2 rfl
  rw [q0]
  conv => whnf
  rw [eqB_self, q0]
  conv => whnf
  refine ⟨.or 0 (.or 1 (.or 2 (.or 3 (.take 4 .done) .nil) .nil) .nil) (.or 1 (.or 0 (.or 2 (.or 3 (.take 4 .done) .nil) .nil) (.or 2 (.or 0 (.or 3 (.take 4 .done) .nil) .nil) .nil)) .nil), by rfl, ?_⟩
  apply Exists.intro
  refine ⟨?_, ?_⟩
  · conv => whnf
    repeat' (first
      | (refine (toCode_ok a (by omega)).mono ?_; rintro _ _ ⟨rfl, rfl⟩; conv => whnf)
      | (refine (eqCode_ok a ho).mono ?_; rintro _ _ ⟨rfl, rfl⟩; conv => whnf)
      | exact norm_wk (keep := [1, 2, 4, 6, 7, 8, 9, 10, 52]) (kb := [2, 6, 8, 9]) (ρ := [(28, some 501), (132, some 502), (236, some 503), (32, some 511), (136, some 512), (240, some 513), (36, some 521), (140, some 522), (244, some 523)]) rfl
      | (refine ⟨?_, ?_⟩ <;> conv => whnf)
      | fail)
  conv => whnf
  rw [q0]
  conv => whnf
  have wa : 1 + a.wz ≤ 1000000000 := by
    have := a.wz_le
    omega
  have wn := a.wz_nonneg
  have wp := P.wz_nonneg
  refine (markCode_ok a 1 (by omega) wa).mono ?_
  rintro _ _ ⟨rfl, rfl⟩
  conv => whnf
  refine br_if (fun h2 => ?_) (fun h2 => ?_) <;> (try rw [h2]) <;> (conv => whnf)
  · rw [ltI_t] at h2
    omega
  refine (eqProc_ok P hP).mono ?_
  rintro _ _ ⟨rfl, rfl⟩
  conv => whnf
  rw [q0]
  conv => whnf
  rw [eqB_self, q0]
  conv => whnf
  refine (markProc_ok P 1 (by omega) (by omega)).mono ?_
  rintro _ _ ⟨rfl, rfl⟩
  conv => whnf
  refine (heldProc_ok P 1 (by omega) (by omega)).mono ?_
  rintro _ _ ⟨rfl, rfl⟩
  conv => whnf
  refine br_if (fun h3 => ?_) (fun h3 => ?_) <;> (try rw [h3]) <;> (conv => whnf)
  · rw [ltI_t] at h3
    omega
  rw [eqI_self, q0]
  conv => whnf
  refine (toCode_ok a (by omega)).mono ?_
  rintro _ _ ⟨rfl, rfl⟩
  conv => whnf
  refine (i_ProcRead_ok a s ho (by omega)).mono ?_
  rintro _ _ ⟨rfl, rfl⟩
  rw [hR]
  conv => whnf
  refine (eqProc_ok P hP).mono ?_
  rintro _ _ ⟨rfl, rfl⟩
  conv => whnf
  rw [q0]
  conv => whnf
  rw [eqB_self, q0]
  conv => whnf
  refine (heldProc_ok P 1 (by omega) (by omega)).mono ?_
  rintro _ _ ⟨rfl, rfl⟩
  conv => whnf
  refine br_if (fun h4 => ?_) (fun h4 => ?_) <;> (try rw [h4]) <;> (conv => whnf)
  · rw [ltI_t] at h4
    omega
  rw [eqI_self, q0]
  conv => whnf
  exact ⟨rfl, rfl⟩

theorem FnExactProcRead_all {Cs : List C} (s : ByteArray) (h : TyL rowCode Cs) : FnV Tryz.prog 3 [.rdv true Cs, sV s] fun rs outs => rs = [bR true] ∧ outs = [] := by
  obtain ⟨a, rfl, ho⟩ := ty_Code h
  exact f_FnExactProcRead a s ho

end Go.Proofs.YtcaonpncopfeoaaGreat.V
