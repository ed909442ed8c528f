/- Prints. -/
import Derived.Test.YtcaonpncopfeoaaGreatQ34
set_option linter.unusedVariables false
set_option linter.unusedSimpArgs false
namespace Go.Proofs.YtcaonpncopfeoaaGreat.V
open Go

def MdE44 (f : Nat) : List Mode :=
  match f with
  | 27 => [.rd]
  | 29 => [.rd]
  | 144 => [.rd, .rd]
  | 145 => [.rd, .rd]
  | 146 => [.rd]
  | _ => []
def E44 : Env := ⟨τ, MdE44⟩

theorem flat_ss (l : List ByteArray) : Flat 1 (ssC l) := by
  intro row hr
  obtain ⟨x, _, rfl⟩ := List.mem_map.1 hr
  exact ⟨rfl, fun c hc => by rw [List.mem_singleton.1 hc]; exact ⟨_, rfl, rfl⟩⟩
theorem hIx_at' {w : DWorld} {pid : Int} (h : 0 ≤ hIx w pid) : ∃ x, w.xHomes[(hIx w pid).toNat]? = some x := by
  rcases fidx_ge (fun x : DHome => pidP pid x) w.xHomes 0 (by omega) with ⟨e, -⟩ | ⟨-, -, -, x, hx, -⟩
  · unfold hIx at h
    omega
  · rw [Int.sub_zero] at hx
    exact ⟨x, hx⟩
@[reducible] def ssR (l : List ByteArray) : RV := ⟨false, [.own true 1 (ssC l)]⟩
noncomputable def prI (w : DWorld) (pid : Int) : List ByteArray :=
  if worldOk w = true ∧ 0 ≤ hIx w pid then (match w.xHomes[(hIx w pid).toNat]? with | some h => h.xP.xOut | none => []) else []
theorem pr_no {w : DWorld} {pid : Int} (h : worldOk w = false ∨ hIx w pid < 0) : prI w pid = [] := by
  unfold prI
  rw [if_neg]
  rintro ⟨a, b⟩
  rcases h with h | h
  · rw [h] at a; cases a
  · omega
theorem pr_yes {w : DWorld} {pid : Int} {h : DHome} (h1 : worldOk w = true) (h2 : 0 ≤ hIx w pid) (hx : w.xHomes[(hIx w pid).toNat]? = some h) : prI w pid = h.xP.xOut := by
  unfold prI
  rw [if_pos ⟨h1, h2⟩, hx]
theorem ss_eq {l l' : List ByteArray} {o o' : List (List C)} (h : l = l') (h2 : o = o') : [ssR l] = [ssR l'] ∧ o = o' := ⟨by rw [h], h2⟩

set_option maxRecDepth 100000 in
theorem sl_CloneS_ok (l : List ByteArray) (hl : l.length ≤ 1000000) : FnV Tryz.prog 146 [ssV l] fun rs outs => rs = [ssR l] ∧ outs = [] := by
  refine fn_ok (E := E44) τ_ok mixed Tryz.func146 (by rfl) (by rfl) false (by simp [Tryz.f146]) ?_
  conv => whnf
  intro b hb
  conv => whnf
  refine br_if (fun h => ?_) (fun h => ?_) <;> (try rw [h]) <;> (conv => whnf)
  · exact ss_eq (List.map_eq_nil_iff.1 (hb h)).symm rfl
  · refine ⟨flat_ss l, ?_⟩
    conv => whnf
    have hl' := ssC_len l
    refine ⟨show (0 + (ssC l).length) * 16 ≤ 140737488355328 by omega, ?_⟩
    conv => whnf
    exact ⟨rfl, rfl⟩

set_option maxRecDepth 100000 in
set_option maxHeartbeats 1000000 in
theorem i_Prints_ok (w : DWorld) (pid : Int) (ho : w.ok) (hb : ∀ h ∈ w.xHomes, ∀ s ∈ h.xP.xBox, s.size ≤ 1000000000) : FnV Tryz.prog 40 [wV w, iV pid] fun rs outs => rs = [ssR (prI w pid)] ∧ outs = [] := by
  refine fn_ok (E := E44) τ_ok mixed Tryz.func40 (by rfl) (by rfl) false (by simp [Tryz.f40]) ?_
  conv => whnf
  refine (i_HomeOf_ok w pid ho).mono ?_
  rintro _ _ ⟨rfl, rfl⟩
  conv => whnf
  refine (i_WorldOk_ok w ho hb).mono ?_
  rintro _ _ ⟨rfl, rfl⟩
  conv => whnf
  refine br_if (fun h1 => ?_) (fun h1 => ?_) <;> rw [h1] <;> (conv => whnf)
  · rw [notB_t] at h1
    exact ss_eq (pr_no (.inl h1)).symm rfl
  rw [notB_f] at h1
  refine br_if (fun h2 => ?_) (fun h2 => ?_) <;> (try rw [h2]) <;> (conv => whnf)
  · rw [ltI_t] at h2
    exact ss_eq (pr_no (.inr h2)).symm rfl
  rw [ltI_f] at h2
  obtain ⟨x, hx⟩ := hIx_at' h2
  have hlo : x.xP.xOut.length ≤ 40 := by
    obtain ⟨-, -, -, -, -, -, -, h8, -⟩ := worldOk_t.1 h1
    exact (procOk_t.1 (h8 x (List.mem_of_getElem? hx)).2).2.2.2.1
  refine ⟨h2, _, hmC_at hx, ?_⟩
  conv => whnf
  refine (sl_CloneS_ok x.xP.xOut (by omega)).mono ?_
  rintro _ _ ⟨rfl, rfl⟩
  conv => whnf
  exact ss_eq (pr_yes h1 h2 hx).symm rfl

set_option maxRecDepth 100000 in
set_option maxHeartbeats 1000000 in
theorem s_Prints_ok (w : DWorld) (pid : Int) (ho : w.ok) (hb : ∀ h ∈ w.xHomes, ∀ s ∈ h.xP.xBox, s.size ≤ 1000000000) : FnV Tryz.prog 39 [wV w, iV pid] fun rs outs => rs = [ssR (prI w pid)] ∧ outs = [] := by
  refine fn_ok (E := E44) τ_ok mixed Tryz.func39 (by rfl) (by rfl) false (by simp [Tryz.f39]) ?_
  conv => whnf
  refine (s_HomeOf_ok w pid ho).mono ?_
  rintro _ _ ⟨rfl, rfl⟩
  conv => whnf
  refine br_if (fun h2 => ?_) (fun h2 => ?_) <;> rw [h2] <;> (conv => whnf)
  · rw [ltI_t] at h2
    exact ss_eq (pr_no (.inr h2)).symm rfl
  rw [ltI_f] at h2
  refine (s_WorldOk_ok w ho hb).mono ?_
  rintro _ _ ⟨rfl, rfl⟩
  conv => whnf
  refine br_if (fun h1 => ?_) (fun h1 => ?_) <;> (try rw [h1]) <;> (conv => whnf)
  · rw [notB_t] at h1
    exact ss_eq (pr_no (.inl h1)).symm rfl
  rw [notB_f] at h1
  obtain ⟨x, hx⟩ := hIx_at' h2
  have hlo : x.xP.xOut.length ≤ 40 := by
    obtain ⟨-, -, -, -, -, -, -, h8, -⟩ := worldOk_t.1 h1
    exact (procOk_t.1 (h8 x (List.mem_of_getElem? hx)).2).2.2.2.1
  refine ⟨h2, _, hmC_at hx, ?_⟩
  conv => whnf
  refine ⟨flat_ss x.xP.xOut, ?_⟩
  conv => whnf
  have hl' := ssC_len x.xP.xOut
  refine ⟨show (0 + (ssC x.xP.xOut).length) * 16 ≤ 140737488355328 by omega, ?_⟩
  conv => whnf
  exact ss_eq (pr_yes h1 h2 hx).symm rfl

end Go.Proofs.YtcaonpncopfeoaaGreat.V
