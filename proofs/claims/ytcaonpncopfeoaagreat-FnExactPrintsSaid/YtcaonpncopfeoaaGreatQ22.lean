/- Processes. -/
import Derived.Test.YtcaonpncopfeoaaGreatQ21
set_option linter.unusedVariables false
set_option linter.unusedSimpArgs false
namespace Go.Proofs.YtcaonpncopfeoaaGreat.V
open Go

def MdE22 (f : Nat) : List Mode :=
  match f with
  | 101 => [.rd, .rd, .rd]
  | 112 => [.rd, .rd, .rd]
  | 175 => [.rd, .rd]
  | 176 => [.rd]
  | 209 => [.rd, .rd]
  | 210 => [.rd, .rd]
  | 211 => [.rd]
  | 212 => [.rd]
  | 213 => [.rd]
  | 280 => [.rd, .rd]
  | 281 => [.rd]
  | _ => []
def E22 : Env := ⟨τ, MdE22⟩

theorem vr_cases (s : ByteArray) : (∃ l, vrP s = some l ∧ vrR s = [pR l, iR ((l.length : Int) - 1), bR true]) ∨ (vrP s = none ∧ vrR s = [pR [], iR 0, bR false]) := by
  cases h : vrP s with
  | none => exact .inr ⟨rfl, by unfold vrR; rw [h]⟩
  | some l => exact .inl ⟨l, rfl, by unfold vrR; rw [h]⟩
noncomputable def isV (s : ByteArray) : Bool := (vrP s).isSome

set_option maxRecDepth 100000 in
theorem i_isValue_ok (s : ByteArray) (hs : s.size ≤ 1000000000) : FnV Tryz.prog 212 [sV s] fun rs outs => rs = [bR (isV s)] ∧ outs = [] := by
  refine fn_ok (E := E22) τ_ok mixed Tryz.func212 (by rfl) (by rfl) false (by simp [Tryz.f212]) ?_
  conv => whnf
  refine (i_ValueRead_ok s hs).mono ?_
  rintro _ _ ⟨rfl, rfl⟩
  unfold isV
  rcases vr_cases s with ⟨l, h, e⟩ | ⟨h, e⟩ <;> rw [e, h] <;> (conv => whnf) <;> exact ⟨rfl, rfl⟩

set_option maxRecDepth 100000 in
theorem i_ProcOk1_ok (s : ByteArray) (hs : s.size ≤ 1000000000) : FnV Tryz.prog 211 [sV s] fun rs outs => rs = [bR (notB (isV s))] ∧ outs = [] := by
  refine fn_ok (E := E22) τ_ok mixed Tryz.func211 (by rfl) (by rfl) false (by simp [Tryz.f211]) ?_
  conv => whnf
  refine (i_isValue_ok s hs).mono ?_
  rintro _ _ ⟨rfl, rfl⟩
  conv => whnf
  exact ⟨rfl, rfl⟩
set_option maxRecDepth 100000 in
theorem i_ProcOk2_ok (s : ByteArray) : FnV Tryz.prog 213 [sV s] fun rs outs => rs = [bR (ltI 400 s.size)] ∧ outs = [] := by
  refine fn_ok (E := E22) τ_ok mixed Tryz.func213 (by rfl) (by rfl) false (by simp [Tryz.f213]) ?_
  conv => whnf
  exact ⟨rfl, rfl⟩

set_option maxRecDepth 100000 in
theorem i_Box_ix  (xs : List ByteArray) (hl : xs.length ≤ 9223372036854775807) (hs : ∀ x ∈ xs, x.size ≤ 1000000000) : FnV Tryz.prog 280 [.rdv false [.sl true 1 (xs.map (fun x : ByteArray => [.sc (.string x)]))], .rdv false [.sc (.func (.func 211) #[] #[])]] fun rs outs => rs = [iR (fidx (fun x : ByteArray => notB (isV x)) xs 0)] ∧ outs = [] := by
  refine fn_ok (E := E22) τ_ok mixed Tryz.func280 (by rfl) (by rfl) false (by simp [Tryz.f280]) ?_
  conv => whnf
  rw [List.length_map]
  refine ⟨fun m s => ∃ (k : Int), s = ⟨[(0, .vals false [.rd none 1 (xs.map (fun x : ByteArray => [.sc (.string x)]))]), (1, .vals false [.sc (.func (.func 211) #[] #[])]), (4, .vals false [.sc (.int .i64 0)]), (7, .vals false [.sc (.int .i64 (xs.length : Nat))]), (8, .vals false [.sc (.int .i64 k)])], [], []⟩ ∧ m = xs.length - k.toNat ∧ 0 ≤ k ∧ k ≤ xs.length ∧ fidx (fun x : ByteArray => notB (isV x)) (xs.drop k.toNat) k = fidx (fun x : ByteArray => notB (isV x)) xs 0,
    ⟨_, _, norm_wk (keep := [0, 1, 4, 7, 8]) (kb := []) (ρ := []) rfl, ⟨0, rfl, rfl, by omega, by omega, rfl⟩⟩, ?_⟩
  rintro m _ ⟨k, rfl, rfl, k0, k1, hk⟩
  conv => whnf
  refine br_if (fun h => ?_) (fun h => ?_) <;> (try rw [h]) <;> (conv => whnf)
  · rw [ltI_t] at h
    obtain ⟨x, hx⟩ : ∃ x, xs[k.toNat]? = some x := ⟨_, List.getElem?_eq_getElem (by omega)⟩
    have hss := fidx_step (p := (fun x : ByteArray => notB (isV x))) hx
    rw [Int.toNat_of_nonneg k0] at hss
    rw [hss] at hk
    refine ⟨by omega, _, by rw [List.getElem?_map, hx]; rfl, ?_⟩
    conv => whnf
    refine (i_ProcOk1_ok x (hs x (List.mem_of_getElem? hx))).mono ?_
    rintro _ _ ⟨rfl, rfl⟩
    conv => whnf
    refine br_if (fun h2 => ?_) (fun h2 => ?_) <;> (try rw [h2]) <;> (conv => whnf)
    · rw [if_pos h2] at hk
      rw [← hk]
      exact ⟨rfl, rfl⟩
    · rw [if_neg (by rw [h2]; decide)] at hk
      rw [wrp_i64 (x := k + 1) (by omega) (by omega)]
      have ek : (k + 1).toNat = k.toNat + 1 := by omega
      exact ⟨xs.length - (k + 1).toNat, _, by omega, norm_wk (keep := [0, 1, 4, 7, 8]) (kb := []) (ρ := []) rfl, ⟨k + 1, rfl, rfl, by omega, by omega, by rw [ek]; exact hk⟩⟩
  · rw [ltI_f] at h
    rw [List.drop_eq_nil_of_le (by omega)] at hk
    rw [← hk]
    exact ⟨rfl, rfl⟩

set_option maxRecDepth 100000 in
theorem i_Box_cf  (xs : List ByteArray) (hl : xs.length ≤ 9223372036854775807) (hs : ∀ x ∈ xs, x.size ≤ 1000000000) : FnV Tryz.prog 210 [.rdv false [.sl true 1 (xs.map (fun x : ByteArray => [.sc (.string x)]))], .rdv false [.sc (.func (.func 211) #[] #[])]] fun rs outs => rs = [bR (xs.any (fun x : ByteArray => notB (isV x)))] ∧ outs = [] := by
  refine fn_ok (E := E22) τ_ok mixed Tryz.func210 (by rfl) (by rfl) false (by simp [Tryz.f210]) ?_
  conv => whnf
  refine (i_Box_ix  xs hl hs).mono ?_
  rintro _ _ ⟨rfl, rfl⟩
  conv => whnf
  rw [fidx_any]
  exact ⟨rfl, rfl⟩

set_option maxRecDepth 100000 in
theorem i_Out_ix  (xs : List ByteArray) (hl : xs.length ≤ 9223372036854775807) : FnV Tryz.prog 280 [.rdv false [.sl true 1 (xs.map (fun x : ByteArray => [.sc (.string x)]))], .rdv false [.sc (.func (.func 213) #[] #[])]] fun rs outs => rs = [iR (fidx (fun x : ByteArray => ltI 400 x.size) xs 0)] ∧ outs = [] := by
  refine fn_ok (E := E22) τ_ok mixed Tryz.func280 (by rfl) (by rfl) false (by simp [Tryz.f280]) ?_
  conv => whnf
  rw [List.length_map]
  refine ⟨fun m s => ∃ (k : Int), s = ⟨[(0, .vals false [.rd none 1 (xs.map (fun x : ByteArray => [.sc (.string x)]))]), (1, .vals false [.sc (.func (.func 213) #[] #[])]), (4, .vals false [.sc (.int .i64 0)]), (7, .vals false [.sc (.int .i64 (xs.length : Nat))]), (8, .vals false [.sc (.int .i64 k)])], [], []⟩ ∧ m = xs.length - k.toNat ∧ 0 ≤ k ∧ k ≤ xs.length ∧ fidx (fun x : ByteArray => ltI 400 x.size) (xs.drop k.toNat) k = fidx (fun x : ByteArray => ltI 400 x.size) xs 0,
    ⟨_, _, norm_wk (keep := [0, 1, 4, 7, 8]) (kb := []) (ρ := []) rfl, ⟨0, rfl, rfl, by omega, by omega, rfl⟩⟩, ?_⟩
  rintro m _ ⟨k, rfl, rfl, k0, k1, hk⟩
  conv => whnf
  refine br_if (fun h => ?_) (fun h => ?_) <;> (try rw [h]) <;> (conv => whnf)
  · rw [ltI_t] at h
    obtain ⟨x, hx⟩ : ∃ x, xs[k.toNat]? = some x := ⟨_, List.getElem?_eq_getElem (by omega)⟩
    have hss := fidx_step (p := (fun x : ByteArray => ltI 400 x.size)) hx
    rw [Int.toNat_of_nonneg k0] at hss
    rw [hss] at hk
    refine ⟨by omega, _, by rw [List.getElem?_map, hx]; rfl, ?_⟩
    conv => whnf
    refine (i_ProcOk2_ok x).mono ?_
    rintro _ _ ⟨rfl, rfl⟩
    conv => whnf
    refine br_if (fun h2 => ?_) (fun h2 => ?_) <;> (try rw [h2]) <;> (conv => whnf)
    · rw [if_pos h2] at hk
      rw [← hk]
      exact ⟨rfl, rfl⟩
    · rw [if_neg (by rw [h2]; decide)] at hk
      rw [wrp_i64 (x := k + 1) (by omega) (by omega)]
      have ek : (k + 1).toNat = k.toNat + 1 := by omega
      exact ⟨xs.length - (k + 1).toNat, _, by omega, norm_wk (keep := [0, 1, 4, 7, 8]) (kb := []) (ρ := []) rfl, ⟨k + 1, rfl, rfl, by omega, by omega, by rw [ek]; exact hk⟩⟩
  · rw [ltI_f] at h
    rw [List.drop_eq_nil_of_le (by omega)] at hk
    rw [← hk]
    exact ⟨rfl, rfl⟩

set_option maxRecDepth 100000 in
theorem i_Out_cf  (xs : List ByteArray) (hl : xs.length ≤ 9223372036854775807) : FnV Tryz.prog 210 [.rdv false [.sl true 1 (xs.map (fun x : ByteArray => [.sc (.string x)]))], .rdv false [.sc (.func (.func 213) #[] #[])]] fun rs outs => rs = [bR (xs.any (fun x : ByteArray => ltI 400 x.size))] ∧ outs = [] := by
  refine fn_ok (E := E22) τ_ok mixed Tryz.func210 (by rfl) (by rfl) false (by simp [Tryz.f210]) ?_
  conv => whnf
  refine (i_Out_ix  xs hl).mono ?_
  rintro _ _ ⟨rfl, rfl⟩
  conv => whnf
  rw [fidx_any]
  exact ⟨rfl, rfl⟩

@[reducible] def prV (p : DProc) : AV := .rdv true p.c
def ProcOk (c : DCode) (p : DProc) : Prop :=
  (1 ≤ p.xPid ∧ p.xPid ≤ 1000000000) ∧ machineOk c p.xM = true ∧ p.xBox.length ≤ 20 ∧ p.xOut.length ≤ 40 ∧ (∀ s ∈ p.xBox, isV s = true) ∧ ∀ s ∈ p.xOut, s.size ≤ 400
noncomputable def procOk (c : DCode) (p : DProc) : Bool := clB (ProcOk c p)
theorem procOk_t {c : DCode} {p : DProc} : procOk c p = true ↔ ProcOk c p := clB_t
theorem procOk_ff {c : DCode} {p : DProc} (h : ¬ ProcOk c p) : procOk c p = false := clB_f.2 h
theorem ssC_len (l : List ByteArray) : (ssC l).length = l.length := List.length_map ..

set_option maxRecDepth 100000 in
set_option maxHeartbeats 1000000 in
theorem i_ProcOk_ok (c : DCode) (p : DProc) (hc : c.ok) (hp : p.ok) (hb : ∀ s ∈ p.xBox, s.size ≤ 1000000000) : FnV Tryz.prog 114 [cV c, prV p] fun rs outs => rs = [bR (procOk c p)] ∧ outs = [] := by
  refine fn_ok (E := E22) τ_ok mixed Tryz.func114 (by rfl) (by rfl) false (by simp [Tryz.f114]) ?_
  obtain ⟨oP, oM, ⟨oB, -⟩, oO, -⟩ := hp
  conv => whnf
  refine (i_within_ok _ _ _).mono ?_
  rintro _ _ ⟨rfl, rfl⟩
  conv => whnf
  refine br_if (fun h1 => ?_) (fun h1 => ?_) <;> (try rw [h1]) <;> (conv => whnf)
  · exact bR_eq (procOk_ff fun h => by rw [notB_t, decide_eq_false_iff_not] at h1; exact h1 h.1).symm
  rw [notB_f, decide_eq_true_iff] at h1
  refine (i_MachineOk_ok c p.xM hc oM).mono ?_
  rintro _ _ ⟨rfl, rfl⟩
  conv => whnf
  refine br_if (fun h2 => ?_) (fun h2 => ?_) <;> (try rw [h2]) <;> (conv => whnf)
  · exact bR_eq (procOk_ff fun h => by rw [notB_t, h.2.1] at h2; cases h2).symm
  rw [notB_f] at h2
  refine br_if (fun h3 => ?_) (fun h3 => ?_) <;> (try rw [h3]) <;> (conv => whnf)
  · exact bR_eq (procOk_ff fun h => by rw [ltI_t, ssC_len] at h3; have := h.2.2.1; omega).symm
  rw [ltI_f, ssC_len] at h3
  refine br_if (fun h4 => ?_) (fun h4 => ?_) <;> (try rw [h4]) <;> (conv => whnf)
  · exact bR_eq (procOk_ff fun h => by rw [ltI_t, ssC_len] at h4; have := h.2.2.2.1; omega).symm
  rw [ltI_f, ssC_len] at h4
  refine (i_Box_cf p.xBox oB hb).mono ?_
  rintro _ _ ⟨rfl, rfl⟩
  conv => whnf
  refine br_if (fun h5 => ?_) (fun h5 => ?_) <;> (try rw [h5]) <;> (conv => whnf)
  · rw [notB_t, List.any_eq_false] at h5
    refine (i_Out_cf p.xOut oO).mono ?_
    rintro _ _ ⟨rfl, rfl⟩
    conv => whnf
    refine bR_eq (Bool.eq_iff_iff.2 ?_)
    rw [procOk_t, notB_t, List.any_eq_false]
    refine ⟨fun h => ⟨h1, h2, by omega, by omega, fun s hs => ?_, fun s hs => ?_⟩, fun h s hs => ?_⟩
    · have := h5 s hs
      rw [Bool.not_eq_true, notB_f] at this
      exact this
    · have := h s hs
      rw [Bool.not_eq_true, ltI_f] at this
      omega
    · rw [Bool.not_eq_true, ltI_f]
      have := h.2.2.2.2.2 s hs
      omega
  · rw [notB_f, List.any_eq_true] at h5
    obtain ⟨s, hs, h6⟩ := h5
    rw [notB_t] at h6
    exact bR_eq (procOk_ff fun h => by rw [h.2.2.2.2.1 s hs] at h6; cases h6).symm

set_option maxRecDepth 100000 in
set_option maxHeartbeats 1000000 in
theorem s_ProcOk_ok (c : DCode) (p : DProc) (hc : c.ok) (hp : p.ok) (hb : ∀ s ∈ p.xBox, s.size ≤ 1000000000) : FnV Tryz.prog 78 [cV c, prV p] fun rs outs => rs = [bR (procOk c p)] ∧ outs = [] := by
  refine fn_ok (E := E22) τ_ok mixed Tryz.func78 (by rfl) (by rfl) false (by simp [Tryz.f78]) ?_
  obtain ⟨oP, oM, ⟨oB, -⟩, oO, -⟩ := hp
  conv => whnf
  refine (s_l1In_ok _ _ _).mono ?_
  rintro _ _ ⟨rfl, rfl⟩
  conv => whnf
  refine br_if (fun h1 => ?_) (fun h1 => ?_) <;> (try rw [h1]) <;> (conv => whnf)
  · exact bR_eq (procOk_ff fun h => by rw [notB_t, decide_eq_false_iff_not] at h1; exact h1 h.1).symm
  rw [notB_f, decide_eq_true_iff] at h1
  refine (s_MachineOk_ok c p.xM hc oM).mono ?_
  rintro _ _ ⟨rfl, rfl⟩
  conv => whnf
  refine br_if (fun h2 => ?_) (fun h2 => ?_) <;> (try rw [h2]) <;> (conv => whnf)
  · exact bR_eq (procOk_ff fun h => by rw [notB_t, h.2.1] at h2; cases h2).symm
  rw [notB_f] at h2
  refine br_if (fun h3 => ?_) (fun h3 => ?_) <;> (try rw [h3]) <;> (conv => whnf)
  · exact bR_eq (procOk_ff fun h => by rw [ltI_t, ssC_len] at h3; have := h.2.2.1; omega).symm
  rw [ltI_f, ssC_len] at h3
  refine br_if (fun h4 => ?_) (fun h4 => ?_) <;> (try rw [h4]) <;> (conv => whnf)
  · exact bR_eq (procOk_ff fun h => by rw [ltI_t, ssC_len] at h4; have := h.2.2.2.1; omega).symm
  rw [ltI_f, ssC_len] at h4
  refine ⟨fun m s => ∃ (k : Int), s = ⟨[(3, .bptr 3 0 0), (4, .vals false [.sc (.bool false)]), (5, .vals false [.sc (.int .i64 k)])], [(3, ⟨0, p.x⟩)], []⟩ ∧ m = p.xBox.length - k.toNat ∧ 0 ≤ k ∧ k ≤ p.xBox.length ∧ ∀ s ∈ p.xBox.take k.toNat, isV s = true,
    ⟨_, _, norm_wk (keep := [3, 4, 5]) (kb := [3]) (ρ := []) rfl, ⟨0, rfl, rfl, by omega, by omega, by simp⟩⟩, ?_⟩
  rintro m _ ⟨k, rfl, rfl, k0, k1, hk⟩
  conv => whnf
  refine br_if (fun h => ?_) (fun h => ?_) <;> (try rw [h]) <;> (conv => whnf)
  · rw [ltI_t, ssC_len] at h
    obtain ⟨x, hx⟩ : ∃ x, p.xBox[k.toNat]? = some x := ⟨_, List.getElem?_eq_getElem (by omega)⟩
    refine ⟨k0, _, by rw [List.getElem?_map, hx]; rfl, ?_⟩
    conv => whnf
    refine (s_ValueRead_ok x (hb x (List.mem_of_getElem? hx))).mono ?_
    rintro _ _ ⟨rfl, rfl⟩
    have wk : wrp .i64 (k + 1) = k + 1 := wrp_i64 (by omega) (by omega)
    rcases vr_cases x with ⟨l, hv, e⟩ | ⟨hv, e⟩ <;> rw [e] <;> (conv => whnf)
    · rw [show notB true = false from notB_f.2 rfl]
      conv => whnf
      rw [wk]
      refine ⟨p.xBox.length - (k + 1).toNat, _, by omega, norm_wk (keep := [3, 4, 5]) (kb := [3]) (ρ := []) rfl, ⟨k + 1, rfl, rfl, by omega, by omega, ?_⟩⟩
      rw [show (k + 1).toNat = k.toNat + 1 by omega]
      exact all_snoc hx hk (by unfold isV; rw [hv]; rfl)
    · rw [show notB false = true from notB_t.2 rfl]
      conv => whnf
      exact bR_eq (procOk_ff fun h => by
        have := h.2.2.2.2.1 x (List.mem_of_getElem? hx)
        unfold isV at this
        rw [hv] at this
        cases this).symm
  rw [ltI_f, ssC_len] at h
  rw [List.take_of_length_le (by omega)] at hk
  clear h k0 k1
  refine ⟨fun m s => ∃ (k : Int), s = ⟨[(3, .bptr 3 0 0), (4, .vals false [.sc (.bool false)]), (9, .vals false [.sc (.int .i64 k)])], [(3, ⟨0, p.x⟩)], []⟩ ∧ m = p.xOut.length - k.toNat ∧ 0 ≤ k ∧ k ≤ p.xOut.length ∧ ∀ s ∈ p.xOut.take k.toNat, s.size ≤ 400,
    ⟨_, _, norm_wk (keep := [3, 4, 9]) (kb := [3]) (ρ := []) rfl, ⟨0, rfl, rfl, by omega, by omega, by simp⟩⟩, ?_⟩
  rintro m _ ⟨k, rfl, rfl, k0, k1, hk2⟩
  conv => whnf
  refine br_if (fun h => ?_) (fun h => ?_) <;> (try rw [h]) <;> (conv => whnf)
  · rw [ltI_t, ssC_len] at h
    obtain ⟨x, hx⟩ : ∃ x, p.xOut[k.toNat]? = some x := ⟨_, List.getElem?_eq_getElem (by omega)⟩
    refine ⟨k0, _, by rw [List.getElem?_map, hx]; rfl, ?_⟩
    conv => whnf
    refine br_if (fun h2 => ?_) (fun h2 => ?_) <;> (try rw [h2]) <;> (conv => whnf)
    · rw [ltI_t] at h2
      exact bR_eq (procOk_ff fun h => by
        have := h.2.2.2.2.2 x (List.mem_of_getElem? hx)
        omega).symm
    · rw [ltI_f] at h2
      rw [wrp_i64 (x := k + 1) (by omega) (by omega)]
      refine ⟨p.xOut.length - (k + 1).toNat, _, by omega, norm_wk (keep := [3, 4, 9]) (kb := [3]) (ρ := []) rfl, ⟨k + 1, rfl, rfl, by omega, by omega, ?_⟩⟩
      rw [show (k + 1).toNat = k.toNat + 1 by omega]
      exact all_snoc hx hk2 (by omega)
  · rw [ltI_f, ssC_len] at h
    rw [List.take_of_length_le (by omega)] at hk2
    exact bR_eq (procOk_t.2 ⟨h1, h2, by omega, by omega, hk, hk2⟩).symm

end Go.Proofs.YtcaonpncopfeoaaGreat.V
