/- Homes, and what a text that moves tells. -/
import Derived.Test.YtcaonpncopfeoaaGreatQ33
import Derived.Test.YtcaonpncopfeoaaGreatQ27
set_option linter.unusedVariables false
set_option linter.unusedSimpArgs false
namespace Go.Proofs.YtcaonpncopfeoaaGreat.V
open Go

def MdE34 (f : Nat) : List Mode :=
  match f with
  | 20 => [.rd, .rd]
  | 237 => [.rd, .clo]
  | 238 => [.rd, .mptr]
  | 240 => [.rd]
  | _ => []
def E34 : Env := ⟨τ, MdE34⟩

noncomputable def pidP (pid : Int) (x : DHome) : Bool := eqI x.xP.xPid pid
noncomputable def hIx (w : DWorld) (pid : Int) : Int := fidx (fun x : DHome => pidP pid x) w.xHomes 0

set_option maxRecDepth 100000 in
theorem i_HomeOf1_ok (pid : Int) (x : DHome) : FnV Tryz.prog 238 [.rdv true x.c, .mptr none [.sc (.int .i64 pid)]] fun rs outs => rs = [bR (pidP pid x)] ∧ outs = [[.sc (.int .i64 pid)]] := by
  refine fn_ok (E := E34) τ_ok mixed Tryz.func238 (by rfl) (by rfl) false (by simp [Tryz.f238]) ?_
  conv => whnf
  exact ⟨rfl, rfl⟩

set_option maxRecDepth 100000 in
theorem i_Home_ix (pid : Int) (xs : List DHome) (hl : xs.length ≤ 9223372036854775807) : FnV Tryz.prog 237 [.rdv false [.sl true 12 (xs.map (fun x : DHome => x.c))], .mptr (some 238) [.sc (.int .i64 pid)]] fun rs outs => rs = [iR (fidx (fun x : DHome => pidP pid x) xs 0)] ∧ outs = [[.sc (.int .i64 pid)]] := by
  refine fn_ok (E := E34) τ_ok mixed Tryz.func237 (by rfl) (by rfl) false (by simp [Tryz.f237]) ?_
  conv => whnf
  rw [List.length_map]
  refine ⟨fun m s => ∃ (k : Int), s = ⟨[(0, .vals false [.rd none 12 (xs.map (fun x : DHome => x.c))]), (1, .clo 238 1000001 0), (4, .vals false [.sc (.int .i64 0)]), (7, .vals false [.sc (.int .i64 (xs.length : Nat))]), (8, .vals false [.sc (.int .i64 k)])], [(1000001, ⟨0, [.sc (.int .i64 pid)]⟩)], []⟩ ∧ m = xs.length - k.toNat ∧ 0 ≤ k ∧ k ≤ xs.length ∧ fidx (fun x : DHome => pidP pid x) (xs.drop k.toNat) k = fidx (fun x : DHome => pidP pid x) xs 0,
    ⟨_, _, norm_wk (keep := [0, 1, 4, 7, 8]) (kb := [1000001]) (ρ := []) rfl, ⟨0, rfl, rfl, by omega, by omega, rfl⟩⟩, ?_⟩
  rintro m _ ⟨k, rfl, rfl, k0, k1, hk⟩
  conv => whnf
  refine br_if (fun h => ?_) (fun h => ?_) <;> (try rw [h]) <;> (conv => whnf)
  · rw [ltI_t] at h
    obtain ⟨x, hx⟩ : ∃ x, xs[k.toNat]? = some x := ⟨_, List.getElem?_eq_getElem (by omega)⟩
    have hss := fidx_step (p := (fun x : DHome => pidP pid x)) hx
    rw [Int.toNat_of_nonneg k0] at hss
    rw [hss] at hk
    refine ⟨by omega, _, by rw [List.getElem?_map, hx]; rfl, ?_⟩
    conv => whnf
    refine (i_HomeOf1_ok pid x).mono ?_
    rintro _ _ ⟨rfl, rfl⟩
    conv => whnf
    refine br_if (fun h2 => ?_) (fun h2 => ?_) <;> (try rw [h2]) <;> (conv => whnf)
    · rw [if_pos h2] at hk
      rw [← hk]
      exact ⟨rfl, rfl⟩
    · rw [if_neg (by rw [h2]; decide)] at hk
      rw [wrp_i64 (x := k + 1) (by omega) (by omega)]
      have ek : (k + 1).toNat = k.toNat + 1 := by omega
      exact ⟨xs.length - (k + 1).toNat, _, by omega, norm_wk (keep := [0, 1, 4, 7, 8]) (kb := [1000001]) (ρ := []) rfl, ⟨k + 1, rfl, rfl, by omega, by omega, by rw [ek]; exact hk⟩⟩
  · rw [ltI_f] at h
    rw [List.drop_eq_nil_of_le (by omega)] at hk
    rw [← hk]
    exact ⟨rfl, rfl⟩

set_option maxRecDepth 100000 in
theorem i_HomeOf_ok (w : DWorld) (pid : Int) (ho : w.ok) : FnV Tryz.prog 145 [wV w, iV pid] fun rs outs => rs = [iR (hIx w pid)] ∧ outs = [] := by
  refine fn_ok (E := E34) τ_ok mixed Tryz.func145 (by rfl) (by rfl) false (by simp [Tryz.f145]) ?_
  conv => whnf
  refine (i_Home_ix pid w.xHomes ho.2.2.1.1).mono ?_
  rintro _ _ ⟨rfl, rfl⟩
  conv => whnf
  exact ⟨rfl, rfl⟩

set_option maxRecDepth 100000 in
theorem s_HomeOf_ok (w : DWorld) (pid : Int) (ho : w.ok) : FnV Tryz.prog 144 [wV w, iV pid] fun rs outs => rs = [iR (hIx w pid)] ∧ outs = [] := by
  refine fn_ok (E := E34) τ_ok mixed Tryz.func144 (by rfl) (by rfl) false (by simp [Tryz.f144]) ?_
  have hl : w.xHomes.length ≤ 9223372036854775807 := ho.2.2.1.1
  conv => whnf
  refine ⟨fun m s => ∃ (k : Int), s = ⟨[(1, .vals false [.sc (.int .i64 pid)]), (2, .bptr 2 0 0), (4, .vals false [.sc (.int .i64 0)]), (5, .vals false [.sc (.int .i64 k)])], [(2, ⟨0, w.x⟩)], []⟩ ∧ m = w.xHomes.length - k.toNat ∧ 0 ≤ k ∧ k ≤ w.xHomes.length ∧ fidx (fun x : DHome => pidP pid x) (w.xHomes.drop k.toNat) k = hIx w pid,
    ⟨_, _, norm_wk (keep := [1, 2, 4, 5]) (kb := [2]) (ρ := []) rfl, ⟨0, rfl, rfl, by omega, by omega, rfl⟩⟩, ?_⟩
  rintro m _ ⟨k, rfl, rfl, k0, k1, hk⟩
  conv => whnf
  refine br_if (fun h => ?_) (fun h => ?_) <;> (try rw [h]) <;> (conv => whnf)
  · rw [ltI_t, List.length_map] at h
    obtain ⟨x, hx⟩ : ∃ x, w.xHomes[k.toNat]? = some x := ⟨_, List.getElem?_eq_getElem (by omega)⟩
    have hs := fidx_step (p := fun x : DHome => pidP pid x) hx
    rw [Int.toNat_of_nonneg k0] at hs
    rw [hs] at hk
    refine ⟨by omega, _, by rw [List.getElem?_map, hx]; rfl, ?_⟩
    conv => whnf
    refine br_if (fun h2 => ?_) (fun h2 => ?_) <;> (try rw [h2]) <;> (conv => whnf)
    · rw [if_pos (show pidP pid x = true from h2)] at hk
      rw [← hk]
      exact ⟨rfl, rfl⟩
    · rw [if_neg (show ¬ pidP pid x = true from fun e => by unfold pidP at e; rw [h2] at e; cases e)] at hk
      rw [wrp_i64 (x := k + 1) (by omega) (by omega)]
      have ek : (k + 1).toNat = k.toNat + 1 := by omega
      exact ⟨w.xHomes.length - (k + 1).toNat, _, by omega, norm_wk (keep := [1, 2, 4, 5]) (kb := [2]) (ρ := []) rfl, ⟨k + 1, rfl, rfl, by omega, by omega, by rw [ek]; exact hk⟩⟩
  · rw [ltI_f, List.length_map] at h
    rw [List.drop_eq_nil_of_le (by omega)] at hk
    rw [← hk]
    exact ⟨rfl, rfl⟩

/-! ### what a text that moves tells -/
noncomputable def movesI (c : DCode) (s : ByteArray) : Int :=
  if mrOk (sb s) = true ∧ mrK (sb s) = 2 then (match prdP c (mrT (sb s)) with | some p => p.xPid | none => 0) else 0
theorem mv_no {c : DCode} {s : ByteArray} (h : mrOk (sb s) = false ∨ mrK (sb s) ≠ 2) : movesI c s = 0 := by
  rw [movesI, if_neg]
  rintro ⟨a, b⟩
  rcases h with h | h
  · rw [h] at a; cases a
  · exact h b
theorem mv_none {c : DCode} {s : ByteArray} (h : prdP c (mrT (sb s)) = none) : movesI c s = 0 := by
  unfold movesI
  rw [h]
  split <;> rfl
theorem mv_some {c : DCode} {s : ByteArray} {p : DProc} (h1 : mrOk (sb s) = true) (h2 : mrK (sb s) = 2) (h : prdP c (mrT (sb s)) = some p) : movesI c s = p.xPid := by
  unfold movesI
  rw [h, if_pos ⟨h1, h2⟩]
theorem mrT_size (s : ByteArray) : (mrT (sb s)).size ≤ s.size := by
  have e : ∀ a, (tS (sb s) a).size ≤ s.size := fun a => by have := tS_size (zs := sb s) a; rw [sb_len] at this; exact this
  unfold mrT
  split
  · split <;> exact e _
  · exact Nat.zero_le _

theorem q0t : notB true = false := notB_f.2 rfl
theorem prdR_n {c : DCode} {s : ByteArray} (h : prdP c s = none) : prdR c s = [p0.r, bR false] := (prdR_no h).1.symm
theorem prdR_s {c : DCode} {s : ByteArray} {p : DProc} (h : prdP c s = some p) : prdR c s = [p.r, bR true] := (prdR_yes h).1.symm
theorem iR_eq {x y : Int} {o o' : List (List C)} (h : x = y) (h2 : o = o') : [iR x] = [iR y] ∧ o = o' := ⟨by rw [h], h2⟩

@[reducible] def wC (w : DWorld) : List C := [.sl false 5 (w.xCode.xPool.xNodes.map DNode.c), .sl false 4 (w.xCode.xList.map DInstr.c), .sl false 3 (w.xCode.xDefs.map DDef.c), .sc (.int .i64 w.xPlaces), .sl false 12 (w.xHomes.map DHome.c), .sl false 5 (w.xLinks.map DLink.c), .sl false 5 (w.xGrams.map DGram.c), .sl false 3 (w.xParked.map DParked.c), .sc (.int .i64 w.xNext), .sl false 1 (sssC w.xGave), .sl false 1 (sssC w.xTook)]

set_option maxRecDepth 100000 in
theorem i_moved_ok (w : DWorld) (ho : w.ok) (s : ByteArray) (hs : s.size ≤ 2000000) : FnV Tryz.prog 152 [.mptr none (wC w), sV s] fun rs outs => rs = [iR (movesI w.xCode s)] ∧ outs = [wC w] := by
  refine fn_ok (E := E34) τ_ok mixed Tryz.func152 (by rfl) (by rfl) false (by simp [Tryz.f152]) ?_
  conv => whnf
  refine (i_MailRead_ok s (by omega)).mono ?_
  rintro _ _ ⟨rfl, rfl⟩
  conv => whnf
  have hT := mrT_size s
  refine br_if (fun h1 => ?_) (fun h1 => ?_) <;> (try rw [h1]) <;> (conv => whnf)
  · simp only [eqI_t, eqI_f, notB_t, notB_f] at h1
    exact iR_eq (mv_no (.inl h1)).symm rfl
  refine br_if (fun h2 => ?_) (fun h2 => ?_) <;> (try rw [h2]) <;> (conv => whnf)
  · simp only [eqI_t, eqI_f, notB_t, notB_f] at h2
    exact iR_eq (mv_no (.inr h2)).symm rfl
  simp only [eqI_t, eqI_f, notB_t, notB_f] at h1 h2
  refine (i_ProcRead_ok w.xCode (mrT (sb s)) ho.1 (by omega)).mono ?_
  rintro _ _ ⟨rfl, rfl⟩
  cases hp : prdP w.xCode (mrT (sb s)) with
  | none =>
    rw [prdR_n hp]
    conv => whnf
    repeat (rw [q0f]; conv => whnf)
    exact iR_eq (mv_none hp).symm rfl
  | some p =>
    rw [prdR_s hp]
    conv => whnf
    rw [q0t]
    conv => whnf
    exact iR_eq (mv_some h1 h2 hp).symm rfl

end Go.Proofs.YtcaonpncopfeoaaGreat.V
