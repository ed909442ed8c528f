/- What a text that moves tells. -/
import Derived.Test.YtcaonpncopfeoaaGreatQ33
import Derived.Test.YtcaonpncopfeoaaGreatQ27
set_option linter.unusedVariables false
set_option linter.unusedSimpArgs false
namespace Go.Proofs.YtcaonpncopfeoaaGreat.V
open Go

def MdE42 (f : Nat) : List Mode :=
  match f with
  | 18 => [.rd, .rd]
  | 20 => [.rd, .rd]
  | 239 => [.rd]
  | 240 => [.rd]
  | _ => []
def E42 : Env := ⟨τ, MdE42⟩

/-! ### what a text that moves tells -/
noncomputable def movesI (c : DCode) (s : ByteArray) : Int :=
  if mrOk (sb s) = true ∧ mrK (sb s) = 2 then (match prdP c (mrT (sb s)) with | some p => p.xPid | none => 0) else 0
theorem mv_no {c : DCode} {s : ByteArray} (h : mrOk (sb s) = false ∨ mrK (sb s) ≠ 2) : movesI c s = 0 := by
  rw [movesI, if_neg]
  rintro ⟨a, b⟩
  rcases h with h | h
  · rw [h] at a; cases a
  · exact h b
theorem mv_none {c : DCode} {s : ByteArray} (h : prdP c (mrT (sb s)) = none) : movesI c s = 0 := by
  unfold movesI
  rw [h]
  split <;> rfl
theorem mv_some {c : DCode} {s : ByteArray} {p : DProc} (h1 : mrOk (sb s) = true) (h2 : mrK (sb s) = 2) (h : prdP c (mrT (sb s)) = some p) : movesI c s = p.xPid := by
  unfold movesI
  rw [h, if_pos ⟨h1, h2⟩]
theorem mrT_size (s : ByteArray) : (mrT (sb s)).size ≤ s.size := by
  have e : ∀ a, (tS (sb s) a).size ≤ s.size := fun a => by have := tS_size (zs := sb s) a; rw [sb_len] at this; exact this
  unfold mrT
  split
  · split <;> exact e _
  · exact Nat.zero_le _

theorem q0t : notB true = false := notB_f.2 rfl
theorem prdR_n {c : DCode} {s : ByteArray} (h : prdP c s = none) : prdR c s = [p0.r, bR false] := (prdR_no h).1.symm
theorem prdR_s {c : DCode} {s : ByteArray} {p : DProc} (h : prdP c s = some p) : prdR c s = [p.r, bR true] := (prdR_yes h).1.symm
theorem iR_eq {x y : Int} {o o' : List (List C)} (h : x = y) (h2 : o = o') : [iR x] = [iR y] ∧ o = o' := ⟨by rw [h], h2⟩

@[reducible] def wC (w : DWorld) : List C := [.sl false 5 (w.xCode.xPool.xNodes.map DNode.c), .sl false 4 (w.xCode.xList.map DInstr.c), .sl false 3 (w.xCode.xDefs.map DDef.c), .sc (.int .i64 w.xPlaces), .sl false 12 (w.xHomes.map DHome.c), .sl false 5 (w.xLinks.map DLink.c), .sl false 5 (w.xGrams.map DGram.c), .sl false 3 (w.xParked.map DParked.c), .sc (.int .i64 w.xNext), .sl false 1 (sssC w.xGave), .sl false 1 (sssC w.xTook)]

set_option maxRecDepth 100000 in
theorem i_moved_ok (w : DWorld) (ho : w.ok) (s : ByteArray) (hs : s.size ≤ 2000000) : FnV Tryz.prog 152 [.mptr none (wC w), sV s] fun rs outs => rs = [iR (movesI w.xCode s)] ∧ outs = [wC w] := by
  refine fn_ok (E := E42) τ_ok mixed Tryz.func152 (by rfl) (by rfl) false (by simp [Tryz.f152]) ?_
  conv => whnf
  refine (i_MailRead_ok s (by omega)).mono ?_
  rintro _ _ ⟨rfl, rfl⟩
  conv => whnf
  have hT := mrT_size s
  refine br_if (fun h1 => ?_) (fun h1 => ?_) <;> (try rw [h1]) <;> (conv => whnf)
  · simp only [eqI_t, eqI_f, notB_t, notB_f] at h1
    exact iR_eq (mv_no (.inl h1)).symm rfl
  refine br_if (fun h2 => ?_) (fun h2 => ?_) <;> (try rw [h2]) <;> (conv => whnf)
  · simp only [eqI_t, eqI_f, notB_t, notB_f] at h2
    exact iR_eq (mv_no (.inr h2)).symm rfl
  simp only [eqI_t, eqI_f, notB_t, notB_f] at h1 h2
  refine (i_ProcRead_ok w.xCode (mrT (sb s)) ho.1 (by omega)).mono ?_
  rintro _ _ ⟨rfl, rfl⟩
  cases hp : prdP w.xCode (mrT (sb s)) with
  | none =>
    rw [prdR_n hp]
    conv => whnf
    repeat (rw [q0f]; conv => whnf)
    exact iR_eq (mv_none hp).symm rfl
  | some p =>
    rw [prdR_s hp]
    conv => whnf
    rw [q0t]
    conv => whnf
    exact iR_eq (mv_some h1 h2 hp).symm rfl

set_option maxRecDepth 100000 in
theorem s_l13Moves_ok (w : DWorld) (ho : w.ok) (s : ByteArray) (hs : s.size ≤ 2000000) : FnV Tryz.prog 149 [wV w, sV s] fun rs outs => rs = [iR (movesI w.xCode s)] ∧ outs = [] := by
  refine fn_ok (E := E42) τ_ok mixed Tryz.func149 (by rfl) (by rfl) false (by simp [Tryz.f149]) ?_
  conv => whnf
  refine (s_MailRead_ok s (by omega)).mono ?_
  rintro _ _ ⟨rfl, rfl⟩
  conv => whnf
  have hT := mrT_size s
  refine br_if (fun h1 => ?_) (fun h1 => ?_) <;> (try rw [h1]) <;> (conv => whnf)
  · simp only [eqI_t, eqI_f, notB_t, notB_f] at h1
    exact iR_eq (mv_no (.inl h1)).symm rfl
  refine br_if (fun h2 => ?_) (fun h2 => ?_) <;> (try rw [h2]) <;> (conv => whnf)
  · simp only [eqI_t, eqI_f, notB_t, notB_f] at h2
    exact iR_eq (mv_no (.inr h2)).symm rfl
  simp only [eqI_t, eqI_f, notB_t, notB_f] at h1 h2
  refine (s_ProcRead_ok w.xCode (mrT (sb s)) ho.1 (by omega)).mono ?_
  rintro _ _ ⟨rfl, rfl⟩
  cases hp : prdP w.xCode (mrT (sb s)) with
  | none =>
    rw [prdR_n hp]
    conv => whnf
    repeat (rw [q0f]; conv => whnf)
    exact iR_eq (mv_none hp).symm rfl
  | some p =>
    rw [prdR_s hp]
    conv => whnf
    rw [q0t]
    conv => whnf
    exact iR_eq (mv_some h1 h2 hp).symm rfl

theorem hmC_at {l : List DHome} {k : Nat} {x : DHome} (h : l[k]? = some x) : (l.map DHome.c)[k]? = some x.c := by rw [List.getElem?_map, h]; rfl
theorem hmC_len (l : List DHome) : (l.map DHome.c).length = l.length := List.length_map ..

end Go.Proofs.YtcaonpncopfeoaaGreat.V
