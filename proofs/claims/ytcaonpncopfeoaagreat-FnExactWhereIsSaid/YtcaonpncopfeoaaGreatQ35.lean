/- Where a process is, when it moves. -/
import Derived.Test.YtcaonpncopfeoaaGreatQ34
set_option linter.unusedVariables false
set_option linter.unusedSimpArgs false
namespace Go.Proofs.YtcaonpncopfeoaaGreat.V
open Go

def MdE35 (f : Nat) : List Mode :=
  match f with
  | 18 => [.rd, .rd]
  | 239 => [.rd]
  | _ => []
def E35 : Env := ⟨τ, MdE35⟩

set_option maxRecDepth 100000 in
theorem s_l1Max_ok (a b : Int) : FnV Tryz.prog 148 [iV a, iV b] fun rs outs => rs = [iR (maxI b a)] ∧ outs = [] := by
  refine fn_ok (E := E35) τ_ok mixed Tryz.func148 (by rfl) (by rfl) false (by simp [Tryz.f148]) ?_
  conv => whnf
  refine br_if (fun h => ?_) (fun h => ?_) <;> (try rw [h]) <;> (conv => whnf)
  · rw [ltI_t] at h
    exact iR_eq (by rw [maxI_eq, if_pos h]) rfl
  · rw [ltI_f] at h
    exact iR_eq (by rw [maxI_eq, if_neg (by omega)]) rfl
theorem maxI_0 (a : Int) : 0 ≤ maxI 0 a ∧ a ≤ maxI 0 a ∧ (maxI 0 a = 0 ∨ maxI 0 a = a) := by
  rw [maxI_eq]
  split <;> omega
theorem minI_c (a b : Int) : minI a b ≤ a ∧ minI a b ≤ b ∧ (minI a b = a ∨ minI a b = b) := by
  rw [minI_eq]
  split <;> omega

set_option maxRecDepth 100000 in
theorem s_l13Moves_ok (w : DWorld) (ho : w.ok) (s : ByteArray) (hs : s.size ≤ 2000000) : FnV Tryz.prog 149 [wV w, sV s] fun rs outs => rs = [iR (movesI w.xCode s)] ∧ outs = [] := by
  refine fn_ok (E := E35) τ_ok mixed Tryz.func149 (by rfl) (by rfl) false (by simp [Tryz.f149]) ?_
  conv => whnf
  refine (s_MailRead_ok s (by omega)).mono ?_
  rintro _ _ ⟨rfl, rfl⟩
  conv => whnf
  have hT := mrT_size s
  refine br_if (fun h1 => ?_) (fun h1 => ?_) <;> (try rw [h1]) <;> (conv => whnf)
  · simp only [eqI_t, eqI_f, notB_t, notB_f] at h1
    exact iR_eq (mv_no (.inl h1)).symm rfl
  refine br_if (fun h2 => ?_) (fun h2 => ?_) <;> (try rw [h2]) <;> (conv => whnf)
  · simp only [eqI_t, eqI_f, notB_t, notB_f] at h2
    exact iR_eq (mv_no (.inr h2)).symm rfl
  simp only [eqI_t, eqI_f, notB_t, notB_f] at h1 h2
  refine (s_ProcRead_ok w.xCode (mrT (sb s)) ho.1 (by omega)).mono ?_
  rintro _ _ ⟨rfl, rfl⟩
  cases hp : prdP w.xCode (mrT (sb s)) with
  | none =>
    rw [prdR_n hp]
    conv => whnf
    repeat (rw [q0f]; conv => whnf)
    exact iR_eq (mv_none hp).symm rfl
  | some p =>
    rw [prdR_s hp]
    conv => whnf
    rw [q0t]
    conv => whnf
    exact iR_eq (mv_some h1 h2 hp).symm rfl

/-! ### the first link on which a process moves -/
/-- Text `k` of link `i` moves the process `pid`. -/
def Hit (w : DWorld) (pid : Int) (i k : Nat) : Prop := 0 < pid ∧ ∃ l g s, w.xLinks[i]? = some l ∧ w.xGave[i]? = some g ∧ g[k]? = some s ∧ l.xGot ≤ k ∧ movesI w.xCode s = pid
def FstI (w : DWorld) (pid : Int) (i : Nat) : Prop := (∃ k, Hit w pid i k) ∧ ∀ j, j < i → ∀ k, ¬ Hit w pid j k
open Classical in
noncomputable def wayF (w : DWorld) (pid : Int) : Option Nat := if h : ∃ i, FstI w pid i then some h.choose else none
theorem way_some {w : DWorld} {pid : Int} {i : Nat} (h : FstI w pid i) : wayF w pid = some i := by
  have h' : ∃ i, FstI w pid i := ⟨i, h⟩
  unfold wayF
  rw [dif_pos h']
  have hs := h'.choose_spec
  congr 1
  rcases Nat.lt_trichotomy h'.choose i with e | e | e
  · obtain ⟨k, hk⟩ := hs.1
    exact absurd hk (h.2 _ e k)
  · exact e
  · obtain ⟨k, hk⟩ := h.1
    exact absurd hk (hs.2 _ e k)
theorem way_none {w : DWorld} {pid : Int} (h : ∀ i k, ¬ Hit w pid i k) : wayF w pid = none := by
  unfold wayF
  rw [dif_neg]
  rintro ⟨i, ⟨k, hk⟩, -⟩
  exact h i k hk
noncomputable def whI (w : DWorld) (pid : Int) : Int :=
  if 0 ≤ hIx w pid then (match w.xHomes[(hIx w pid).toNat]? with | some h => h.xAt | none => 0)
  else if 0 < w.xPlaces then (match wayF w pid with | some i => tmodOf i w.xPlaces | none => -1) else -1
theorem wh_home {w : DWorld} {pid : Int} {h : DHome} (h0 : 0 ≤ hIx w pid) (hh : w.xHomes[(hIx w pid).toNat]? = some h) : whI w pid = h.xAt := by
  unfold whI
  rw [if_pos h0, hh]
theorem wh_way {w : DWorld} {pid : Int} {i : Nat} (h0 : hIx w pid < 0) (hp : 0 < w.xPlaces) (h : FstI w pid i) : whI w pid = tmodOf i w.xPlaces := by
  unfold whI
  rw [if_neg (by omega), if_pos hp, way_some h]
theorem wh_no {w : DWorld} {pid : Int} (h0 : hIx w pid < 0) (h : ¬ 0 < w.xPlaces ∨ ∀ i k, ¬ Hit w pid i k) : whI w pid = -1 := by
  unfold whI
  rw [if_neg (by omega)]
  split
  · rename_i hp
    rcases h with h | h
    · exact absurd hp h
    · rw [way_none h]
  · rfl
/-- No text of a link before `i`, and none before `k` of link `i`. -/
def NoHit (w : DWorld) (pid : Int) (i k : Nat) : Prop := ∀ j n, Hit w pid j n → i < j ∨ (i = j ∧ k ≤ n)
theorem NoHit.fst {w : DWorld} {pid : Int} {i k : Nat} (h : NoHit w pid i k) (hk : Hit w pid i k) : FstI w pid i :=
  ⟨⟨k, hk⟩, fun j hj n hh => by rcases h j n hh with h | h <;> omega⟩
theorem NoHit.start {w : DWorld} {pid : Int} : NoHit w pid 0 0 := fun j n _ => by omega
theorem NoHit.step {w : DWorld} {pid : Int} {i k : Nat} (h : NoHit w pid i k) (hk : ¬ Hit w pid i k) : NoHit w pid i (k + 1) := fun j n hh => by
  rcases h j n hh with h | ⟨rfl, h⟩
  · exact .inl h
  · rcases Nat.lt_or_ge k n with e | e
    · exact .inr ⟨rfl, e⟩
    · have : n = k := by omega
      subst this
      exact absurd hh hk
theorem NoHit.next {w : DWorld} {pid : Int} {i k : Nat} {g : List ByteArray} (h : NoHit w pid i k) (hg : w.xGave[i]? = some g) (hk : g.length ≤ k) : NoHit w pid (i + 1) 0 := fun j n hh => by
  rcases h j n hh with h | ⟨rfl, h⟩
  · omega
  · obtain ⟨-, l, g', s, -, e1, e2, -⟩ := hh
    rw [hg] at e1
    cases e1
    rw [List.getElem?_eq_none (by omega)] at e2
    cases e2
theorem NoHit.skip {w : DWorld} {pid : Int} {i : Nat} {k : Int} {l : DLink} (h : NoHit w pid i 0) (hl : w.xLinks[i]? = some l) (hk : k ≤ l.xGot ∨ k ≤ 0) : NoHit w pid i k.toNat := fun j n hh => by
  rcases h j n hh with h | ⟨rfl, h⟩
  · exact .inl h
  · obtain ⟨-, l', g, s, e1, -, -, e2, -⟩ := hh
    rw [hl] at e1
    cases e1
    exact .inr ⟨rfl, by omega⟩
theorem NoHit.all {w : DWorld} {pid : Int} {i : Nat} (h : NoHit w pid i 0) (hi : w.xLinks.length ≤ i ∨ w.xGave.length ≤ i) : ∀ j n, ¬ Hit w pid j n := fun j n hh => by
  have hj : i ≤ j := by rcases h j n hh with h | h <;> omega
  obtain ⟨-, l, g, s, e1, e2, -⟩ := hh
  have := (List.getElem?_eq_some_iff.1 e1).1
  have := (List.getElem?_eq_some_iff.1 e2).1
  omega

end Go.Proofs.YtcaonpncopfeoaaGreat.V
