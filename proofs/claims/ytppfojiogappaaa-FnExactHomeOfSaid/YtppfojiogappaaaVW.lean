/- What a function's text does: codes, loops; what comes back out of a function. -/
import Derived.Test.YtppfojiogappaaaVV
set_option linter.unusedVariables false
set_option linter.unusedSimpArgs false
namespace Go.Proofs.Ytppfojiogappaaa.V
open Go Classical

/-- 's'' says no more than 's'. -/
def Wk (s s' : S) : Prop := ∀ (w0 : World) (A : AA) (B : List (Nat × Nat × Nat)) (nt : Nat) (a : Act) (w : World), Real w0 A B nt s a w → Real w0 A B nt s' a w
theorem Wk.refl (s : S) : Wk s s := fun _ _ _ _ _ _ h => h

def noSel (ops : Array Oper) : Bool := noSelL ops.toList

@[reducible] def WT := (Exit → S → Prop) → S → Prop
def wExit (e : Exit) : WT := fun Q s => Q e s
def wRegion (P : Program) (E : Env) (nt : Nat) (ops : Array Oper) (draw : Bool) : WT := fun Q s =>
  match draw with
  | false => opsW P E nt ops (Q .normal) ops.toList s
  | true => ∃ p, (noSel ops && planOk E ops p [] true ops.size []) = true ∧ ∃ s1, planW P E nt ops (fun s' => Wk s' s1) p [] s ∧ Q .normal s1
def wSeq (f g : WT) : WT := fun Q s => f (fun e s' => match e with | .normal => g Q s' | e => Q e s') s
def wCond (c : Operand) (f g : WT) : WT := fun Q s =>
  match s.ev c with
  | some (.vals false [.sc (.bool t)]) => br t (f Q s) (g Q s)
  | _ => False
def wBlock (id : Nat) (f : WT) : WT := fun Q s => f (fun e s' => match e with | .exit id' => if id' = id then Q .normal s' else Q (.exit id') s' | e => Q e s') s
def wLoop (f : WT) : WT := fun Q s =>
  ∃ Inv : Nat → S → Prop, (∃ n s1, Wk s s1 ∧ Inv n s1) ∧ ∀ n s1, Inv n s1 → f (fun e s' => match e with | .normal => ∃ m s2, m < n ∧ Wk s' s2 ∧ Inv m s2 | e => Q e s') s1
def wNo : WT := fun _ _ => False

/-- The rule of a code; by its recursor, so that what is worked out has one form. -/
def W (P : Program) (E : Env) (nt : Nat) (c : Code) : WT :=
  Code.rec (motive := fun _ => WT) (wExit .normal) (fun _ ops draw => wRegion P E nt ops draw) (fun _ _ f g => wSeq f g) (fun c _ _ f g => wCond c f g) (fun id _ f => wBlock id f) (fun _ f => wLoop f)
    (fun _ _ _ _ _ _ => wNo) (fun id => wExit (.exit id)) (fun _ _ => wNo) (fun _ => wExit .normal) (fun _ => wNo) (wExit .ret) (fun _ => wNo) c

/-- What holds of the machine where an exit is taken. -/
def Lift (w0 : World) (A : AA) (B : List (Nat × Nat × Nat)) (nt : Nat) (Q : Exit → S → Prop) : Exit → Act → World → Prop :=
  fun e a w => (∀ c, e ≠ .panic c) ∧ ∃ s, Real w0 A B nt s a w ∧ Q e s

section
variable {P : Program} {w0 : World} {A : AA} {B : List (Nat × Nat × Nat)} {nt : Nat} {E : Env}

theorem Real.drawn {s : S} {a : Act} {w : World} (h : Real w0 A B nt s a w) : Real w0 A B nt s a { w with drawn := w.drawn + 1 } := by
  obtain ⟨hdf, hsz, g, hm, hs⟩ := h
  have hx : Ext w0 A B { w with drawn := w.drawn + 1 } := hm.ext.same rfl rfl rfl (Nat.le_refl _) fun x _ _ => rfl
  have hst : Step g s w g s { w with drawn := w.drawn + 1 } := by
    refine ⟨fun x h => ⟨h, rfl⟩, fun h r hr => ⟨r, hr, Nat.le_refl _, Nat.le_refl _, fun hl _ => ⟨hl, rfl, rfl, rfl⟩, fun hl _ => ⟨hl, rfl, fun x hx => ⟨hx, rfl⟩⟩⟩, fun b x hx => ⟨x, hx, Nat.le_refl _, fun _ => rfl⟩⟩
  exact ⟨hdf, hsz, g, ⟨hx, hm.lt, hm.fr, fun h r hr hl => (hm.regs h r hr hl).frame (fun _ h => h) (fun _ h => h) (fun _ _ => rfl) (fun _ _ => rfl), fun b x hb => (hm.boxes b x hb).step hst rfl (hm.boxes b x hb).1 rfl, hm.im, hm.pl⟩, hs.step hst rfl⟩

theorem least {p : Nat → Prop} (h : ∃ n, p n) : ∃ n, p n ∧ ∀ m, p m → n ≤ m := by
  obtain ⟨n, hn⟩ := h
  induction n using Nat.strongRecOn with
  | _ n ih =>
    by_cases hm : ∃ m, m < n ∧ p m
    · obtain ⟨m, h1, h2⟩ := hm
      exact ih m h1 h2
    · refine ⟨n, hn, fun m hp => ?_⟩
      by_cases hlt : m < n
      · exact absurd ⟨m, hlt, hp⟩ hm
      · omega

theorem W_sound (hτ : ∀ t d, E.τ t = some d → TyOk P t d) (hmix : P.follows .mixedOrders = true) : ∀ (c : Code) (Q : Exit → S → Prop) {s : S} {a : Act} {w : World}, Real w0 A B nt s a w → W P E nt c Q s → c.wp P (Lift w0 A B nt Q) a w
  | .skip, Q, s, a, w, hr, h => wp_skip ⟨fun c e => (by cases e), s, hr, h⟩
  | .label _, Q, s, a, w, hr, h => wp_label ⟨fun c e => (by cases e), s, hr, h⟩
  | .exit id, Q, s, a, w, hr, h => wp_exit ⟨fun c e => (by cases e), s, hr, h⟩
  | .ret, Q, s, a, w, hr, h => wp_ret ⟨fun c e => (by cases e), s, hr, h⟩
  | .region id ops false, Q, s, a, w, hr, h => wp_region (by
    rw [List.range_eq_range']
    exact ops_sound hτ ops (fun s' a' w' hr' h' => ⟨fun c e => (by cases e), s', hr', h'⟩) ops.toList 0 _ rfl (by simp) hr h)
  | .region id ops true, Q, s, a, w, hr, h => by
    replace h : ∃ p, (noSel ops && planOk E ops p [] true ops.size []) = true ∧ ∃ s1, planW P E nt ops (fun s' => Wk s' s1) p [] s ∧ Q .normal s1 := h
    obtain ⟨p, hp, s1, h1, h2⟩ := h
    simp only [Bool.and_eq_true] at hp
    exact wp_region_any hmix (wpAnyJ_any _ ((plan_sound hτ ops (noSelL_ok hp.1) (fun c a w hq => hq.1 c rfl) (fun s' a' w' hr' h' => ⟨fun c e => (by cases e), s1, h' _ _ _ _ _ _ hr', h2⟩) p [] _ (LD.start ops) hr.drawn (fun q hq => by cases hq)).1 hp.2 h1))
  | .seq x y, Q, s, a, w, hr, h => by
    refine wp_seq (wp_mono (W_sound hτ hmix x _ hr h) fun e a' w' hq => ?_)
    obtain ⟨hp, s', hr', hq⟩ := hq
    cases e with
    | normal => exact W_sound hτ hmix y Q hr' hq
    | panic c => exact absurd rfl (hp c)
    | _ => exact ⟨hp, s', hr', hq⟩
  | .cond c x y, Q, s, a, w, hr, h => by
    replace h : wCond c (W P E nt x) (W P E nt y) Q s := h
    unfold wCond at h
    split at h
    · rename_i t ht
      have hv : a.eval c = .bool t := by
        obtain ⟨_, _, g, _, hs⟩ := hr
        obtain ⟨x, e1, e2⟩ := ev_ok hs ht
        cases e1
        exact e2
      refine wp_cond_split hv (fun e => ?_) (fun e => ?_)
      · subst e
        rw [br_t] at h
        exact W_sound hτ hmix x Q hr h
      · subst e
        rw [br_f] at h
        exact W_sound hτ hmix y Q hr h
    · exact h.elim
  | .block id x, Q, s, a, w, hr, h => by
    refine wp_block (wp_mono (W_sound hτ hmix x _ hr h) fun e a' w' hq => ?_)
    obtain ⟨hp, s', hr', hq⟩ := hq
    cases e with
    | exit id' =>
      show if id' = id then _ else _
      have hq : if id' = id then Q .normal s' else Q (.exit id') s' := hq
      split
      · rename_i he
        rw [if_pos he] at hq
        exact ⟨fun c e => (by cases e), s', hr', hq⟩
      · rename_i he
        rw [if_neg he] at hq
        exact ⟨hp, s', hr', hq⟩
    | panic c => exact absurd rfl (hp c)
    | _ => exact ⟨hp, s', hr', hq⟩
  | .loop x, Q, s, a, w, hr, h => by
    obtain ⟨Inv, ⟨n0, s0, hk0, hi0⟩, hround⟩ := h
    let μ : Act → World → Nat := fun a w => if h : ∃ n, ∃ s1, Real w0 A B nt s1 a w ∧ Inv n s1 then Classical.choose (least h) else 0
    refine wp_loop (fun a w => ∃ n, ∃ s1, Real w0 A B nt s1 a w ∧ Inv n s1) μ ⟨n0, s0, hk0 _ _ _ _ _ _ hr, hi0⟩ fun a w hI => ?_
    have hμ : μ a w = Classical.choose (least hI) := dif_pos hI
    obtain ⟨⟨s1, hr1, hi1⟩, _⟩ := Classical.choose_spec (least hI)
    refine wp_mono (W_sound hτ hmix x _ hr1 (hround _ s1 hi1)) fun e a' w' hq => ?_
    obtain ⟨hp, s', hr', hq⟩ := hq
    cases e with
    | normal =>
      obtain ⟨m, s2, hlt, hk, hi⟩ := hq
      have hI' : ∃ n, ∃ s1, Real w0 A B nt s1 a' w' ∧ Inv n s1 := ⟨m, s2, hk _ _ _ _ _ _ hr', hi⟩
      refine ⟨hI', ?_⟩
      have h1 : μ a' w' = Classical.choose (least hI') := dif_pos hI'
      have h2 := (Classical.choose_spec (least hI')).2 m ⟨s2, hk _ _ _ _ _ _ hr', hi⟩
      rw [h1, hμ]
      omega
    | panic c => exact absurd rfl (hp c)
    | _ => exact ⟨hp, s', hr', hq⟩
  | .rangeFunc _ _ _ _, _, _, _, _, _, h => h.elim
  | .scope _, _, _, _, _, _, h => h.elim
  | .goto _, _, _, _, _, _, h => h.elim
  | .refuse _, _, _, _, _, _, h => h.elim

end
end Go.Proofs.Ytppfojiogappaaa.V
