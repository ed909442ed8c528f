/- Part 4 of what the row leans on: M4, M5. -/
import Derived.Test.YtppfojiogappaaaDoorK3
import Derived.Below
import Derived.ChangeArms
import Derived.ChangeOld
set_option linter.unusedVariables false

set_option linter.unusedSimpArgs false

namespace Go.Proofs.YtppfojiogappaaaDoor.V

open Go Classical

def Wk (s s' : S) : Prop := ∀ (w0 : World) (A : AA) (B : List (Nat × Nat × Nat)) (nt : Nat) (a : Act) (w : World), Real w0 A B nt s a w → Real w0 A B nt s' a w

theorem Wk.refl (s : S) : Wk s s := fun _ _ _ _ _ _ h => h

def noSel (ops : Array Oper) : Bool := noSelL ops.toList

@[reducible] def WT := (Exit → S → Prop) → S → Prop

def wExit (e : Exit) : WT := fun Q s => Q e s

def planW1 (P : Program) (E : Env) (nt : Nat) (ops : Array Oper) (Q : S → Prop) (p : Plan) (s : S) : Prop :=
  match p with
  | .one q => planW P E nt ops Q q [] s
  | p => ∃ s1, planW P E nt ops (fun s' => Wk s' s1) p [] s ∧ Q s1

def wRegion (P : Program) (E : Env) (nt : Nat) (ops : Array Oper) (draw : Bool) : WT := fun Q s =>
  match draw with
  | false => opsW P E nt ops (Q .normal) ops.toList s
  | true => ∃ p, (noSel ops && planOk1 E ops p) = true ∧ planW1 P E nt ops (Q .normal) p s

def wSeq (f g : WT) : WT := fun Q s => f (fun e s' => match e with | .normal => g Q s' | e => Q e s') s

def wCond (c : Operand) (f g : WT) : WT := fun Q s =>
  match s.ev c with
  | some (.vals false [.sc (.bool t)]) => br t (f Q s) (g Q s)
  | _ => False

def wBlock (id : Nat) (f : WT) : WT := fun Q s => f (fun e s' => match e with | .exit id' => if id' = id then Q .normal s' else Q (.exit id') s' | e => Q e s') s

def wLoop (f : WT) : WT := fun Q s =>
  ∃ Inv : Nat → S → Prop, (∃ n s1, Wk s s1 ∧ Inv n s1) ∧ ∀ n s1, Inv n s1 → f (fun e s' => match e with | .normal => ∃ m s2, m < n ∧ Wk s' s2 ∧ Inv m s2 | e => Q e s') s1

def wNo : WT := fun _ _ => False

def W (P : Program) (E : Env) (nt : Nat) (c : Code) : WT :=
  Code.rec (motive := fun _ => WT) (wExit .normal) (fun _ ops draw => wRegion P E nt ops draw) (fun _ _ f g => wSeq f g) (fun c _ _ f g => wCond c f g) (fun id _ f => wBlock id f) (fun _ f => wLoop f)
    (fun _ _ _ _ _ _ => wNo) (fun id => wExit (.exit id)) (fun _ _ => wNo) (fun _ => wExit .normal) (fun _ => wNo) (wExit .ret) (fun _ => wNo) c

def Lift (w0 : World) (A : AA) (B : List (Nat × Nat × Nat)) (nt : Nat) (Q : Exit → S → Prop) : Exit → Act → World → Prop :=
  fun e a w => (∀ c, e ≠ .panic c) ∧ ∃ s, Real w0 A B nt s a w ∧ Q e s

section

variable {P : Program} {w0 : World} {A : AA} {B : List (Nat × Nat × Nat)} {nt : Nat} {E : Env}

theorem Real.drawn {s : S} {a : Act} {w : World} (h : Real w0 A B nt s a w) : Real w0 A B nt s a { w with drawn := w.drawn + 1 } := by
  obtain ⟨hdf, hsz, g, hm, hs⟩ := h
  have hx : Ext w0 A B { w with drawn := w.drawn + 1 } := hm.ext.same rfl rfl rfl (Nat.le_refl _) fun x _ _ => rfl
  have hst : Step g s w g s { w with drawn := w.drawn + 1 } := by
    refine ⟨fun x h => ⟨h, rfl⟩, fun h r hr => ⟨r, hr, Nat.le_refl _, Nat.le_refl _, fun hl _ => ⟨hl, rfl, rfl, rfl⟩, fun hl _ => ⟨hl, rfl, fun x hx => ⟨hx, rfl⟩⟩⟩, fun b x hx => ⟨x, hx, Nat.le_refl _, fun _ => rfl⟩⟩
  exact ⟨hdf, hsz, g, ⟨hx, hm.lt, hm.fr, fun h r hr hl => (hm.regs h r hr hl).frame (fun _ h => h) (fun _ h => h) (fun _ _ => rfl) (fun _ _ => rfl), fun b x hb => (hm.boxes b x hb).step hst rfl (hm.boxes b x hb).1 rfl, hm.im, hm.pl⟩, hs.step hst rfl⟩

theorem least {p : Nat → Prop} (h : ∃ n, p n) : ∃ n, p n ∧ ∀ m, p m → n ≤ m := by
  obtain ⟨n, hn⟩ := h
  induction n using Nat.strongRecOn with
  | _ n ih =>
    by_cases hm : ∃ m, m < n ∧ p m
    · obtain ⟨m, h1, h2⟩ := hm
      exact ih m h1 h2
    · refine ⟨n, hn, fun m hp => ?_⟩
      by_cases hlt : m < n
      · exact absurd ⟨m, hlt, hp⟩ hm
      · omega

theorem W_sound (hτ : ∀ t d, E.τ t = some d → TyOk P t d) (hmix : P.follows .mixedOrders = true) : ∀ (c : Code) (Q : Exit → S → Prop) {s : S} {a : Act} {w : World}, Real w0 A B nt s a w → W P E nt c Q s → c.wp P (Lift w0 A B nt Q) a w
  | .skip, Q, s, a, w, hr, h => wp_skip ⟨fun c e => (by cases e), s, hr, h⟩
  | .label _, Q, s, a, w, hr, h => wp_label ⟨fun c e => (by cases e), s, hr, h⟩
  | .exit id, Q, s, a, w, hr, h => wp_exit ⟨fun c e => (by cases e), s, hr, h⟩
  | .ret, Q, s, a, w, hr, h => wp_ret ⟨fun c e => (by cases e), s, hr, h⟩
  | .region id ops false, Q, s, a, w, hr, h => wp_region (by
    rw [List.range_eq_range']
    exact ops_sound hτ ops (fun s' a' w' hr' h' => ⟨fun c e => (by cases e), s', hr', h'⟩) ops.toList 0 _ rfl (by simp) hr h)
  | .region id ops true, Q, s, a, w, hr, h => by
    replace h : ∃ p, (noSel ops && planOk1 E ops p) = true ∧ planW1 P E nt ops (Q .normal) p s := h
    obtain ⟨p, hp, h⟩ := h
    simp only [Bool.and_eq_true] at hp
    obtain ⟨hp1, hp2⟩ := hp
    have many : ∀ p : Plan, planOk E ops p [] true ops.size [] = true → (∃ s1, planW P E nt ops (fun s' => Wk s' s1) p [] s ∧ Q .normal s1) → (Code.region id ops true).wp P (Lift w0 A B nt Q) a w := fun p hp ⟨s1, h1, h2⟩ =>
      wp_region_any hmix (wpAnyJ_any _ ((plan_sound hτ ops (noSelL_ok hp1) (fun c a w hq => hq.1 c rfl) (fun s' a' w' hr' h' => ⟨fun c e => (by cases e), s1, h' _ _ _ _ _ _ hr', h2⟩) p [] _ (LD.start ops) hr.drawn (fun q hq => by cases hq)).1 hp h1))
    cases p with
    | one q => exact wp_region_any hmix (wpAnyJ_any _ ((plan_sound hτ ops (noSelL_ok hp1) (fun c a w hq => hq.1 c rfl) (fun s' a' w' hr' h' => ⟨fun c e => (by cases e), s', hr', h'⟩) q [] _ (LD.start ops) hr.drawn (fun q hq => by cases hq)).1 hp2 h))
    | _ => exact many _ hp2 h
  | .seq x y, Q, s, a, w, hr, h => by
    refine wp_seq (wp_mono (W_sound hτ hmix x _ hr h) fun e a' w' hq => ?_)
    obtain ⟨hp, s', hr', hq⟩ := hq
    cases e with
    | normal => exact W_sound hτ hmix y Q hr' hq
    | panic c => exact absurd rfl (hp c)
    | _ => exact ⟨hp, s', hr', hq⟩
  | .cond c x y, Q, s, a, w, hr, h => by
    replace h : wCond c (W P E nt x) (W P E nt y) Q s := h
    unfold wCond at h
    split at h
    · rename_i t ht
      have hv : a.eval c = .bool t := by
        obtain ⟨_, _, g, _, hs⟩ := hr
        obtain ⟨x, e1, e2⟩ := ev_ok hs ht
        cases e1
        exact e2
      refine wp_cond_split hv (fun e => ?_) (fun e => ?_)
      · subst e
        rw [br_t] at h
        exact W_sound hτ hmix x Q hr h
      · subst e
        rw [br_f] at h
        exact W_sound hτ hmix y Q hr h
    · exact h.elim
  | .block id x, Q, s, a, w, hr, h => by
    refine wp_block (wp_mono (W_sound hτ hmix x _ hr h) fun e a' w' hq => ?_)
    obtain ⟨hp, s', hr', hq⟩ := hq
    cases e with
    | exit id' =>
      show if id' = id then _ else _
      have hq : if id' = id then Q .normal s' else Q (.exit id') s' := hq
      split
      · rename_i he
        rw [if_pos he] at hq
        exact ⟨fun c e => (by cases e), s', hr', hq⟩
      · rename_i he
        rw [if_neg he] at hq
        exact ⟨hp, s', hr', hq⟩
    | panic c => exact absurd rfl (hp c)
    | _ => exact ⟨hp, s', hr', hq⟩
  | .loop x, Q, s, a, w, hr, h => by
    obtain ⟨Inv, ⟨n0, s0, hk0, hi0⟩, hround⟩ := h
    let μ : Act → World → Nat := fun a w => if h : ∃ n, ∃ s1, Real w0 A B nt s1 a w ∧ Inv n s1 then Classical.choose (least h) else 0
    refine wp_loop (fun a w => ∃ n, ∃ s1, Real w0 A B nt s1 a w ∧ Inv n s1) μ ⟨n0, s0, hk0 _ _ _ _ _ _ hr, hi0⟩ fun a w hI => ?_
    have hμ : μ a w = Classical.choose (least hI) := dif_pos hI
    obtain ⟨⟨s1, hr1, hi1⟩, _⟩ := Classical.choose_spec (least hI)
    refine wp_mono (W_sound hτ hmix x _ hr1 (hround _ s1 hi1)) fun e a' w' hq => ?_
    obtain ⟨hp, s', hr', hq⟩ := hq
    cases e with
    | normal =>
      obtain ⟨m, s2, hlt, hk, hi⟩ := hq
      have hI' : ∃ n, ∃ s1, Real w0 A B nt s1 a' w' ∧ Inv n s1 := ⟨m, s2, hk _ _ _ _ _ _ hr', hi⟩
      refine ⟨hI', ?_⟩
      have h1 : μ a' w' = Classical.choose (least hI') := dif_pos hI'
      have h2 := (Classical.choose_spec (least hI')).2 m ⟨s2, hk _ _ _ _ _ _ hr', hi⟩
      rw [h1, hμ]
      omega
    | panic c => exact absurd rfl (hp c)
    | _ => exact ⟨hp, s', hr', hq⟩
  | .rangeFunc _ _ _ _, _, _, _, _, _, h => h.elim
  | .scope _, _, _, _, _, _, h => h.elim
  | .goto _, _, _, _, _, _, h => h.elim
  | .refuse _, _, _, _, _, _, h => h.elim

end

end Go.Proofs.YtppfojiogappaaaDoor.V

set_option linter.unusedVariables false

set_option linter.unusedSimpArgs false

namespace Go.Proofs.YtppfojiogappaaaDoor.V

open Go Classical

def rxW (asRd : Bool) (s : S) (x : X) (k : List (Nat × Nat) → List Nat → RX → Prop) : Prop :=
  match asRd, x with
  | false, .ref h g => (match regAt s h g with
    | some r => k [] [h] (.own r.pure r.n r.es)
    | none => False)
  | false, .sub h g lo hi => (match regAt s h g with
    | some r => k [] [h] (.own r.pure r.n ((r.es.take hi).drop lo))
    | none => False)
  | false, .nil n => k [] [] (.own true n [])
  | _, x => xC s x fun l c => k l [] (.rd c)

def rxsW (asRd : Bool) (s : S) : List X → (List (Nat × Nat) → List Nat → List RX → Prop) → Prop
  | [], k => k [] [] []
  | x :: r, k => rxW asRd s x fun l o y => rxsW asRd s r fun l' o' ys => k (l ++ l') (o ++ o') (y :: ys)

def retsW (E : Env) (asRd : Bool) (s : S) : List ResultVar → (List (Nat × Nat) → List Nat → List RV → Prop) → Prop
  | [], k => k [] [] []
  | .tmp t :: r, k => (match get s.slots t with
    | some (.vals agg xs) => rxsW asRd s xs fun l o ys => retsW E asRd s r fun l' o' rs => k (l ++ l') (o ++ o') (⟨agg, ys⟩ :: rs)
    | _ => False)
  | .cell t ty :: r, k => (match get s.slots t with
    | some (.bptr b g 0) => (match boxAt s b g with
      | some cs => (match E.τ ty with
        | some d => (match okKind d.kind with
          | true => (match mkE d cs with
            | some (.vals agg xs) => rxsW asRd s xs fun l o ys => retsW E asRd s r fun l' o' rs => k (l ++ l') (o ++ o') (⟨agg, ys⟩ :: rs)
            | _ => False)
          | false => False)
        | none => False)
      | none => False)
    | _ => False)

def flC : List C → List Bool
  | [] => []
  | c :: r => (match c with
    | .sl true _ _ => true
    | _ => false) :: flC r

def mvOut (s : S) : Nat → List C → (List Nat → List C → Prop) → Prop
  | _, [], k => k [] []
  | d, c :: r, k => (match c with
    | .sl true n _ => (match get s.regs d with
      | some ⟨true, 0, _, true, n', es⟩ => if n' = n then mvOut s (d + 1) r fun o cs => k (d :: o) (.sl true n es :: cs) else False
      | _ => False)
    | _ => mvOut s (d + 1) r fun o cs => k o (.any :: cs))

def outsW (s : S) : Nat → List AV → (List (Nat × Nat) → List Nat → List (List C) → Prop) → Prop
  | _, [], k => k [] [] []
  | i, .mptr _ cs :: as, k => (match get s.boxes (i + 1000000) with
    | some x => if x.gen = 0 then (if x.cells.length = cs.length then aXs s (flC cs) x.cells fun l o c => outsW s (i + 1) as fun l' o' os => k (l ++ l') (o ++ o') (c :: os) else False) else False
    | none => False)
  | i, .mv _ cs :: as, k => mvOut s (3000000 + 1000 * i) cs fun o c => outsW s (i + 1) as fun l' o' os => k l' (o ++ o') (c :: os)
  | i, _ :: as, k => outsW s (i + 1) as k

def endW (E : Env) (asRd : Bool) (results : List ResultVar) (as : List AV) (post : List RV → List (List C) → Prop) (e : Exit) (s : S) : Prop :=
  match e with
  | .ret | .normal => retsW E asRd s results fun l O rs => outsW s 0 as fun l' O' outs =>
    (match noDup (O ++ O') with
    | true => (match apartL (l ++ l') (O ++ O') with
      | true => post rs outs
      | false => False)
    | false => False)
  | _ => False

section

variable {P : Program} {w0 : World} {A : AA} {B : List (Nat × Nat × Nat)} {nt : Nat} {E : Env}

def FO (g : G) (O : List Nat) (F : Nat → Prop) : Prop := ∀ x, F x → ∃ h ∈ O, g.ow x = .reg h

theorem rxW_ok {g : G} {s : S} {w : World} (hm : Mem w0 A B g s w) {asRd : Bool} {u : Value} {x : X} {k : List (Nat × Nat) → List Nat → RX → Prop} (hx : XOk w g s.regs u x) (h : rxW asRd s x k) :
    ∃ l O y F, k l O y ∧ LiveL s l ∧ FO g O F ∧ ∀ I : Nat → Prop, (∀ b, IL g l b → I b) → RxOk w I F u y := by
  have rd : xC s x (fun l c => k l [] (.rd c)) → ∃ l O y F, k l O y ∧ LiveL s l ∧ FO g O F ∧ ∀ I : Nat → Prop, (∀ b, IL g l b → I b) → RxOk w I F u y := fun h => by
    obtain ⟨l, c, h1, h2, h3⟩ := xC_ok hm hx h
    exact ⟨_, _, _, fun _ => False, h1, h2, fun _ h => h.elim, fun I hI => h3.frame hI fun _ _ => rfl⟩
  unfold rxW at h
  split at h
  · rename_i c gn
    split at h
    · rename_i r hr
      obtain ⟨h1, h2, h3⟩ := regAt_some hr
      obtain ⟨r', h4, h5, h6⟩ := hx
      rw [h1] at h4
      cases h4
      refine ⟨_, _, _, g.F c, h, fun p hp => (by cases hp), fun x hx => ⟨c, List.mem_singleton.2 rfl, hx⟩, fun I hI => ?_⟩
      rw [h6 h2 h3.symm]
      refine (hm.regs c r h1 h2).frame (fun b hb => ?_) (fun _ h => h) (fun _ _ => rfl) (fun _ _ => rfl)
      cases hp : r.pure with
      | true => rw [hp] at hb; exact hb.elim
      | false =>
        rw [hp] at hb
        exact hI b (.inl hb)
    · exact h.elim
  · rename_i c gn lo hi
    split at h
    · rename_i r hr
      obtain ⟨h1, h2, h3⟩ := regAt_some hr
      obtain ⟨r', h4, h5, h6⟩ := hx
      rw [h1] at h4
      cases h4
      obtain ⟨h7, h8, h9⟩ := h6 h2 h3.symm
      refine ⟨_, _, _, g.F c, h, fun p hp => (by cases hp), fun x hx => ⟨c, List.mem_singleton.2 rfl, hx⟩, fun I hI => ?_⟩
      refine Own.sub ((hm.regs c r h1 h2).frame (fun b hb => ?_) (fun _ h => h) (fun _ _ => rfl) (fun _ _ => rfl)) h7 h8 h9
      cases hp : r.pure with
      | true => rw [hp] at hb; exact hb.elim
      | false =>
        rw [hp] at hb
        exact hI b (.inl hb)
    · exact h.elim
  · rename_i n
    refine ⟨_, _, _, fun _ => False, h, fun p hp => (by cases hp), fun _ h => h.elim, fun I hI => ?_⟩
    have hu : u = .slice none 0 0 := hx
    rw [hu]
    exact .nil _ _
  · exact rd h

theorem rxsW_ok {g : G} {s : S} {w : World} (hm : Mem w0 A B g s w) {asRd : Bool} : ∀ {xs : List X} {us : Nat → Value} {k : List (Nat × Nat) → List Nat → List RX → Prop}, (∀ (j : Nat) (x : X), xs[j]? = some x → XOk w g s.regs (us j) x) → rxsW asRd s xs k →
    ∃ l O ys, ∃ F : Nat → Nat → Prop, k l O ys ∧ LiveL s l ∧ (∀ j, FO g O (F j)) ∧ ys.length = xs.length ∧ (noDup O = true → ∀ j j' x, F j x → F j' x → j = j') ∧
      ∀ I : Nat → Prop, (∀ b, IL g l b → I b) → ∀ (j : Nat) (y : RX), ys[j]? = some y → RxOk w I (F j) (us j) y
  | [], us, k, hx, h => ⟨[], [], [], fun _ _ => False, h, fun p hp => (by cases hp), fun _ _ h => h.elim, rfl, fun _ _ _ _ h => h.elim, fun I hI j y hj => (by simp at hj)⟩
  | x :: r, us, k, hx, h => by
    obtain ⟨l, O, y, F, h1, h2, h3, h4⟩ := rxW_ok hm (hx 0 x rfl) h
    obtain ⟨l', O', ys, F', i1, i2, i3, i4, i5, i6⟩ := rxsW_ok hm (us := fun j => us (j + 1)) (fun j x hj => hx (j + 1) x hj) h1
    refine ⟨_, _, _, fun j => match j with | 0 => F | j + 1 => F' j, i1, h2.app i2, fun j => ?_, by simp [i4], fun hd => ?_, fun I hI j z hj => ?_⟩
    · cases j with
      | zero => exact fun x hx => let ⟨c, hc, e⟩ := h3 x hx; ⟨c, List.mem_append.2 (.inl hc), e⟩
      | succ j => exact fun x hx => let ⟨c, hc, e⟩ := i3 j x hx; ⟨c, List.mem_append.2 (.inr hc), e⟩
    · obtain ⟨d1, d2⟩ := noDup_app hd
      have cross : ∀ j x, F x → F' j x → False := fun j x hx hx' => by
        obtain ⟨c, hc, e⟩ := h3 x hx
        obtain ⟨c', hc', e'⟩ := i3 j x hx'
        rw [e] at e'
        cases e'
        exact d2 _ hc hc'
      intro j j' x hj hj'
      cases j with
      | zero =>
        cases j' with
        | zero => rfl
        | succ j' => exact (cross j' x hj hj').elim
      | succ j =>
        cases j' with
        | zero => exact (cross j x hj' hj).elim
        | succ j' => rw [i5 d1 j j' x hj hj']
    · cases j with
      | zero => cases hj; exact h4 I fun b hb => hI b (IL_app_left hb)
      | succ j => exact i6 I (fun b hb => hI b (IL_app_right hb)) j z hj

theorem rv_ok {w : World} {g : G} {s : S} {v : Value} {agg : Bool} {xs : List X} {us : Nat → Value} {ys : List RX} {F : Nat → Nat → Prop} {I : Nat → Prop} (hl : ys.length = xs.length) (h2 : agg = false → ∃ x, xs = [x] ∧ v = us 0)
    (h3 : agg = true → ∃ a, v = .agg a ∧ a.size = xs.length ∧ ∀ j, j < xs.length → a[j]? = some (us j)) (h : ∀ (j : Nat) (y : RX), ys[j]? = some y → RxOk w I (F j) (us j) y) : RvOk w I F v ⟨agg, ys⟩ := by
  cases agg with
  | false =>
    obtain ⟨x, e1, e2⟩ := h2 rfl
    subst e1
    cases ys with
    | nil => simp at hl
    | cons y r =>
      have : r = [] := by simpa using hl
      subst this
      refine ⟨y, rfl, ?_⟩
      rw [e2]
      exact h 0 y rfl
  | true =>
    obtain ⟨a, e1, e2, e3⟩ := h3 rfl
    refine ⟨a, e1, by rw [e2]; exact hl.symm, fun j y hj => ⟨us j, e3 j ?_, h j y hj⟩⟩
    rw [← hl]
    exact (List.getElem?_eq_some_iff.1 hj).1

theorem retsW_ok (hτ : ∀ t d, E.τ t = some d → TyOk P t d) {g : G} {s : S} {a : Act} {w : World} (hm : Mem w0 A B g s w) (hs : SlotsOk g s nt a w) {asRd : Bool} (f : ResultVar → Sem Value) (hf : ∀ u, f (.tmp u) = pure (a.tmps.getD u undef))
    (hc : ∀ b t, f (.cell b t) = (do loadVar t (← asAddr (a.tmps.getD b undef)))) : ∀ {rvs : List ResultVar} {k : List (Nat × Nat) → List Nat → List RV → Prop}, retsW E asRd s rvs k →
    ∃ l O rs vs, ∃ F : Nat → Nat → Nat → Prop, k l O rs ∧ LiveL s l ∧ (∀ i j, FO g O (F i j)) ∧ rs.length = vs.length ∧ (rvs.mapM f).run P w = .ok vs w ∧ (noDup O = true → ∀ i j i' j' x, F i j x → F i' j' x → i = i' ∧ j = j') ∧
      ∀ I : Nat → Prop, (∀ b, IL g l b → I b) → ∀ (i : Nat) (r : RV), rs[i]? = some r → ∃ v, vs[i]? = some v ∧ RvOk w I (F i) v r
  | [], k, h => ⟨[], [], [], [], fun _ _ _ => False, h, fun p hp => (by cases hp), fun _ _ _ h => h.elim, rfl, by simp, fun _ _ _ _ _ _ h => h.elim, fun I hI i r hi => (by simp at hi)⟩
  | rv :: r, k, h => by
    have main : ∀ (agg : Bool) (xs : List X) (v : Value), (f rv).run P w = .ok v w → ValsOk w g s.regs v agg xs → (rxsW asRd s xs fun l o ys => retsW E asRd s r fun l' o' rs => k (l ++ l') (o ++ o') (⟨agg, ys⟩ :: rs)) →
        ∃ l O rs vs, ∃ F : Nat → Nat → Nat → Prop, k l O rs ∧ LiveL s l ∧ (∀ i j, FO g O (F i j)) ∧ rs.length = vs.length ∧ ((rv :: r).mapM f).run P w = .ok vs w ∧ (noDup O = true → ∀ i j i' j' x, F i j x → F i' j' x → i = i' ∧ j = j') ∧
          ∀ I : Nat → Prop, (∀ b, IL g l b → I b) → ∀ (i : Nat) (r : RV), rs[i]? = some r → ∃ v, vs[i]? = some v ∧ RvOk w I (F i) v r := by
      intro agg xs v hrun hv h
      obtain ⟨us, v1, v2, v3⟩ := vals_at hv
      obtain ⟨l, O, ys, F, h1, h2, h3, h4, h5, h6⟩ := rxsW_ok hm v1 h
      obtain ⟨l', O', rs, vs, F', i1, i2, i3, i4, i5, i6, i7⟩ := retsW_ok hτ hm hs f hf hc h1
      refine ⟨_, _, _, v :: vs, fun i => match i with | 0 => F | i + 1 => F' i, i1, h2.app i2, fun i => ?_, by simp [i4], by simp [List.mapM_cons, hrun, i5], fun hd => ?_, fun I hI i z hi => ?_⟩
      · cases i with
        | zero => exact fun j x hx => let ⟨c, hc, e⟩ := h3 j x hx; ⟨c, List.mem_append.2 (.inl hc), e⟩
        | succ i => exact fun j x hx => let ⟨c, hc, e⟩ := i3 i j x hx; ⟨c, List.mem_append.2 (.inr hc), e⟩
      · obtain ⟨d1, d2⟩ := noDup_app hd
        have d0 : noDup O = true := noDup_left hd
        have cross : ∀ j i' j' x, F j x → F' i' j' x → False := fun j i' j' x hx hx' => by
          obtain ⟨c, hc, e⟩ := h3 j x hx
          obtain ⟨c', hc', e'⟩ := i3 i' j' x hx'
          rw [e] at e'
          cases e'
          exact d2 _ hc hc'
        intro i j i' j' x hj hj'
        cases i with
        | zero =>
          cases i' with
          | zero => exact ⟨rfl, h5 d0 j j' x hj hj'⟩
          | succ i' => exact (cross j i' j' x hj hj').elim
        | succ i =>
          cases i' with
          | zero => exact (cross j' i j x hj' hj).elim
          | succ i' =>
            obtain ⟨e1, e2⟩ := i6 d1 i j i' j' x hj hj'
            exact ⟨by rw [e1], e2⟩
      · cases i with
        | zero => cases hi; exact ⟨v, rfl, rv_ok (s := s) (g := g) h4 v2 v3 fun j y hj => h6 I (fun b hb => hI b (IL_app_left hb)) j y hj⟩
        | succ i => exact i7 I (fun b hb => hI b (IL_app_right hb)) i z hi
    cases rv with
    | tmp t =>
      simp only [retsW] at h
      split at h
      · rename_i agg xs he
        have hv := (hs t _ he).2
        exact main agg xs _ (by rw [hf]; simp) hv h
      · exact h.elim
    | cell t ty =>
      simp only [retsW] at h
      split at h
      · rename_i b gn he
        split at h
        · rename_i cs hb
          split at h
          · rename_i d hd
            split at h
            · rename_i hk
              split at h
              · rename_i agg xs hmk
                obtain ⟨y, h1, h2, h3⟩ := boxAt_some hb
                obtain ⟨y', h4, h5, h6⟩ := (hs t _ he).2
                rw [h1] at h4
                cases h4
                have hv := h6 h2.symm
                obtain ⟨_, _, bcs, e, b3, b4, b5⟩ := hm.boxes b y h1
                rw [h3] at b4 b5
                obtain ⟨v, q1, q2⟩ := load_run (hτ _ _ hd) hk w g s.boxes s.regs (g.loc b).1 (g.loc b).2 cs _ hmk (fun j x hj => by
                  obtain ⟨u, hu, _, ho⟩ := b5 j x hj
                  exact ⟨u, (cell_of b3).trans hu, ho⟩)
                refine main agg xs v ?_ q2 h
                rw [hc, hv]
                simp [asAddr, q1]
              · exact h.elim
            · exact h.elim
          · exact h.elim
        · exact h.elim
      · exact h.elim

theorem mvOut_ok {g : G} {s : S} {w : World} (hm : Mem w0 A B g s w) : ∀ {cs : List C} {d : Nat} {us : Nat → Value} {k : List Nat → List C → Prop}, (∀ (j n : Nat) (es : List (List C)), cs[j]? = some (.sl true n es) → A.pr (d + j) ∧ A.pv (d + j) = us j) → mvOut s d cs k →
    ∃ O o, ∃ fs : Nat → Nat → Prop, k O o ∧ o.length = cs.length ∧ (∀ j y, fs j y → ∃ h ∈ O, g.ow y = .reg h) ∧ (noDup O = true → Inj fs) ∧
      ∀ (j n : Nat) (es : List (List C)), cs[j]? = some (.sl true n es) → ∃ es', o[j]? = some (.sl true n es') ∧ Own w (fun _ => False) (fs j) (us j) (.sl true n es')
  | [], d, us, k, hp, h => ⟨[], [], fun _ _ => False, h, rfl, fun _ _ h => h.elim, fun _ _ _ _ h => h.elim, fun j n es hj => (by simp at hj)⟩
  | c :: r, d, us, k, hp, h => by
    have hp' : ∀ (j n : Nat) (es : List (List C)), r[j]? = some (.sl true n es) → A.pr (d + 1 + j) ∧ A.pv (d + 1 + j) = us (j + 1) := fun j n es hj => by
      rw [show d + 1 + j = d + (j + 1) by omega]
      exact hp (j + 1) n es hj
    have other : (∀ n es, c ≠ .sl true n es) → (mvOut s (d + 1) r fun o cs => k o (.any :: cs)) → ∃ O o, ∃ fs : Nat → Nat → Prop, k O o ∧ o.length = (c :: r).length ∧ (∀ j y, fs j y → ∃ h ∈ O, g.ow y = .reg h) ∧ (noDup O = true → Inj fs) ∧
      ∀ (j n : Nat) (es : List (List C)), (c :: r)[j]? = some (.sl true n es) → ∃ es', o[j]? = some (.sl true n es') ∧ Own w (fun _ => False) (fs j) (us j) (.sl true n es') := fun hc h => by
      obtain ⟨O, o, fs, i1, i2, i3, i4, i5⟩ := mvOut_ok hm (us := fun j => us (j + 1)) hp' h
      refine ⟨O, _, fun j => match j with | 0 => fun _ => False | j + 1 => fs j, i1, by simp [i2], fun j y hy => ?_, fun hd j j' y hj hj' => ?_, fun j n es hj => ?_⟩
      · cases j with
        | zero => exact hy.elim
        | succ j => exact i3 j y hy
      · cases j with
        | zero => exact hj.elim
        | succ j =>
          cases j' with
          | zero => exact hj'.elim
          | succ j' => rw [i4 hd j j' y hj hj']
      · cases j with
        | zero => cases hj; exact absurd rfl (hc n es)
        | succ j => exact i5 j n es hj
    cases c with
    | sc v => exact other (fun n es e => by cases e) h
    | any => exact other (fun n es e => by cases e) h
    | sl own n es0 =>
      cases own with
      | false => exact other (fun n es e => by cases e) h
      | true =>
        simp only [mvOut] at h
        split at h
        · rename_i iv n' es1 hr
          split at h
          · rename_i hn
            subst hn
            obtain ⟨O, o, fs, i1, i2, i3, i4, i5⟩ := mvOut_ok hm (us := fun j => us (j + 1)) hp' h
            obtain ⟨p1, p2⟩ := hp 0 _ _ rfl
            have hval : g.val d = us 0 := by rw [← p2]; exact (hm.pl.2 d p1).2 _ hr rfl rfl
            have hO : Own w (fun _ => False) (g.F d) (g.val d) (.sl true n' es1) := hm.regs d _ hr rfl
            refine ⟨_, _, fun j => match j with | 0 => g.F d | j + 1 => fs j, i1, by simp [i2], fun j y hy => ?_, fun hd => ?_, fun j n es hj => ?_⟩
            · cases j with
              | zero => exact ⟨d, List.mem_cons_self .., hy⟩
              | succ j => obtain ⟨a, ha, e⟩ := i3 j y hy; exact ⟨a, List.mem_cons_of_mem _ ha, e⟩
            · have hd' : (if memb O d then false else noDup O) = true := hd
              split at hd'
              · cases hd'
              · rename_i hmm
                have cross : ∀ j y, g.F d y → fs j y → False := fun j y hy hy' => by
                  obtain ⟨a, ha, e⟩ := i3 j y hy'
                  have hy0 : g.ow y = .reg d := hy
                  rw [hy0] at e
                  cases e
                  exact hmm (memb_mem.2 ha)
                intro j j' y hj hj'
                cases j with
                | zero =>
                  cases j' with
                  | zero => rfl
                  | succ j' => exact (cross j' y hj hj').elim
                | succ j =>
                  cases j' with
                  | zero => exact (cross j y hj' hj).elim
                  | succ j' => rw [i4 hd' j j' y hj hj']
            · cases j with
              | zero => cases hj; exact ⟨es1, rfl, by rw [← hval]; exact hO⟩
              | succ j => exact i5 j n es hj
          · exact h.elim
        · exact h.elim

theorem outsW_ok {g : G} {s : S} {w : World} (hm : Mem w0 A B g s w) : ∀ {as : List AV} {i : Nat} {vs : List Value} {k : List (Nat × Nat) → List Nat → List (List C) → Prop}, vs.length = as.length →
    (∀ (j : Nat) (wr : Option Nat) (cs : List C), as[j]? = some (.mptr wr cs) → ∀ x, get s.boxes (i + j + 1000000) = some x → x.gen = 0 → vs[j]? = some (ptV wr (g.loc (i + j + 1000000)).1 (g.loc (i + j + 1000000)).2)) →
    (∀ (j : Nat) (agg : Bool) (cs : List C), as[j]? = some (.mv agg cs) → ∃ v, vs[j]? = some v ∧ ∀ (m n : Nat) (es : List (List C)), cs[m]? = some (.sl true n es) → A.pr (3000000 + 1000 * (i + j) + m) ∧ A.pv (3000000 + 1000 * (i + j) + m) = cellV v agg m) → outsW s i as k →
    ∃ l O outs, ∃ H : Nat → Nat → Nat → Prop, k l O outs ∧ LiveL s l ∧ (∀ m j y, H m j y → ∃ h ∈ O, g.ow y = .reg h) ∧ (noDup O = true → ∀ m j m' j' y, H m j y → H m' j' y → m = m' ∧ j = j') ∧ (noDup O = true → ∀ I : Nat → Prop, (∀ b, IL g l b → I b) → OutsOk w I as vs H outs)
  | [], i, [], k, hl, hv, hv2, h => ⟨[], [], [], fun _ _ _ => False, h, fun p hp => (by cases hp), fun _ _ _ h => h.elim, fun _ _ _ _ _ _ h => h.elim, fun _ I hI => trivial⟩
  | a :: as, i, v :: vs, k, hl, hv, hv2, h => by
    have hl' : vs.length = as.length := by simpa using hl
    have hv' : ∀ (j : Nat) (wr : Option Nat) (cs : List C), as[j]? = some (.mptr wr cs) → ∀ x, get s.boxes (i + 1 + j + 1000000) = some x → x.gen = 0 → vs[j]? = some (ptV wr (g.loc (i + 1 + j + 1000000)).1 (g.loc (i + 1 + j + 1000000)).2) := fun j wr cs hj x hx hg => by
      rw [show i + 1 + j = i + (j + 1) by omega] at hx ⊢
      exact hv (j + 1) wr cs hj x hx hg
    have hv2' : ∀ (j : Nat) (agg : Bool) (cs : List C), as[j]? = some (.mv agg cs) → ∃ v, vs[j]? = some v ∧ ∀ (m n : Nat) (es : List (List C)), cs[m]? = some (.sl true n es) → A.pr (3000000 + 1000 * (i + 1 + j) + m) ∧ A.pv (3000000 + 1000 * (i + 1 + j) + m) = cellV v agg m := fun j agg cs hj => by
      rw [show i + 1 + j = i + (j + 1) by omega]
      exact hv2 (j + 1) agg cs hj
    have cons : ∀ {l1 O1 : _} {c : List C} {fs : Nat → Nat → Prop}, LiveL s l1 → (∀ j y, fs j y → ∃ h ∈ O1, g.ow y = .reg h) → (noDup O1 = true → Inj fs) → (noDup O1 = true → ∀ I : Nat → Prop, (∀ b, IL g l1 b → I b) → outK a = true ∧ OutOk w I fs a v c) →
        outsW s (i + 1) as (fun l' o' os => k (l1 ++ l') (O1 ++ o') (c :: os)) →
        ∃ l O outs, ∃ H : Nat → Nat → Nat → Prop, k l O outs ∧ LiveL s l ∧ (∀ m j y, H m j y → ∃ h ∈ O, g.ow y = .reg h) ∧ (noDup O = true → ∀ m j m' j' y, H m j y → H m' j' y → m = m' ∧ j = j') ∧ (noDup O = true → ∀ I : Nat → Prop, (∀ b, IL g l b → I b) → OutsOk w I (a :: as) (v :: vs) H outs) := by
      intro l1 O1 c fs c1 c2 c3 c4 hh
      obtain ⟨l', O', os, H', i1, i2, i3, i4, i5⟩ := outsW_ok hm hl' hv' hv2' hh
      refine ⟨_, _, _, fun m => match m with | 0 => fs | m + 1 => H' m, i1, c1.app i2, fun m j y hy => ?_, fun hd => ?_, fun hd I hI => ?_⟩
      · cases m with
        | zero => obtain ⟨b, hb, e⟩ := c2 j y hy; exact ⟨b, List.mem_append.2 (.inl hb), e⟩
        | succ m => obtain ⟨b, hb, e⟩ := i3 m j y hy; exact ⟨b, List.mem_append.2 (.inr hb), e⟩
      · obtain ⟨d1, d2⟩ := noDup_app hd
        have cross : ∀ j m j' y, fs j y → H' m j' y → False := fun j m j' y hy hy' => by
          obtain ⟨b, hb, e⟩ := c2 j y hy
          obtain ⟨b', hb', e'⟩ := i3 m j' y hy'
          rw [e] at e'
          cases e'
          exact d2 _ hb hb'
        intro m j m' j' y hj hj'
        cases m with
        | zero =>
          cases m' with
          | zero => exact ⟨rfl, c3 (noDup_left hd) j j' y hj hj'⟩
          | succ m' => exact (cross j m' j' y hj hj').elim
        | succ m =>
          cases m' with
          | zero => exact (cross j' m j y hj' hj).elim
          | succ m' =>
            obtain ⟨e1, e2⟩ := i4 d1 m j m' j' y hj hj'
            exact ⟨by rw [e1], e2⟩
      · obtain ⟨k1, k2⟩ := c4 (noDup_left hd) I fun b hb => hI b (IL_app_left hb)
        unfold OutsOk
        rw [k1]
        exact ⟨k2, i5 (noDup_app hd).1 I fun b hb => hI b (IL_app_right hb)⟩
    have other : outK a = false → outsW s (i + 1) as k → ∃ l O outs, ∃ H : Nat → Nat → Nat → Prop, k l O outs ∧ LiveL s l ∧ (∀ m j y, H m j y → ∃ h ∈ O, g.ow y = .reg h) ∧ (noDup O = true → ∀ m j m' j' y, H m j y → H m' j' y → m = m' ∧ j = j') ∧ (noDup O = true → ∀ I : Nat → Prop, (∀ b, IL g l b → I b) → OutsOk w I (a :: as) (v :: vs) H outs) := fun ha h => by
      obtain ⟨l', O', os, H', i1, i2, i3, i4, i5⟩ := outsW_ok hm hl' hv' hv2' h
      refine ⟨l', O', os, H', i1, i2, i3, i4, fun hd I hI => ?_⟩
      unfold OutsOk
      rw [ha]
      exact i5 hd I hI
    cases a with
    | mptr wr cs =>
      simp only [outsW] at h
      split at h
      · rename_i x hx
        split at h
        · rename_i hg
          split at h
          · rename_i hlen
            obtain ⟨_, _, bcs, e, b3, b4, b5⟩ := hm.boxes (i + 1000000) x hx
            obtain ⟨l, O, o, fs, h1, h2, h3, h4, h5, h6, _⟩ := aXs_ok hm (us := fun j => bcs.getD ((g.loc (i + 1000000)).2 + j) undef) (fun j y hj => by
              obtain ⟨u, hu, _, ho⟩ := b5 j y hj
              have : bcs.getD ((g.loc (i + 1000000)).2 + j) undef = u := by simp [Array.getD_eq_getD_getElem?, hu]
              rw [this]
              exact ho) h
            have hv0 : v = ptV wr (g.loc (i + 1000000)).1 (g.loc (i + 1000000)).2 := by
              have := hv 0 wr cs rfl x hx hg
              simpa using this
            refine cons h2 h4 h5 (fun hd I hI => ⟨rfl, by rw [h3, hlen], g.loc (i + 1000000), hv0, bcs, e, b3, by rw [h3]; exact b4, fun j c hj => ?_⟩) h1
            have hj' : j < x.cells.length := by rw [← h3]; exact (List.getElem?_eq_some_iff.1 hj).1
            obtain ⟨u, hu, hone, _⟩ := b5 j x.cells[j] (List.getElem?_eq_getElem hj')
            refine ⟨u, hu, hone, ?_⟩
            have h12 := h6 I hI j c hj
            have : bcs.getD ((g.loc (i + 1000000)).2 + j) undef = u := by simp [Array.getD_eq_getD_getElem?, hu]
            rw [this] at h12
            exact h12
          · exact h.elim
        · exact h.elim
      · exact h.elim
    | mv agg cs =>
      simp only [outsW] at h
      obtain ⟨v', hv3, hv4⟩ := hv2 0 agg cs rfl
      cases hv3
      obtain ⟨O, o, fs, h1, h2, h3, h4, h5⟩ := mvOut_ok hm (us := cellV v agg) (fun j n es hj => hv4 j n es hj) h
      exact cons (l1 := []) (fun p hp => by cases hp) h3 h4 (fun hd I hI => ⟨rfl, h2, h5⟩) h1
    | _ => exact other rfl h
  | [], _, _ :: _, _, hl, _, _, _ => by simp at hl
  | _ :: _, _, [], _, hl, _, _, _ => by simp at hl

end

end Go.Proofs.YtppfojiogappaaaDoor.V

set_option linter.unusedVariables false

set_option linter.unusedSimpArgs false

namespace Go.Proofs.YtppfojiogappaaaDoor.V

open Go Classical

def ptE (wr : Option Nat) (b : Nat) : V.E :=
  match wr with
  | none => .bptr b 0 0
  | some f => .clo f b 0

def nmI : Nat → List C → List Nat
  | _, [] => []
  | d, _ :: r => d :: nmI (d + 1) r

def initS : Nat → List AV → S
  | _, [] => ⟨[], [], []⟩
  | i, .rdv agg cs :: as => (match rXs none cs with
    | some xs => { initS (i + 1) as with slots := put (initS (i + 1) as).slots i (.vals agg xs) }
    | none => initS (i + 1) as)
  | i, .own n es :: as => { initS (i + 1) as with slots := put (initS (i + 1) as).slots i (.vals false [.ref i 0]), regs := put (initS (i + 1) as).regs i ⟨true, 0, 0, false, n, es⟩ }
  | i, .mptr wr cs :: as => (match adXs false (some none) (nmI (2000000 + 1000 * i) cs) (initS (i + 1) as).regs cs with
    | some (xs, regs) => ⟨put (initS (i + 1) as).slots i (ptE wr (i + 1000000)), put (initS (i + 1) as).boxes (i + 1000000) ⟨0, xs⟩, regs⟩
    | none => initS (i + 1) as)
  | i, .nilv n :: as => { initS (i + 1) as with slots := put (initS (i + 1) as).slots i (.vals false [.nil n]) }
  | i, .rptr row :: as => { initS (i + 1) as with slots := put (initS (i + 1) as).slots i (.rptr none row 0) }
  | i, .ov agg cs :: as => (match adXs false (some none) (nmI (2000000 + 1000 * i) cs) (initS (i + 1) as).regs cs with
    | some (xs, regs) => ⟨put (initS (i + 1) as).slots i (.vals agg xs), (initS (i + 1) as).boxes, regs⟩
    | none => initS (i + 1) as)
  | i, .mv agg cs :: as => (match adXs true (some none) (nmI (3000000 + 1000 * i) cs) (initS (i + 1) as).regs cs with
    | some (xs, regs) => ⟨put (initS (i + 1) as).slots i (.vals agg xs), (initS (i + 1) as).boxes, regs⟩
    | none => initS (i + 1) as)

section

variable {P : Program} {w0 : World} {A : AA} {B : List (Nat × Nat × Nat)} {nt : Nat} {E : Env}

noncomputable def G.take (g : G) (b : Nat) (p : Nat × Nat) : G := { g with ow := fun x => if x = p.1 then .box b else g.ow x, loc := fun c => if c = b then p else g.loc c }

theorem take_loc_ne {g : G} {b c : Nat} {p : Nat × Nat} (h : c ≠ b) : (g.take b p).loc c = g.loc c := by simp [G.take, h]

theorem Mem.takeBox {g : G} {S : V.S} {w : World} (hm : Mem w0 A B g S w) (b : Nat) (p : Nat × Nat) (xs : List X) (hno : get S.boxes b = none) (htag : g.ow p.1 = .none) (hlt : p.1 < w.heap.size) (hB : (p.1, p.2, xs.length) ∈ B)
    (cs : Array Value) (e : TypeId) (hc : w.heap[p.1]? = some (.cells cs e (0, 0))) (hsz : p.2 + xs.length ≤ cs.size) (hcell : ∀ (j : Nat) (y : X), xs[j]? = some y → ∃ u, cs[p.2 + j]? = some u ∧ u.oneCell' = true ∧ XOk w g S.regs u y)
    (hpb : ∀ b, ¬ A.pb b) :
    Step g S w (g.take b p) { S with boxes := put S.boxes b ⟨0, xs⟩ } w ∧ Mem w0 A B (g.take b p) { S with boxes := put S.boxes b ⟨0, xs⟩ } w := by
  have hn : ∀ x, g.ow x ≠ .none → x ≠ p.1 := fun x hx e => hx (by rw [e]; exact htag)
  have how : ∀ x, g.ow x ≠ .none → (g.take b p).ow x = g.ow x := fun x hx => by simp [G.take, hn x hx]
  have hback : ∀ x t, t ≠ .box b → (g.take b p).ow x = t → g.ow x = t := fun x t ht h => by
    by_cases hx : x = p.1
    · simp only [G.take, hx, if_true] at h
      exact absurd h.symm ht
    · simpa [G.take, hx] using h
  have hst : Step g S w (g.take b p) { S with boxes := put S.boxes b ⟨0, xs⟩ } w := by
    refine ⟨fun x hi => ⟨(how x (by rw [hi]; simp)).trans hi, rfl⟩, fun h r hr => ?_, fun c x hb => ?_⟩
    · exact ⟨r, hr, Nat.le_refl _, Nat.le_refl _, fun hl _ => ⟨hl, rfl, rfl, rfl⟩, fun hl _ => ⟨hl, rfl, fun x hx => ⟨(how x (by rw [hx]; simp)).trans hx, rfl⟩⟩⟩
    · by_cases h : b = c
      · subst h
        rw [hno] at hb
        cases hb
      · exact ⟨x, by simp [get_put_ne _ _ h, hb], Nat.le_refl _, fun _ => by simp [G.take, Ne.symm h]⟩
  refine ⟨hst, hm.ext, fun x hx => ?_, fun x h hx => hm.fr x h (hback x _ (by simp) hx), fun h r hr hl => ?_, fun c x hb => ?_, fun x hx => hm.im x (hback x _ (by simp) hx), fun c hc => (hpb c hc).elim, pr_step hst hm.pl.2 fun d r' _ hr' _ => ⟨r', hr'⟩⟩
  · by_cases h : x = p.1
    · rw [h]; exact hlt
    · exact hm.lt x (by simpa [G.take, h] using hx)
  · refine (hm.regs h r hr hl).frame (fun x hx => ?_) (fun x hx => ?_) (fun _ _ => rfl) (fun _ _ => rfl)
    · cases hp : r.pure with
      | true => rw [hp] at hx; exact hx.elim
      | false =>
        rw [hp] at hx
        have hx' : g.ow x = .imm := hx
        exact (how x (by rw [hx']; simp)).trans hx'
    · have hx' : g.ow x = .reg h := hx
      exact (how x (by rw [hx']; simp)).trans hx'
  · simp only [get_put] at hb
    by_cases h : b = c
    · subst h
      simp only [if_true, Option.some.injEq] at hb
      subst hb
      have hl : (g.take b p).loc b = p := by simp [G.take]
      unfold BoxOk
      rw [hl]
      refine ⟨by simp [G.take], .inr hB, cs, e, hc, hsz, fun j y hj => ?_⟩
      obtain ⟨u, hu, h1, ho⟩ := hcell j y hj
      exact ⟨u, hu, h1, ho.step hst⟩
    · rw [if_neg h] at hb
      have ho := hm.boxes c x hb
      exact BoxOk.step hst ho (by simp [G.take, Ne.symm h]) ((how _ (by rw [ho.1]; simp)).trans ho.1) rfl

theorem rXs_ok {w : World} {g : G} {regs : List (Nat × Reg)} {I : Nat → Prop} (hI : ∀ x, I x → g.I x) {cs : List C} {xs : List X} (h : rXs none cs = some xs) : xs.length = cs.length ∧ ∀ (j : Nat) (x : X), xs[j]? = some x → ∃ c, cs[j]? = some c ∧ ∀ u, Rd w I u c → XOk w g regs u x := by
  obtain ⟨h1, h2⟩ := rXs_at h
  refine ⟨h1, fun j x hj => ?_⟩
  obtain ⟨c, hc, hx⟩ := h2 j x hj
  refine ⟨c, hc, fun u hu => ?_⟩
  cases c with
  | sc v => cases hx; cases hu; exact rfl
  | any => cases hx
  | sl own n es =>
    cases hx
    exact hu.flag.frame hI fun _ _ => rfl

theorem adXs_keys {z : Bool} {ln : Option (Option (Nat × Nat))} : ∀ {hs : List Nat} {regs : List (Nat × Reg)} {cs : List C} {xs : List X} {regs' : List (Nat × Reg)}, adXs z ln hs regs cs = some (xs, regs') → ∀ d r, get regs' d = some r → (∃ r, get regs d = some r) ∨ d ∈ hs
  | [], regs, [], xs, regs', e, d, r, hr => by cases e; exact .inl ⟨r, hr⟩
  | h :: hs, regs, c :: cs, xs, regs', e, d, r, hr => by
    have other : (match lX ln c with
        | some x => (match adXs z ln hs regs cs with
          | some (xs, regs') => some (x :: xs, regs')
          | none => none)
        | none => none) = some (xs, regs') → (∃ r, get regs d = some r) ∨ d ∈ h :: hs := fun e => by
      split at e
      · split at e
        · rename_i h2
          cases e
          exact (adXs_keys h2 d r hr).imp id (List.mem_cons_of_mem _)
        · cases e
      · cases e
    cases c with
    | sc v => exact other e
    | any => exact other e
    | sl own n es =>
      cases own with
      | false => exact other e
      | true =>
        simp only [adXs] at e
        split at e
        · split at e
          · rename_i h2
            cases e
            rcases adXs_keys h2 d r hr with ⟨r2, hr2⟩ | hm
            · simp only [get_put] at hr2
              split at hr2
              · rename_i hd
                exact .inr (by rw [← hd]; exact List.mem_cons_self ..)
              · exact .inl ⟨r2, hr2⟩
            · exact .inr (List.mem_cons_of_mem _ hm)
          · cases e
        · cases e
  | [], _, _ :: _, _, _, e, _, _, _ => by cases e
  | _ :: _, _, [], _, _, e, _, _, _ => by cases e

theorem nmI_ge : ∀ {d : Nat} {cs : List C} {x : Nat}, x ∈ nmI d cs → d ≤ x
  | d, c :: r, x, h => by
    cases h with
    | head => exact Nat.le_refl _
    | tail _ h => have := nmI_ge h; omega

theorem init_ok {w : World} {I : Nat → Prop} (hA : A.i = I) (hpb : ∀ b, ¬ A.pb b) (hpr : ∀ b, ¬ A.pr b) (hI : ∀ x, I x → x < w.heap.size) : ∀ {as : List AV} {i : Nat} {vs : List Value} {Fs : List (Nat → Prop)}, ArgsOk w I as vs Fs → Apart Fs → (∀ F ∈ Fs, ∀ x, F x → ¬ I x ∧ x < w.heap.size) →
    (∀ x, aOf as vs Fs x → A x) → (∀ p ∈ bOf as vs, p ∈ B) →
    ∃ g, Mem w A B g (initS i as) w ∧ vs.length = as.length ∧ (∀ d e, get (initS i as).slots d = some e → i ≤ d ∧ ∃ v, vs[d - i]? = some v ∧ EOk w g (initS i as).boxes (initS i as).regs v e) ∧
      (∀ d r, get (initS i as).regs d = some r → i ≤ d) ∧ (∀ d x, get (initS i as).boxes d = some x → i + 1000000 ≤ d) ∧
      (∀ x, g.ow x = .none ∨ I x ∨ ∃ F ∈ Fs, F x) ∧ (∀ x, I x → g.ow x = .imm) ∧
      (∀ (j : Nat) (wr : Option Nat) (cs : List C) (y : Box), as[j]? = some (.mptr wr cs) → get (initS i as).boxes (i + j + 1000000) = some y → vs[j]? = some (ptV wr (g.loc (i + j + 1000000)).1 (g.loc (i + j + 1000000)).2))
  | [], i, [], [], h, hap, hF, ha, hb => by
    refine ⟨⟨fun x => if I x then .imm else .none, fun _ => undef, fun _ => (0, 0)⟩, ⟨⟨rfl, rfl, rfl, Nat.le_refl _, fun _ _ _ _ => rfl, fun p _ _ cs e fr hc => ⟨cs, hc, rfl, fun _ _ => rfl⟩⟩, fun x hx => ?_, fun x h hx => ?_, fun h r hr => (by cases hr), fun b x hb => (by cases hb), fun x hx => ?_, fun c hc => (hpb c hc).elim, fun c hc => (hpr c hc).elim⟩,
      rfl, fun d e hd => (by cases hd), fun d r hr => (by cases hr), fun d r hr => (by cases hr), fun x => ?_, fun x hx => by simp [hx], fun j wr cs y hj => (by simp at hj)⟩
    · by_cases h : I x
      · exact hI x h
      · simp [h] at hx
    · by_cases h : I x <;> simp [h] at hx
    · by_cases h : I x
      · exact .inl (by rw [hA]; exact h)
      · simp [h] at hx
    · by_cases h : I x
      · exact .inr (.inl h)
      · exact .inl (by simp [h])
  | a :: as, i, v :: vs, F :: Fs, h, hap, hF, ha, hb => by
    obtain ⟨h0, h⟩ := h
    obtain ⟨hap0, hap⟩ := hap
    have hb' : ∀ p ∈ bOf as vs, p ∈ B := fun p hp => hb p (by
      cases a with
      | mptr wr cs =>
        show p ∈ (match unP wr v with
          | some p => (p.1, p.2, cs.length) :: bOf as vs
          | none => bOf as vs)
        split
        · exact List.mem_cons_of_mem _ hp
        · exact hp
      | _ => exact hp)
    have ha' : ∀ x, aOf as vs Fs x → A x := fun x hx => ha x (.inr hx)
    obtain ⟨g, m1, m2, m3, m4, m5, m6, m7, m8⟩ := init_ok (i := i + 1) hA hpb hpr hI h hap (fun F' hF' => hF F' (List.mem_cons_of_mem _ hF')) ha' hb'
    have hidx : ∀ d, i + 1 ≤ d → (v :: vs)[d - i]? = vs[d - (i + 1)]? := fun d hd => by
      rw [show d - i = (d - (i + 1)) + 1 by omega]
      rfl
    have hnone : ∀ x, F x → g.ow x = .none := fun x hx => by
      rcases m6 x with h | h | ⟨F', hF', h⟩
      · exact h
      · exact absurd h (hF F (List.mem_cons_self ..) x hx).1
      · exact absurd h (hap0 x hx F' hF')
    have old : ∀ {g' : G} {S' : S}, Step g (initS (i + 1) as) w g' S' w → ∀ d e, get (initS (i + 1) as).slots d = some e → i ≤ d ∧ ∃ u, (v :: vs)[d - i]? = some u ∧ EOk w g' S'.boxes S'.regs u e := fun hst d e hd => by
      obtain ⟨q1, u, q2, q3⟩ := m3 d e hd
      exact ⟨by omega, u, by rw [hidx d q1]; exact q2, q3.step hst⟩
    have hm8 : ∀ (a : AV) (g' : G), (∀ j, g'.loc (i + 1 + j + 1000000) = g.loc (i + 1 + j + 1000000)) → ∀ (bx : List (Nat × Box)), (∀ j, get bx (i + 1 + j + 1000000) = get (initS (i + 1) as).boxes (i + 1 + j + 1000000)) →
        (∀ (wr : Option Nat) (cs : List C) (y : Box), a = .mptr wr cs → get bx (i + 1000000) = some y → v = ptV wr (g'.loc (i + 1000000)).1 (g'.loc (i + 1000000)).2) →
        ∀ (j : Nat) (wr : Option Nat) (cs : List C) (y : Box), (a :: as)[j]? = some (.mptr wr cs) → get bx (i + j + 1000000) = some y → (v :: vs)[j]? = some (ptV wr (g'.loc (i + j + 1000000)).1 (g'.loc (i + j + 1000000)).2) := by
      intro a g' hl bx hbx h0 j wr cs y hj hy
      cases j with
      | zero =>
        cases hj
        have := h0 wr cs y rfl hy
        rw [this]
        rfl
      | succ j =>
        rw [show i + (j + 1) = i + 1 + j by omega] at hy ⊢
        rw [hbx] at hy
        rw [hl]
        exact m8 j wr cs y hj hy
    have same : initS i (a :: as) = initS (i + 1) as → (∀ wr cs, a = .mptr wr cs → get (initS (i + 1) as).boxes (i + 1000000) = none) → ∃ g, Mem w A B g (initS i (a :: as)) w ∧ (v :: vs).length = (a :: as).length ∧ (∀ d e, get (initS i (a :: as)).slots d = some e → i ≤ d ∧ ∃ u, (v :: vs)[d - i]? = some u ∧ EOk w g (initS i (a :: as)).boxes (initS i (a :: as)).regs u e) ∧
      (∀ d r, get (initS i (a :: as)).regs d = some r → i ≤ d) ∧ (∀ d x, get (initS i (a :: as)).boxes d = some x → i + 1000000 ≤ d) ∧
      (∀ x, g.ow x = .none ∨ I x ∨ ∃ F' ∈ F :: Fs, F' x) ∧ (∀ x, I x → g.ow x = .imm) ∧
      (∀ (j : Nat) (wr : Option Nat) (cs : List C) (y : Box), (a :: as)[j]? = some (.mptr wr cs) → get (initS i (a :: as)).boxes (i + j + 1000000) = some y → (v :: vs)[j]? = some (ptV wr (g.loc (i + j + 1000000)).1 (g.loc (i + j + 1000000)).2)) := by
      intro e hno
      rw [e]
      refine ⟨g, m1, by simp [m2], old (Step.refl g _ w), fun d r hr => by have := m4 d r hr; omega, fun d r hr => by have := m5 d r hr; omega, fun x => ?_, m7, hm8 a g (fun _ => rfl) _ (fun _ => rfl) fun wr cs y ea hy => ?_⟩
      · rcases m6 x with h | h | ⟨F', hF', h⟩
        · exact .inl h
        · exact .inr (.inl h)
        · exact .inr (.inr ⟨F', List.mem_cons_of_mem _ hF', h⟩)
      · rw [hno wr cs ea] at hy
        cases hy
    have noneAt : get (initS (i + 1) as).boxes (i + 1000000) = none := by
      cases hq : get (initS (i + 1) as).boxes (i + 1000000) with
      | none => rfl
      | some y => have := m5 _ y hq; omega
    have noneAtR : get (initS (i + 1) as).regs i = none := by
      cases hq : get (initS (i + 1) as).regs i with
      | none => rfl
      | some y => have := m4 i y hq; omega
    have slot : ∀ {g' : G} {S' : S} (e0 : V.E), Step g (initS (i + 1) as) w g' S' w → EOk w g' S'.boxes S'.regs v e0 → ∀ d e, get (put (initS (i + 1) as).slots i e0) d = some e → i ≤ d ∧ ∃ u, (v :: vs)[d - i]? = some u ∧ EOk w g' S'.boxes S'.regs u e := by
      intro g' S' e0 hst he d e hd
      simp only [get_put] at hd
      split at hd
      · rename_i hid
        subst hid
        cases hd
        exact ⟨Nat.le_refl _, v, by simp, he⟩
      · exact old hst d e hd
    have tags : ∀ x, g.ow x = .none ∨ I x ∨ ∃ F' ∈ F :: Fs, F' x := fun x => by
      rcases m6 x with h | h | ⟨F', hF', h⟩
      · exact .inl h
      · exact .inr (.inl h)
      · exact .inr (.inr ⟨F', List.mem_cons_of_mem _ hF', h⟩)
    have hIg : ∀ x, I x → g.I x := m7
    have ad : ∀ (z : Bool) (d0 : Nat), i ≤ d0 → ∀ (us : Nat → Value) (fs : Nat → Nat → Prop) (cs : List C) (xs : List X) (regs1 : List (Nat × Reg)), (∀ j x, fs j x → F x ∧ aOne a v F x) → Inj fs → (∀ (j : Nat) (c : C), cs[j]? = some c → POk w I (fs j) (us j) c) →
        adXs z (some none) (nmI d0 cs) (initS (i + 1) as).regs cs = some (xs, regs1) →
        ∃ g1, Step g (initS (i + 1) as) w g1 { initS (i + 1) as with regs := regs1 } w ∧ Mem w A B g1 { initS (i + 1) as with regs := regs1 } w ∧ xs.length = cs.length ∧ (∀ (j : Nat) (y : X), xs[j]? = some y → XOk w g1 regs1 (us j) y) ∧ (∀ d r, get regs1 d = some r → i ≤ d) ∧
          (∀ x, g1.ow x = .none ∨ I x ∨ ∃ F' ∈ F :: Fs, F' x) ∧ (∀ x, I x → g1.ow x = .imm) ∧ g1.loc = g.loc ∧ ∀ x, (∀ j, ¬ fs j x) → g1.ow x = g.ow x := by
      intro z d0 hd0 us fs cs xs regs1 h1 h2 h3 e
      have hln : LnIs g (initS (i + 1) as).regs I (some none) := fun l e φ hφ hI => by
        cases e
        exact hφ _ _ hIg hI
      obtain ⟨g1, i1, i2, i3, i4, i5, i6⟩ := adXs_ok us fs m1 hln h3 (fun j x hx => ⟨hnone x (h1 j x hx).1, (hF F (List.mem_cons_self ..) x (h1 j x hx).1).2, .inl (ha x (.inl (h1 j x hx).2))⟩) h2 (fun _ => hpr) e
      refine ⟨g1, i1, i2, i3, i4, fun d r hr => ?_, fun x => ?_, fun x hx => (i1.im x (m7 x hx)).1, i6, fun x hx => i5 x fun j _ => hx j⟩
      · rcases adXs_keys e d r hr with ⟨r2, hr2⟩ | hm
        · have := m4 d r2 hr2; omega
        · have := nmI_ge hm; omega
      · by_cases hx : ∃ j, fs j x
        · obtain ⟨j, hx⟩ := hx
          exact .inr (.inr ⟨F, List.mem_cons_self .., (h1 j x hx).1⟩)
        · rw [i5 x fun j _ h => hx ⟨j, h⟩]
          exact tags x
    have vrow : ∀ {g1 : G} {regs1 : List (Nat × Reg)} {agg : Bool} {cs : List C} {xs : List X}, (match agg with
        | false => cs.length = 1
        | true => ∃ us, v = .agg us ∧ us.size = cs.length) → xs.length = cs.length → (∀ (j : Nat) (y : X), xs[j]? = some y → XOk w g1 regs1 (cellV v agg j) y) → ValsOk w g1 regs1 v agg xs := by
      intro g1 regs1 agg cs xs h1 h2 h3
      cases agg with
      | false =>
        have h1 : cs.length = 1 := h1
        cases xs with
        | nil => simp at h2; omega
        | cons y r =>
          have : r = [] := by
            cases r with
            | nil => rfl
            | cons _ _ => simp at h2; omega
          subst this
          exact ⟨y, rfl, h3 0 y rfl⟩
      | true =>
        obtain ⟨us, hv, hsz⟩ := h1
        refine ⟨us, hv, by rw [hsz, h2], fun j x hj => ?_⟩
        have hj' : j < us.size := by rw [hsz, ← h2]; exact (List.getElem?_eq_some_iff.1 hj).1
        have := h3 j x hj
        rw [hv] at this
        exact ⟨us[j], Array.getElem?_eq_getElem hj', by simpa [cellV, hj'] using this⟩
    cases a with
    | rdv agg cs =>
      cases hx : rXs none cs with
      | none => exact same (by simp [initS, hx]) fun wr cs e => (by cases e)
      | some xs =>
        have e : initS i (.rdv agg cs :: as) = { initS (i + 1) as with slots := put (initS (i + 1) as).slots i (.vals agg xs) } := by simp [initS, hx]
        obtain ⟨x1, x2⟩ := rXs_ok (w := w) (g := g) (regs := (initS (i + 1) as).regs) hIg hx
        rw [e]
        refine ⟨g, ⟨m1.ext, m1.lt, m1.fr, m1.regs, m1.boxes, m1.im, m1.pl⟩, by simp [m2], slot (S' := initS (i + 1) as) _ (Step.refl g _ w) ?_, fun d r hr => by have := m4 d r hr; omega, fun d r hr => by have := m5 d r hr; omega, tags, m7, hm8 _ g (fun _ => rfl) _ (fun _ => rfl) fun wr cs y ea _ => (by cases ea)⟩
        show ValsOk w g (initS (i + 1) as).regs v agg xs
        cases agg with
        | false =>
          obtain ⟨c, hc, hrd⟩ := h0
          subst hc
          cases xs with
          | nil => simp at x1
          | cons y r =>
            have : r = [] := by simpa using x1
            subst this
            obtain ⟨c', hc', ho⟩ := x2 0 y rfl
            cases hc'
            exact ⟨y, rfl, ho v hrd⟩
        | true =>
          obtain ⟨us, hv, hsz, hus⟩ := h0
          refine ⟨us, hv, by rw [hsz, x1], fun j x hj => ?_⟩
          obtain ⟨c, hc, ho⟩ := x2 j x hj
          obtain ⟨u, hu, hr⟩ := hus j c hc
          exact ⟨u, hu, ho u hr⟩
    | own n es =>
      have e : initS i (.own n es :: as) = { initS (i + 1) as with slots := put (initS (i + 1) as).slots i (.vals false [.ref i 0]), regs := put (initS (i + 1) as).regs i ⟨true, 0, 0, false, n, es⟩ } := rfl
      have h0 : Own w I F v (.sl true n es) := h0
      obtain ⟨st, mm⟩ := m1.adopt i ⟨true, 0, 0, false, n, es⟩ F v (fun x hx => ⟨hnone x hx, (hF F (List.mem_cons_self ..) x hx).2, .inl (ha x (.inl hx))⟩) (h0.frame (fun x hx => hIg x hx) (fun _ h => h) (fun _ _ => rfl) (fun _ _ => rfl))
        (fun r hr => by rw [noneAtR] at hr; cases hr) (fun hp => (hpr i hp).elim)
      rw [e]
      refine ⟨g.adopt i F v, ⟨mm.ext, mm.lt, mm.fr, mm.regs, mm.boxes, mm.im, mm.pl⟩, by simp [m2], slot _ (st.slots (initS (i + 1) as).slots _) ⟨_, rfl, ⟨true, 0, 0, false, n, es⟩, get_put_same _ _ _, Nat.le_refl _, fun _ _ => by simp [G.adopt]⟩, fun d r hr => ?_, fun d r hr => by have := m5 d r hr; omega, fun x => ?_, fun x hx => (st.im x (m7 x hx)).1,
        hm8 _ _ (fun _ => rfl) _ (fun _ => rfl) fun wr cs y ea _ => (by cases ea)⟩
      · simp only [get_put] at hr
        split at hr
        · omega
        · have := m4 d r hr; omega
      · by_cases hx : F x
        · exact .inr (.inr ⟨F, List.mem_cons_self .., hx⟩)
        · have : (g.adopt i F v).ow x = g.ow x := by simp [G.adopt, hx]
          rw [this]
          exact tags x
    | mptr wr cs =>
      cases hx : adXs false (some none) (nmI (2000000 + 1000 * i) cs) (initS (i + 1) as).regs cs with
      | none => exact same (by simp [initS, hx]) fun _ _ e => noneAt
      | some q =>
        obtain ⟨xs, regs1⟩ := q
        have e : initS i (.mptr wr cs :: as) = ⟨put (initS (i + 1) as).slots i (ptE wr (i + 1000000)), put (initS (i + 1) as).boxes (i + 1000000) ⟨0, xs⟩, regs1⟩ := by simp [initS, hx]
        obtain ⟨p, fs, hv, hFp, hfs, hinj, bcs, ty, r1, r2, r3⟩ := h0
        obtain ⟨g1, a1, a2, a3, a4, a5, a6, a7, a8, a9⟩ := ad false (2000000 + 1000 * i) (by omega) (fun j => bcs.getD (p.2 + j) undef) fs cs xs regs1 (fun j x hx => ⟨(hfs j x hx).1, (hfs j x hx).1, fun q hq => by
          rw [hv, unP_ptV] at hq
          cases hq
          exact (hfs j x hx).2⟩) hinj (fun j c hj => by
          obtain ⟨u, hu, _, ho⟩ := r3 j c hj
          have : bcs.getD (p.2 + j) undef = u := by simp [Array.getD_eq_getD_getElem?, hu]
          rw [this]
          exact ho) hx
        have htag : g1.ow p.1 = .none := by
          rw [a9 _ fun j h => (hfs j _ h).2 rfl]
          exact hnone _ hFp
        obtain ⟨st, mm⟩ := a2.takeBox (i + 1000000) p xs noneAt htag (hF F (List.mem_cons_self ..) _ hFp).2 (hb _ (by rw [hv, a3]; unfold bOf; rw [unP_ptV]; exact List.mem_cons_self ..)) bcs ty r1 (by rw [a3]; exact r2) (fun j y hj => by
          have hj' : j < cs.length := by rw [← a3]; exact (List.getElem?_eq_some_iff.1 hj).1
          obtain ⟨u, hu, h1, _⟩ := r3 j cs[j] (List.getElem?_eq_getElem hj')
          have hxx := a4 j y hj
          have : bcs.getD (p.2 + j) undef = u := by simp [Array.getD_eq_getD_getElem?, hu]
          rw [this] at hxx
          exact ⟨u, hu, h1, hxx⟩) hpb
        rw [e]
        refine ⟨g1.take (i + 1000000) p, ⟨mm.ext, mm.lt, mm.fr, mm.regs, mm.boxes, mm.im, mm.pl⟩, by simp [m2], slot (S' := ⟨put (initS (i + 1) as).slots i (ptE wr (i + 1000000)), put (initS (i + 1) as).boxes (i + 1000000) ⟨0, xs⟩, regs1⟩) _ ((a1.trans st).slots (initS (i + 1) as).slots _) (by cases wr <;> exact ⟨⟨0, xs⟩, get_put_same _ _ _, Nat.le_refl _, fun _ => by rw [hv]; simp [G.take, ptV]⟩), a5, fun d r hr => ?_, fun x => ?_, fun x hx => (st.im x (a7 x hx)).1,
          hm8 _ _ (fun j => ?_) _ (fun j => ?_) fun wr' cs' y ea _ => ?_⟩
        · simp only [get_put] at hr
          split at hr
          · omega
          · have := m5 d r hr; omega
        · by_cases hx : x = p.1
          · exact .inr (.inr ⟨F, List.mem_cons_self .., by rw [hx]; exact hFp⟩)
          · have : (g1.take (i + 1000000) p).ow x = g1.ow x := by simp [G.take, hx]
            rw [this]
            exact a6 x
        · have : i + 1 + j + 1000000 ≠ i + 1000000 := by omega
          rw [take_loc_ne this, a8]
        · have : i + 1000000 ≠ i + 1 + j + 1000000 := by omega
          exact get_put_ne _ _ this
        · cases ea
          rw [hv]
          simp [G.take]
    | ov agg cs =>
      cases hx : adXs false (some none) (nmI (2000000 + 1000 * i) cs) (initS (i + 1) as).regs cs with
      | none => exact same (by simp [initS, hx]) fun wr cs e => (by cases e)
      | some q =>
        obtain ⟨xs, regs1⟩ := q
        have e : initS i (.ov agg cs :: as) = ⟨put (initS (i + 1) as).slots i (.vals agg xs), (initS (i + 1) as).boxes, regs1⟩ := by simp [initS, hx]
        obtain ⟨fs, hfs, hinj, hrow, hp⟩ := h0
        obtain ⟨g1, a1, a2, a3, a4, a5, a6, a7, a8, a9⟩ := ad false (2000000 + 1000 * i) (by omega) (cellV v agg) fs cs xs regs1 (fun j x hx => ⟨hfs j x hx, hfs j x hx⟩) hinj hp hx
        rw [e]
        exact ⟨g1, ⟨a2.ext, a2.lt, a2.fr, a2.regs, a2.boxes, a2.im, a2.pl⟩, by simp [m2], slot (S' := ⟨put (initS (i + 1) as).slots i (.vals agg xs), (initS (i + 1) as).boxes, regs1⟩) (.vals agg xs) (a1.slots (initS (i + 1) as).slots _) (vrow hrow a3 a4), a5, fun d r hr => by have := m5 d r hr; omega, a6, a7, hm8 _ _ (fun j => by rw [a8]) _ (fun _ => rfl) fun wr cs y ea _ => (by cases ea)⟩
    | mv agg cs =>
      cases hx : adXs true (some none) (nmI (3000000 + 1000 * i) cs) (initS (i + 1) as).regs cs with
      | none => exact same (by simp [initS, hx]) fun wr cs e => (by cases e)
      | some q =>
        obtain ⟨xs, regs1⟩ := q
        have e : initS i (.mv agg cs :: as) = ⟨put (initS (i + 1) as).slots i (.vals agg xs), (initS (i + 1) as).boxes, regs1⟩ := by simp [initS, hx]
        obtain ⟨fs, hfs, hinj, hrow, hp⟩ := h0
        obtain ⟨g1, a1, a2, a3, a4, a5, a6, a7, a8, a9⟩ := ad true (3000000 + 1000 * i) (by omega) (cellV v agg) fs cs xs regs1 (fun j x hx => ⟨hfs j x hx, hfs j x hx⟩) hinj hp hx
        rw [e]
        exact ⟨g1, ⟨a2.ext, a2.lt, a2.fr, a2.regs, a2.boxes, a2.im, a2.pl⟩, by simp [m2], slot (S' := ⟨put (initS (i + 1) as).slots i (.vals agg xs), (initS (i + 1) as).boxes, regs1⟩) (.vals agg xs) (a1.slots (initS (i + 1) as).slots _) (vrow hrow a3 a4), a5, fun d r hr => by have := m5 d r hr; omega, a6, a7, hm8 _ _ (fun j => by rw [a8]) _ (fun _ => rfl) fun wr cs y ea _ => (by cases ea)⟩
    | nilv n =>
      have e : initS i (.nilv n :: as) = { initS (i + 1) as with slots := put (initS (i + 1) as).slots i (.vals false [.nil n]) } := rfl
      rw [e]
      exact ⟨g, ⟨m1.ext, m1.lt, m1.fr, m1.regs, m1.boxes, m1.im, m1.pl⟩, by simp [m2],
        slot (S' := initS (i + 1) as) (.vals false [.nil n]) (Step.refl g _ w) ⟨_, rfl, h0⟩, fun d r hr => by have := m4 d r hr; omega, fun d r hr => by have := m5 d r hr; omega, tags, m7,
        hm8 _ g (fun _ => rfl) _ (fun _ => rfl) fun wr cs y ea _ => (by cases ea)⟩
    | rptr row =>
      have e : initS i (.rptr row :: as) = { initS (i + 1) as with slots := put (initS (i + 1) as).slots i (.rptr none row 0) } := rfl
      rw [e]
      obtain ⟨b, o, hv, hIb, hrow⟩ := h0
      exact ⟨g, ⟨m1.ext, m1.lt, m1.fr, m1.regs, m1.boxes, m1.im, m1.pl⟩, by simp [m2],
        slot (S' := initS (i + 1) as) (.rptr none row 0) (Step.refl g _ w) ⟨b, o, hv, hIg b hIb, fun j c hj => let ⟨u, hu, hr⟩ := hrow j c hj; ⟨u, hu, hr.frame hIg fun _ _ => rfl⟩⟩, fun d r hr => by have := m4 d r hr; omega, fun d r hr => by have := m5 d r hr; omega, tags, m7,
        hm8 _ g (fun _ => rfl) _ (fun _ => rfl) fun wr cs y ea _ => (by cases ea)⟩
  | [], _, [], _ :: _, h, _, _, _, _ => h.elim
  | [], _, _ :: _, [], h, _, _, _, _ => h.elim
  | [], _, _ :: _, _ :: _, h, _, _, _, _ => h.elim
  | _ :: _, _, [], [], h, _, _, _, _ => h.elim
  | _ :: _, _, [], _ :: _, h, _, _, _, _ => h.elim
  | _ :: _, _, _ :: _, [], h, _, _, _, _ => h.elim

def boxesOk (b : List (Nat × Box)) : Nat → List AV → Bool
  | _, [] => true
  | i, .mptr _ _ :: as => (match get b (i + 1000000) with
    | some _ => boxesOk b (i + 1) as
    | none => false)
  | i, _ :: as => boxesOk b (i + 1) as

theorem boxesOk_at {b : List (Nat × Box)} : ∀ {as : List AV} {i j : Nat} {wr : Option Nat} {cs : List C}, boxesOk b i as = true → as[j]? = some (.mptr wr cs) → ∃ y, get b (i + j + 1000000) = some y
  | [], i, j, wr, cs, h, hj => by simp at hj
  | a :: as, i, j, wr, cs, h, hj => by
    cases j with
    | zero =>
      cases hj
      simp only [boxesOk] at h
      split at h
      · exact ⟨_, by assumption⟩
      · cases h
    | succ j =>
      have h' : boxesOk b (i + 1) as = true := by
        cases a with
        | mptr wr' c =>
          simp only [boxesOk] at h
          split at h
          · exact h
          · cases h
        | _ => exact h
      rw [show i + (j + 1) = i + 1 + j by omega]
      exact boxesOk_at h' hj

def noPtr : List AV → Bool
  | [] => true
  | a :: r => (match outK a with
    | true => false
    | false => noPtr r)

def isBp (s : S) : List ResultVar → Option (Nat × Nat)
  | [.tmp t] => (match get s.slots t with
    | some (.bptr b g 0) => some (b, g)
    | _ => none)
  | _ => none

def rCs (s : S) : List X → (List (Nat × Nat) → List C → Prop) → Prop
  | [], k => k [] []
  | x :: r, k => xC s x fun l c => rCs s r fun l' cs => k (l ++ l') (uC c :: cs)

theorem rCs_ok {g : G} {s : S} {w : World} (hm : Mem w0 A B g s w) : ∀ (xs : List X) (us : Nat → Value) (k : List (Nat × Nat) → List C → Prop), (∀ (j : Nat) (x : X), xs[j]? = some x → XOk w g s.regs (us j) x) → rCs s xs k →
    ∃ l cs, k l cs ∧ LiveL s l ∧ cs.length = xs.length ∧ ∀ (j : Nat) (c : C), cs[j]? = some c → POk w (IL g l) (fun _ => False) (us j) c
  | [], us, k, hx, h => ⟨[], [], h, fun p hp => (by cases hp), rfl, fun j c hj => (by simp at hj)⟩
  | x :: r, us, k, hx, h => by
    obtain ⟨l, c, h1, h2, h3⟩ := xC_ok hm (hx 0 x rfl) h
    obtain ⟨l', cs, h4, h5, h6, h7⟩ := rCs_ok hm r (fun j => us (j + 1)) _ (fun j x hj => hx (j + 1) x hj) h1
    refine ⟨_, _, h4, h2.app h5, by simp [h6], fun j c' hj => ?_⟩
    cases j with
    | zero =>
      cases hj
      exact POk.rd (h3.frame (fun x hx => IL_app_left hx) fun _ _ => rfl)
    | succ j => exact (h7 j c' hj).frame (fun x hx => IL_app_right hx) (fun _ h => h) (fun _ _ => rfl) fun _ _ => rfl

def mvRow (s : S) : Nat → List X → List C → Bool
  | _, [], [] => true
  | d, x :: xs, c :: cs => (match c with
    | .sl true _ _ => (match x with
      | .ref h 0 => if h = d then (match resv d with
        | true => (match get s.regs d with
          | some ⟨true, 0, _, _, _, _⟩ => mvRow s (d + 1) xs cs
          | _ => false)
        | false => false) else false
      | _ => false)
    | _ => mvRow s (d + 1) xs cs)
  | _, _, _ => false

def mvChk (s : S) : Nat → List AV → Bool
  | _, [] => true
  | i, .mv agg cs :: as => (match get s.slots i with
    | some (.vals agg' xs) => if agg' = agg then (match mvRow s (3000000 + 1000 * i) xs cs with
      | true => mvChk s (i + 1) as
      | false => false) else false
    | _ => false)
  | i, _ :: as => mvChk s (i + 1) as

theorem mvRow_at {s : S} : ∀ {xs : List X} {cs : List C} {d m n : Nat} {es : List (List C)}, mvRow s d xs cs = true → cs[m]? = some (.sl true n es) → xs[m]? = some (.ref (d + m) 0) ∧ resv (d + m) = true ∧ ∃ r, get s.regs (d + m) = some r ∧ r.live = true ∧ r.gen = 0
  | x :: xs, c :: cs, d, m, n, es, h, hm => by
    have tl : mvRow s (d + 1) xs cs = true ∧ (∀ n es, c = .sl true n es → x = .ref d 0 ∧ resv d = true ∧ ∃ r, get s.regs d = some r ∧ r.live = true ∧ r.gen = 0) := by
      unfold mvRow at h
      split at h
      · split at h
        · rename_i hh
          split at h
          · rename_i e
            subst e
            split at h
            · rename_i hv
              split at h
              · rename_i hr
                exact ⟨h, fun _ _ _ => ⟨rfl, hv, _, hr, rfl, rfl⟩⟩
              · cases h
            · cases h
          · cases h
        · cases h
      · rename_i hc
        exact ⟨h, fun n es e => absurd e (hc n es)⟩
    cases m with
    | zero =>
      cases hm
      obtain ⟨q1, q2⟩ := tl.2 n es rfl
      exact ⟨by rw [q1]; rfl, q2⟩
    | succ m =>
      rw [show d + (m + 1) = d + 1 + m by omega]
      exact mvRow_at (xs := xs) tl.1 hm
  | [], [], _, _, _, _, _, h => by simp at h
  | [], _ :: _, _, _, _, _, h, _ => by cases h
  | _ :: _, [], _, _, _, _, h, _ => by cases h

theorem mvChk_at {s : S} : ∀ {as : List AV} {i j : Nat} {agg : Bool} {cs : List C}, mvChk s i as = true → as[j]? = some (.mv agg cs) → ∃ xs, get s.slots (i + j) = some (.vals agg xs) ∧ mvRow s (3000000 + 1000 * (i + j)) xs cs = true
  | [], i, j, agg, cs, h, hj => by simp at hj
  | a :: as, i, j, agg, cs, h, hj => by
    cases j with
    | zero =>
      cases hj
      simp only [mvChk] at h
      split at h
      · rename_i agg' xs hs
        split at h
        · rename_i e
          subst e
          split at h
          · exact ⟨xs, hs, by assumption⟩
          · cases h
        · cases h
      · cases h
    | succ j =>
      have h' : mvChk s (i + 1) as = true := by
        cases a with
        | mv agg' cs' =>
          simp only [mvChk] at h
          split at h
          · split at h
            · split at h
              · exact h
              · cases h
            · cases h
          · cases h
        | _ => exact h
      rw [show i + (j + 1) = i + 1 + j by omega]
      exact mvChk_at h' hj

def endB (as : List AV) (post : List RV → List (List C) → Prop) (s : S) (p : Nat × Nat) : Prop :=
  match boxAt s p.1 p.2 with
  | some cs => (match noPtr as with
    | true => rCs s cs fun l o => post [⟨false, [.box o]⟩] []
    | false => False)
  | none => False

def endF (E : Env) (asRd : Bool) (results : List ResultVar) (as : List AV) (post : List RV → List (List C) → Prop) (e : Exit) (s : S) : Prop :=
  match boxesOk (initS 0 as).boxes 0 as with
  | true => (match mvChk (initS 0 as) 0 as with
    | true => (match e with
      | .ret => (match isBp s results with
        | some p => endB as post s p
        | none => endW E asRd results as post .ret s)
      | e => endW E asRd results as post e s)
    | false => False)
  | false => False

theorem noPtr_b : ∀ {as : List AV} {vs : List Value}, noPtr as = true → bOf as vs = []
  | [], _, _ => by unfold bOf; rfl
  | a :: r, [], h => by cases a <;> first | (unfold bOf; rfl) | (cases h)
  | a :: r, v :: vs, h => by
    have h' : noPtr r = true := by
      unfold noPtr at h
      split at h
      · cases h
      · exact h
    cases a with
    | mptr wr cs => cases h
    | _ => unfold bOf; exact noPtr_b (as := r) h'

theorem noPtr_outs {w : World} {I : Nat → Prop} {H : Nat → Nat → Nat → Prop} : ∀ {as : List AV} {vs : List Value}, noPtr as = true → vs.length = as.length → OutsOk w I as vs H []
  | [], [], _, _ => trivial
  | [], _ :: _, _, hl => by simp at hl
  | a :: _, [], _, hl => by simp at hl
  | a :: r, v :: vs, h, hl => by
    have h' : outK a = false ∧ noPtr r = true := by
      unfold noPtr at h
      split at h
      · cases h
      · exact ⟨by assumption, h⟩
    unfold OutsOk
    rw [h'.1]
    exact noPtr_outs h'.2 (by simpa using hl)

theorem results_of {fn : Func} {tmps : Array Value} {w : World} {vs : List Value} (f : ResultVar → Sem Value) (hf : ∀ u, f (.tmp u) = pure (tmps.getD u undef)) (hc : ∀ b t, f (.cell b t) = (do loadVar t (← asAddr (tmps.getD b undef))))
    (h : (fn.results.toList.mapM f).run P w = .ok vs w) : (results fn tmps).run P w = .ok (if h : vs.toArray.size = 1 then vs.toArray[0] else .tuple vs.toArray) w := by
  have key : ∀ g : ResultVar → Sem Value, (∀ u, g (.tmp u) = pure (tmps.getD u undef)) → (∀ b t, g (.cell b t) = (do loadVar t (← asAddr (tmps.getD b undef)))) → (fn.results.toList.mapM g).run P w = .ok vs w := by
    intro g h1 h2
    have : g = f := by
      funext x
      cases x with
      | tmp u => rw [h1, hf]
      | cell b t => rw [h2, hc]
    rw [this]
    exact h
  unfold results
  have e : fn.results = fn.results.toList.toArray := by simp
  rw [e, List.mapM_toArray]
  simp only [Sem.run_bind, Sem.run_map]
  rw [key]
  · simp
  · intro u
    rfl
  · intro a t
    rfl

theorem fn_ok (hτ : ∀ t d, E.τ t = some d → TyOk P t d) (hmix : P.follows .mixedOrders = true) {f : Nat} {fn : Func} {c : Code} (hf : P.funcs[f]? = some fn) (hname : (fn.name == "runtime.NumGoroutine") = false) (hb : fn.body = some c)
    {as : List AV} {post : List RV → List (List C) → Prop} (asRd : Bool) (hnt : as.length ≤ fn.ntmps) (hW : W P E fn.ntmps c (endF E asRd fn.results.toList as post) (initS 0 as)) : FnV P f as post := by
  rw [FnV_eq]
  refine ⟨⟨fn, c, hf, hname, hb⟩, fun w I Fs vs hargs hap hF hI => ?_⟩
  obtain ⟨g, m1, m2, m3, m4, m5, m6, m7, m8⟩ := init_ok (A := ⟨aOf as vs Fs, I, fun _ => False, fun _ => (0, 0), fun _ => False, fun _ => undef⟩) (B := bOf as vs) rfl (fun _ h => h) (fun _ h => h) hI (i := 0) hargs hap hF (fun x h => h) (fun p h => h)
  let A : AA := ⟨aOf as vs Fs, I, fun b => ∃ y, get (initS 0 as).boxes b = some y, g.loc, fun d => resv d = true, g.val⟩
  refine calls_of_wp hf hb ?_
  have hsz : vs.toArray.size = as.length := by simp [m2]
  have hreal : Real w A (bOf as vs) fn.ntmps (initS 0 as) { tmps := vs.toArray ++ Array.replicate (fn.ntmps - vs.toArray.size) undef, defers := [] } w := by
    refine ⟨rfl, by simp [m2]; omega, g, ⟨⟨m1.ext.os, m1.ext.tape, m1.ext.output, m1.ext.size, m1.ext.keep, m1.ext.rng⟩, m1.lt, m1.fr, m1.regs, m1.boxes, m1.im, fun b hb => (let ⟨y, hy⟩ := hb; ⟨by have := m5 b y hy; omega, y, hy, fun _ => rfl⟩), fun d hd => ⟨hd, fun _ _ _ _ => rfl⟩⟩, fun d e hd => ?_⟩
    obtain ⟨_, v, hv, he⟩ := m3 d e hd
    simp only [Nat.sub_zero] at hv
    have hlt : d < vs.length := (List.getElem?_eq_some_iff.1 hv).1
    refine ⟨by omega, ?_⟩
    have : (vs.toArray ++ Array.replicate (fn.ntmps - vs.toArray.size) undef).getD d undef = v := by
      rw [Array.getD_eq_getD_getElem?, Array.getElem?_append_left (by simpa using hlt)]
      simp [hv]
    rw [this]
    exact he
  refine wp_mono (W_sound hτ hmix c _ hreal hW) fun e a' w' hq => ?_
  obtain ⟨_, s, ⟨hdf, hsz', g', hm, hs⟩, hq⟩ := hq
  have finB : ∀ p, isBp s fn.results.toList = some p → endB as post s p → a'.defers = [] ∧ ∃ v, (results fn a'.tmps).run P w' = .ok v w' ∧
      ∃ v' rs outs, Ending.returned v = .returned v' ∧ post rs outs ∧ Back w I (aOf as vs Fs) (bOf as vs) as vs w' v' rs outs := by
    intro p hbp hq
    refine ⟨hdf, ?_⟩
    obtain ⟨t, ht, he⟩ : ∃ t, fn.results.toList = [.tmp t] ∧ get s.slots t = some (.bptr p.1 p.2 0) := by
      unfold isBp at hbp
      split at hbp
      · rename_i t hres
        split at hbp
        · rename_i b gg hsl
          cases hbp
          exact ⟨t, hres, hsl⟩
        · cases hbp
      · cases hbp
    unfold endB at hq
    split at hq
    case h_2 => exact hq.elim
    rename_i cs hcs
    split at hq
    case h_2 => exact hq.elim
    rename_i hnp
    obtain ⟨y, h1, h2, h3⟩ := boxAt_some hcs
    obtain ⟨y', h4, h5, h6⟩ := (hs t _ he).2
    rw [h1] at h4
    cases h4
    have hv := h6 h2.symm
    obtain ⟨hob, hfr, bcs, e, b3, b4, b5⟩ := hm.boxes p.1 y h1
    rw [noPtr_b hnp] at hfr
    have hfresh : w.heap.size ≤ (g'.loc p.1).1 := hfr.resolve_right (by simp)
    rw [h3] at b4 b5
    obtain ⟨l, o, i1, i2, i3, i4⟩ := rCs_ok hm cs (fun j => bcs.getD ((g'.loc p.1).2 + j) undef) _ (fun j y hj => by
      obtain ⟨u, hu, _, ho⟩ := b5 j y hj
      have : bcs.getD ((g'.loc p.1).2 + j) undef = u := by simp [Array.getD_eq_getD_getElem?, hu]
      rw [this]
      exact ho) hq
    let fr : ResultVar → Sem Value := fun
      | .tmp t => pure (a'.tmps.getD t undef)
      | .cell a t => do loadVar t (← asAddr (a'.tmps.getD a undef))
    have hrun : (fn.results.toList.mapM fr).run P w' = .ok [a'.tmps.getD t undef] w' := by
      rw [ht]
      simp [List.mapM_cons, fr]
    refine ⟨_, results_of fr (fun _ => rfl) (fun _ _ => rfl) hrun, _, [⟨false, [.box o]⟩], [], rfl, i1, ⟨hm.ext.os, hm.ext.tape, hm.ext.output, hm.ext.size, hm.ext.keep, hm.ext.rng⟩, #[a'.tmps.getD t undef], IL g' l, fun b k j x => b = false ∧ k = 0 ∧ j = 0 ∧ x = (g'.loc p.1).1, ⟨rfl, rfl⟩, fun k r hk => ?_, noPtr_outs hnp m2, fun x hx => ?_, fun b k j x hx => ?_, fun b k j b' k' j' x hx hx' => ⟨by rw [hx.1, hx'.1], by rw [hx.2.1, hx'.2.1], by rw [hx.2.2.1, hx'.2.2.1]⟩⟩
    · cases k with
      | succ k => simp at hk
      | zero =>
        cases hk
        refine ⟨a'.tmps.getD t undef, rfl, .box o, rfl, g'.loc p.1, by rw [hv]; simp, ⟨rfl, rfl, rfl, rfl⟩, bcs, e, b3, by rw [i3]; exact b4, fun j c hj => ?_⟩
        have hj' : j < cs.length := by rw [← i3]; exact (List.getElem?_eq_some_iff.1 hj).1
        obtain ⟨u, hu, hone, _⟩ := b5 j cs[j] (List.getElem?_eq_getElem hj')
        have h12 := i4 j c hj
        have : bcs.getD ((g'.loc p.1).2 + j) undef = u := by simp [Array.getD_eq_getD_getElem?, hu]
        rw [this] at h12
        exact ⟨u, hu, hone, h12⟩
    · refine ⟨hm.lt x (by rcases hx with h | ⟨p, _, h⟩ <;> rw [h] <;> simp), ?_⟩
      rcases hx with h | ⟨p, _, h⟩
      · exact hm.im x h
      · exact .inr (hm.fr x _ h)
    · obtain ⟨_, _, _, rfl⟩ := hx
      refine ⟨hm.lt _ (by rw [hob]; simp), .inr hfresh, ?_⟩
      rintro (h | ⟨p, hp, h⟩)
      · rw [hob] at h; cases h
      · rw [hob] at h; cases h
  have fin : endW E asRd fn.results.toList as post .ret s → boxesOk (initS 0 as).boxes 0 as = true → mvChk (initS 0 as) 0 as = true → a'.defers = [] ∧ ∃ v, (results fn a'.tmps).run P w' = .ok v w' ∧
      ∃ v' rs outs, Ending.returned v = .returned v' ∧ post rs outs ∧ Back w I (aOf as vs Fs) (bOf as vs) as vs w' v' rs outs := by
    intro hq hbk hmk
    refine ⟨hdf, ?_⟩
    obtain ⟨l, O, rs, us, F, h1, h2, h3, h4, h5, h6, h7⟩ := retsW_ok hτ hm hs (fun | .tmp t => pure (a'.tmps.getD t undef) | .cell a t => do loadVar t (← asAddr (a'.tmps.getD a undef))) (fun _ => rfl) (fun _ _ => rfl) hq
    obtain ⟨l', O', outs, H, i1, i2, i3, i4, i5⟩ := outsW_ok hm (i := 0) m2 (fun j wr cs hj x hx hg => by
      have hb0 : ∃ y, get (initS 0 as).boxes (0 + j + 1000000) = some y := boxesOk_at hbk hj
      obtain ⟨y, hy⟩ := hb0
      obtain ⟨_, x', hx', hl⟩ := hm.pl.1 (0 + j + 1000000) ⟨y, hy⟩
      rw [hx] at hx'
      cases hx'
      rw [hl hg]
      exact m8 j wr cs y hj hy) (fun j agg cs hj => by
      obtain ⟨xs, q1, q2⟩ := mvChk_at hmk hj
      obtain ⟨_, v, hv, he⟩ := m3 (0 + j) _ q1
      rw [show 0 + j - 0 = j by omega] at hv
      obtain ⟨hx, _⟩ := vals_cellV (agg := agg) (xs := xs) he
      refine ⟨v, hv, fun m n es hm' => ?_⟩
      obtain ⟨q3, qv, r, q4, q5, q6⟩ := mvRow_at q2 hm'
      obtain ⟨r', q7, _, q8⟩ := hx m _ q3
      rw [q4] at q7
      cases q7
      exact ⟨qv, (q8 q5 q6.symm).symm⟩) h1
    split at i1
    case h_2 => exact i1.elim
    rename_i hdO
    split at i1
    case h_2 => exact i1.elim
    rename_i hdl
    have hdl := apartL_spec hdl
    have hlv := h2.app i2
    obtain ⟨d1, d2⟩ := noDup_app hdO
    refine ⟨_, results_of _ (fun _ => rfl) (fun _ _ => rfl) h5, _, rs, outs, rfl, i1, ⟨hm.ext.os, hm.ext.tape, hm.ext.output, hm.ext.size, hm.ext.keep, hm.ext.rng⟩, us.toArray, IL g' (l ++ l'), fun b => match b with | false => F | true => H, ⟨by simp [h4], rfl⟩, fun k r hk => ?_, i5 d1 _ fun b hb => IL_app_right hb, fun x hx => ?_, fun b k j x hx => ?_, fun b k j b' k' j' x hx hx' => ?_⟩
    · obtain ⟨v, hv, ho⟩ := h7 _ (fun b hb => IL_app_left hb) k r hk
      exact ⟨v, by simpa using hv, ho⟩
    · refine ⟨hm.lt x (by rcases hx with h | ⟨p, _, h⟩ <;> rw [h] <;> simp), ?_⟩
      rcases hx with h | ⟨p, _, h⟩
      · exact hm.im x h
      · exact .inr (hm.fr x _ h)
    · obtain ⟨c, hc, e⟩ : ∃ c ∈ O ++ O', g'.ow x = .reg c := by
        cases b with
        | false => obtain ⟨c, hc, e⟩ := h3 k j x hx; exact ⟨c, List.mem_append.2 (.inl hc), e⟩
        | true => obtain ⟨c, hc, e⟩ := i3 k j x hx; exact ⟨c, List.mem_append.2 (.inr hc), e⟩
      refine ⟨hm.lt x (by rw [e]; simp), hm.fr x _ e, ?_⟩
      rintro (h | ⟨p, hp, h⟩)
      · rw [e] at h; cases h
      · rw [e] at h
        cases h
        have := hdl p hp
        rw [memb_mem.2 hc] at this
        cases this
    · have cross : ∀ k j k' j', F k j x → H k' j' x → False := fun k j k' j' h h' => by
        obtain ⟨c, hc, e⟩ := h3 k j x h
        obtain ⟨c', hc', e'⟩ := i3 k' j' x h'
        rw [e] at e'
        cases e'
        exact d2 _ hc hc'
      cases b with
      | false =>
        cases b' with
        | false => exact ⟨rfl, h6 (noDup_left hdO) k j k' j' x hx hx'⟩
        | true => exact (cross k j k' j' hx hx').elim
      | true =>
        cases b' with
        | false => exact (cross k' j' k j hx' hx).elim
        | true => exact ⟨rfl, i4 d1 k j k' j' x hx hx'⟩
  unfold endF at hq
  split at hq
  case h_2 => exact hq.elim
  rename_i hbk
  split at hq
  case h_2 => exact hq.elim
  rename_i hmk
  cases e with
  | normal => exact fin hq hbk hmk
  | ret =>
    simp only at hq
    split at hq
    · rename_i p hp
      exact finB p hp hq
    · exact fin hq hbk hmk
  | _ =>
    exfalso
    exact hq

end

end Go.Proofs.YtppfojiogappaaaDoor.V

set_option linter.unusedVariables false

set_option linter.unusedSimpArgs false

namespace Go.Proofs.YtppfojiogappaaaDoor.V

open Go Classical

@[reducible] def Ren := List (Nat × Option Nat)

def srcs : Ren → List Nat
  | [] => []
  | (h, _) :: r => h :: srcs r

def tgts : Ren → List Nat
  | [] => []
  | (_, some h) :: r => h :: tgts r
  | (_, none) :: r => tgts r

def nX (s : S) (ρ : Ren) (x : X) : Option X :=
  match x with
  | .sc v => some (.sc v)
  | .nil n => some (.nil n)
  | .rd none n es => some (.rd none n es)
  | .rd (some (h, iv)) n es => (match regIv s h iv with
    | some _ => (match get ρ h with
      | some (some h') => some (.rd (some (h', 0)) n es)
      | some none => some (.rd none n es)
      | none => none)
    | none => none)
  | .ref h g => (match regAt s h g with
    | some r => (match get ρ h with
      | some (some h') => some (.ref h' 0)
      | some none => some (.rd none r.n r.es)
      | none => none)
    | none => none)
  | .sub h g lo hi => (match regAt s h g with
    | some r => (match get ρ h with
      | some (some h') => some (.sub h' 0 lo hi)
      | some none => some (.rd none r.n ((r.es.take hi).drop lo))
      | none => none)
    | none => none)
  | .inn h iv i j => (match regIv s h iv with
    | some _ => (match get ρ h with
      | some (some h') => some (.inn h' 0 i j)
      | _ => none)
    | none => none)
  | .fx _ n es => some (.rd none n es)

def nXs (s : S) (ρ : Ren) : List X → Option (List X)
  | [] => some []
  | x :: r => match nX s ρ x with
    | some y => (match nXs s ρ r with
      | some ys => some (y :: ys)
      | none => none)
    | none => none

def keepB (kb : List Nat) (b : Nat) : Bool := if 1000000 ≤ b then true else memb kb b

def nE (s : S) (kb : List Nat) (ρ : Ren) (e : E) : Option E :=
  match e with
  | .vals agg xs => (match nXs s ρ xs with
    | some ys => some (.vals agg ys)
    | none => none)
  | .bptr b g off => (match keepB kb b with
    | true => some (.bptr b g off)
    | false => none)
  | .clo f b g => (match keepB kb b with
    | true => some (.clo f b g)
    | false => none)
  | .eptr h g i off => (match regAt s h g with
    | some _ => (match get ρ h with
      | some (some h') => some (.eptr h' 0 i off)
      | _ => none)
    | none => none)
  | .rptr none row off => some (.rptr none row off)
  | .rptr (some (h, iv)) row off => (match regIv s h iv with
    | some _ => (match get ρ h with
      | some (some h') => some (.rptr (some (h', 0)) row off)
      | some none => some (.rptr none row off)
      | none => none)
    | none => none)
  | .tup _ => none
  | .mapv b h iv ks es => (match regIv s h iv with
    | some _ => (match get ρ h with
      | some (some h') => some (.mapv b h' 0 ks es)
      | _ => none)
    | none => none)
  | .itv bi h iv b hm im left cur => (match regIv s h iv with
    | some _ => (match regIv s hm im with
      | some _ => (match get ρ h with
        | some (some h') => (match get ρ hm with
          | some (some m') => some (.itv bi h' 0 b m' 0 left cur)
          | _ => none)
        | _ => none)
      | none => none)
    | none => none)

def nSl (s : S) (kb : List Nat) (ρ : Ren) : List Nat → Option (List (Nat × E))
  | [] => some []
  | d :: r => match get s.slots d with
    | some e => (match nE s kb ρ e with
      | some e' => (match nSl s kb ρ r with
        | some l => some ((d, e') :: l)
        | none => none)
      | none => none)
    | none => none

def nBx (s : S) (kb : List Nat) (ρ : Ren) : List (Nat × Box) → Option (List (Nat × Box))
  | [] => some []
  | (b, ⟨g, xs⟩) :: r => (match keepB kb b with
    | true => (match nXs s ρ xs with
      | some ys => (match nBx s kb ρ r with
        | some l => some ((b, ⟨g, ys⟩) :: l)
        | none => none)
      | none => none)
    | false => nBx s kb ρ r)

def okRes (h h' gn : Nat) : Bool :=
  match resv h' with
  | false => true
  | true => if h = h' then (if gn = 0 then true else false) else false

def nRg (s : S) : Ren → Option (List (Nat × Reg))
  | [] => some []
  | (h, none) :: r => (match get s.regs h with
    | some ⟨true, _, _, _, _, _⟩ => nRg s r
    | _ => none)
  | (h, some h') :: r => (match get s.regs h with
    | some ⟨true, gn, _, p, n, es⟩ => (match okRes h h' gn with
      | true => (match nRg s r with
        | some l => some ((h', ⟨true, 0, 0, p, n, es⟩) :: l)
        | none => none)
      | false => none)
    | _ => none)

def norm (keep kb : List Nat) (ρ : Ren) (s : S) : Option S :=
  match noDup (srcs ρ) with
  | true => (match noDup (tgts ρ) with
    | true => (match nSl s kb ρ keep with
      | some sl => (match nBx s kb ρ s.boxes with
        | some bx => (match nRg s ρ with
          | some rg => some ⟨sl, bx, rg⟩
          | none => none)
        | none => none)
      | none => none)
    | false => none)
  | false => none

theorem get_src {ρ : Ren} {h : Nat} {t : Option Nat} (e : get ρ h = some t) : h ∈ srcs ρ ∧ ∀ h', t = some h' → h' ∈ tgts ρ := by
  induction ρ with
  | nil => cases e
  | cons p r ih =>
    obtain ⟨k, v⟩ := p
    simp only [get] at e
    split at e
    · rename_i hk
      subst hk
      cases e
      refine ⟨List.mem_cons_self .., fun h' e => ?_⟩
      subst e
      exact List.mem_cons_self ..
    · obtain ⟨h1, h2⟩ := ih e
      refine ⟨List.mem_cons_of_mem _ h1, fun h' e => ?_⟩
      cases v with
      | none => exact h2 h' e
      | some v => exact List.mem_cons_of_mem _ (h2 h' e)

theorem noDup_cons {a : Nat} {r : List Nat} (h : noDup (a :: r) = true) : ¬ a ∈ r ∧ noDup r = true := by
  have h' : (if memb r a then false else noDup r) = true := h
  split at h'
  · cases h'
  · rename_i hm
    exact ⟨fun hx => hm (memb_mem.2 hx), h'⟩

theorem tgt_inj {ρ : Ren} (h1 : noDup (tgts ρ) = true) : ∀ {a b h' : Nat}, get ρ a = some (some h') → get ρ b = some (some h') → a = b := by
  induction ρ with
  | nil => intro a b h' ha; cases ha
  | cons p r ih =>
    obtain ⟨k, v⟩ := p
    intro a b h' ha hb
    have hr : noDup (tgts r) = true := by
      cases v with
      | none => exact h1
      | some v => exact (noDup_cons h1).2
    simp only [get] at ha hb
    split at ha
    · rename_i hka
      split at hb
      · rename_i hkb
        rw [← hka, ← hkb]
      · cases ha
        exact absurd ((get_src hb).2 h' rfl) (noDup_cons h1).1
    · split at hb
      · cases hb
        exact absurd ((get_src ha).2 h' rfl) (noDup_cons h1).1
      · exact ih hr ha hb

theorem nRg_ok {s : S} : ∀ {ρ : Ren} {rg : List (Nat × Reg)}, nRg s ρ = some rg → noDup (srcs ρ) = true → noDup (tgts ρ) = true →
    (∀ h t, get ρ h = some t → ∃ r, get s.regs h = some r ∧ r.live = true) ∧ (∀ h h' r, get ρ h = some (some h') → get s.regs h = some r → get rg h' = some ⟨true, 0, 0, r.pure, r.n, r.es⟩) ∧
    ∀ h' r', get rg h' = some r' → ∃ h r, get ρ h = some (some h') ∧ get s.regs h = some r ∧ r.live = true ∧ r' = ⟨true, 0, 0, r.pure, r.n, r.es⟩
  | [], rg, e, h1, h2 => by
    cases e
    exact ⟨fun h t e => (by cases e), fun h h' r e => (by cases e), fun h' r' e => (by cases e)⟩
  | (k, none) :: ρ, rg, e, h1, h2 => by
    simp only [nRg] at e
    split at e
    · rename_i g0 i0 p0 n0 e0 hk
      obtain ⟨i1, i2, i3⟩ := nRg_ok e (noDup_cons h1).2 h2
      have hks := (noDup_cons h1).1
      refine ⟨fun h t ht => ?_, fun h h' r ht hr => ?_, fun h' r' hr => ?_⟩
      · simp only [get] at ht
        split at ht
        · rename_i hkh
          subst hkh
          exact ⟨_, hk, rfl⟩
        · exact i1 h t ht
      · simp only [get] at ht
        split at ht
        · cases ht
        · exact i2 h h' r ht hr
      · obtain ⟨h, r, q1, q2⟩ := i3 h' r' hr
        refine ⟨h, r, ?_, q2⟩
        simp only [get]
        rw [if_neg fun e => hks (by rw [e]; exact (get_src q1).1)]
        exact q1
    · cases e
  | (k, some k') :: ρ, rg, e, h1, h2 => by
    simp only [nRg] at e
    split at e
    · rename_i g0 i0 p0 n0 e0 hk
      split at e
      case h_2 => cases e
      rename_i hor
      split at e
      · rename_i l hl
        cases e
        obtain ⟨i1, i2, i3⟩ := nRg_ok hl (noDup_cons h1).2 (noDup_cons h2).2
        have hks := (noDup_cons h1).1
        have hkt := (noDup_cons h2).1
        refine ⟨fun h t ht => ?_, fun h h' r ht hr => ?_, fun h' r' hr => ?_⟩
        · simp only [get] at ht
          split at ht
          · rename_i hkh
            subst hkh
            exact ⟨_, hk, rfl⟩
          · exact i1 h t ht
        · simp only [get] at ht
          split at ht
          · rename_i hkh
            subst hkh
            cases ht
            rw [hk] at hr
            cases hr
            simp [get]
          · simp only [get]
            rw [if_neg fun e => hkt (by rw [e]; exact (get_src ht).2 h' rfl)]
            exact i2 h h' r ht hr
        · simp only [get] at hr
          split at hr
          · rename_i hkh
            subst hkh
            cases hr
            exact ⟨k, _, by simp [get], hk, rfl, rfl⟩
          · obtain ⟨h, r, q1, q2⟩ := i3 h' r' hr
            refine ⟨h, r, ?_, q2⟩
            simp only [get]
            rw [if_neg fun e => hks (by rw [e]; exact (get_src q1).1)]
            exact q1
      · cases e
    · cases e

theorem nRg_res {s : S} : ∀ {ρ : Ren} {rg : List (Nat × Reg)}, nRg s ρ = some rg → ∀ h h' r, get ρ h = some (some h') → get s.regs h = some r → resv h' = true → h = h' ∧ r.gen = 0
  | [], rg, e, h, h', r, ht, hr, hv => by cases ht
  | (k, none) :: ρ, rg, e, h, h', r, ht, hr, hv => by
    simp only [nRg] at e
    split at e
    · simp only [get] at ht
      split at ht
      · cases ht
      · exact nRg_res e h h' r ht hr hv
    · cases e
  | (k, some k') :: ρ, rg, e, h, h', r, ht, hr, hv => by
    simp only [nRg] at e
    split at e
    · rename_i g0 i0 p0 n0 e0 hk
      split at e
      case h_2 => cases e
      rename_i hor
      split at e
      · rename_i l hl
        simp only [get] at ht
        split at ht
        · rename_i hkh
          subst hkh
          cases ht
          rw [hk] at hr
          cases hr
          simp only [okRes, hv] at hor
          split at hor
          · rename_i h1
            split at hor
            · rename_i h2; exact ⟨h1, h2⟩
            · cases hor
          · cases hor
        · exact nRg_res hl h h' r ht hr hv
      · cases e
    · cases e

noncomputable def G.ren (g : G) (ρ : Ren) : G :=
  { ow := fun x => match g.ow x with
      | .reg h => (match get ρ h with
        | some (some h') => .reg h'
        | some none => .imm
        | none => .none)
      | t => t
    val := fun h' => if h : ∃ k, get ρ k = some (some h') then g.val (Classical.choose h) else undef
    loc := g.loc }

section

variable {w0 : World} {A : AA} {B : List (Nat × Nat × Nat)} {nt : Nat}

theorem ren_val {g : G} {ρ : Ren} (h2 : noDup (tgts ρ) = true) {h h' : Nat} (e : get ρ h = some (some h')) : (g.ren ρ).val h' = g.val h := by
  have hx : ∃ k, get ρ k = some (some h') := ⟨h, e⟩
  show (if h : ∃ k, get ρ k = some (some h') then g.val (Classical.choose h) else undef) = _
  rw [dif_pos hx, tgt_inj h2 (Classical.choose_spec hx) e]

theorem ren_reg {g : G} {ρ : Ren} {h h' x : Nat} (e : get ρ h = some (some h')) (hx : g.ow x = .reg h) : (g.ren ρ).ow x = .reg h' := by simp [G.ren, hx, e]

theorem ren_free {g : G} {ρ : Ren} {h x : Nat} (e : get ρ h = some none) (hx : g.ow x = .reg h) : (g.ren ρ).ow x = .imm := by simp [G.ren, hx, e]

theorem ren_imm {g : G} {ρ : Ren} {x : Nat} (hx : g.ow x = .imm) : (g.ren ρ).ow x = .imm := by simp [G.ren, hx]

theorem ren_box {g : G} {ρ : Ren} {x b : Nat} (hx : g.ow x = .box b) : (g.ren ρ).ow x = .box b := by simp [G.ren, hx]

theorem ren_reg_inv {g : G} {ρ : Ren} {h' x : Nat} (hx : (g.ren ρ).ow x = .reg h') : ∃ h, get ρ h = some (some h') ∧ g.ow x = .reg h := by
  unfold G.ren at hx
  simp only at hx
  split at hx
  · rename_i h hg
    split at hx
    · rename_i k hk
      cases hx
      exact ⟨h, hk, hg⟩
    · cases hx
    · cases hx
  · rename_i hn
    exact absurd hx (hn h')

theorem ren_imm_inv {g : G} {ρ : Ren} {x : Nat} (hx : (g.ren ρ).ow x = .imm) : g.ow x = .imm ∨ ∃ h, g.ow x = .reg h := by
  unfold G.ren at hx
  simp only at hx
  split at hx
  · rename_i h hg
    exact .inr ⟨h, hg⟩
  · exact .inl hx

structure Nm (s : S) (ρ : Ren) (rg : List (Nat × Reg)) (g : G) (w : World) (g' : G) : Prop where
  im : ∀ x, g.I x → g'.I x
  rn : ∀ h h' r, get ρ h = some (some h') → get s.regs h = some r → r.live = true ∧ get rg h' = some ⟨true, 0, 0, r.pure, r.n, r.es⟩ ∧ g'.val h' = g.val h ∧ ∀ x, g.F h x → g'.F h' x
  fz : ∀ h r, get ρ h = some none → get s.regs h = some r → r.live = true ∧ Rd w g'.I (g.val h) (.sl true r.n r.es) ∧ ∀ x, g.F h x → g'.I x

theorem Nm.ln {s : S} {ρ : Ren} {rg : List (Nat × Reg)} {g g' : G} {w : World} (hn : Nm s ρ rg g w g') {h iv : Nat} {r : Reg} (hr : regIv s h iv = some r) {φ : (Nat → Prop) → Prop} (hφ : ∀ I I' : Nat → Prop, (∀ x, I x → I' x) → φ I → φ I')
    (hx : LnOk g s.regs (some (h, iv)) φ) : (∀ h', get ρ h = some (some h') → LnOk g' rg (some (h', 0)) φ) ∧ (get ρ h = some none → φ g'.I) := by
  obtain ⟨h1, h2, h3⟩ := regIv_some hr
  obtain ⟨r', h4, h5, h6⟩ := hx
  rw [h1] at h4
  cases h4
  have hp := h6 h2 h3.symm
  refine ⟨fun h' e => ?_, fun e => ?_⟩
  · obtain ⟨_, q1, q2, q3⟩ := hn.rn h h' r e h1
    exact ⟨_, q1, Nat.le_refl _, fun _ _ => hφ _ _ (fun x hx => hx.elim (fun h => .inl (hn.im x h)) fun h => .inr (q3 x h)) hp⟩
  · obtain ⟨_, _, q3⟩ := hn.fz h r e h1
    exact hφ _ _ (fun x hx => hx.elim (hn.im x) (q3 x)) hp

theorem nX_ok {s : S} {ρ : Ren} {rg : List (Nat × Reg)} {g g' : G} {w : World} (hn : Nm s ρ rg g w g') {u : Value} {x y : X} (hx : XOk w g s.regs u x) (h : nX s ρ x = some y) : XOk w g' rg u y := by
  unfold nX at h
  split at h
  · cases h; exact hx
  · cases h; exact hx
  · rename_i n es
    cases h
    have hx' : Rd w g.I u (.sl true n es) := hx
    exact hx'.frame hn.im fun _ _ => rfl
  · rename_i h0 iv n es
    split at h
    · rename_i r hr
      obtain ⟨q1, q2⟩ := hn.ln (φ := fun I => Rd w I u (.sl true n es)) hr (fun I I' hI hp => hp.frame hI fun _ _ => rfl) hx
      split at h
      · rename_i h' e
        cases h
        exact q1 h' e
      · rename_i e
        cases h
        exact q2 e
      · cases h
    · cases h
  · rename_i h0 gn
    split at h
    · rename_i r hr
      obtain ⟨h1, h2, h3⟩ := regAt_some hr
      obtain ⟨r', h4, h5, h6⟩ := hx
      rw [h1] at h4
      cases h4
      have hu := h6 h2 h3.symm
      split at h
      · rename_i h' e
        cases h
        obtain ⟨_, q1, q2, q3⟩ := hn.rn h0 h' r e h1
        exact ⟨_, q1, Nat.le_refl _, fun _ _ => by rw [hu, q2]⟩
      · rename_i e
        cases h
        obtain ⟨_, q1, q3⟩ := hn.fz h0 r e h1
        rw [hu]
        exact q1
      · cases h
    · cases h
  · rename_i h0 gn lo hi
    split at h
    · rename_i r hr
      obtain ⟨h1, h2, h3⟩ := regAt_some hr
      obtain ⟨r', h4, h5, h6⟩ := hx
      rw [h1] at h4
      cases h4
      obtain ⟨h7, h8, h9⟩ := h6 h2 h3.symm
      split at h
      · rename_i h' e
        cases h
        obtain ⟨_, q1, q2, q3⟩ := hn.rn h0 h' r e h1
        exact ⟨_, q1, Nat.le_refl _, fun _ _ => ⟨by rw [q2]; exact h7, h8, h9⟩⟩
      · rename_i e
        cases h
        obtain ⟨_, q1, q3⟩ := hn.fz h0 r e h1
        exact sub_rd q1 h7 h8 h9
      · cases h
    · cases h
  · rename_i h0 iv i j
    split at h
    · rename_i r hr
      obtain ⟨h1, h2, h3⟩ := regIv_some hr
      obtain ⟨r', h4, h5, h6⟩ := hx
      rw [h1] at h4
      cases h4
      obtain ⟨b, o, len, cap, e1, e2, e3, e4, e5⟩ := h6 h2 h3.symm
      split at h
      · rename_i h' e
        cases h
        obtain ⟨_, q1, q2, q3⟩ := hn.rn h0 h' r e h1
        exact ⟨_, q1, Nat.le_refl _, fun _ _ => ⟨b, o, len, cap, by rw [q2]; exact e1, q3 b e2, e3, e4, e5⟩⟩
      · cases h
    · cases h
  · cases h
    exact hx.2.frame hn.im fun _ _ => rfl

theorem nXs_ok {s : S} {ρ : Ren} {rg : List (Nat × Reg)} {g g' : G} {w : World} (hn : Nm s ρ rg g w g') : ∀ {xs ys : List X}, nXs s ρ xs = some ys →
    ys.length = xs.length ∧ ∀ (j : Nat) (y : X), ys[j]? = some y → ∃ x, xs[j]? = some x ∧ ∀ u, XOk w g s.regs u x → XOk w g' rg u y
  | [], ys, h => by cases h; exact ⟨rfl, fun j y hj => (by simp at hj)⟩
  | x :: r, ys, h => by
    simp only [nXs] at h
    split at h
    · rename_i y0 h1
      split at h
      · rename_i ys0 h2
        cases h
        obtain ⟨i1, i2⟩ := nXs_ok hn h2
        refine ⟨by simp [i1], fun j y hj => ?_⟩
        cases j with
        | zero => cases hj; exact ⟨x, rfl, fun u hu => nX_ok hn hu h1⟩
        | succ j => exact i2 j y hj
      · cases h
    · cases h

theorem nVals_ok {s : S} {ρ : Ren} {rg : List (Nat × Reg)} {g g' : G} {w : World} (hn : Nm s ρ rg g w g') {v : Value} {agg : Bool} {xs ys : List X} (hx : ValsOk w g s.regs v agg xs) (h : nXs s ρ xs = some ys) : ValsOk w g' rg v agg ys := by
  obtain ⟨h1, h2⟩ := nXs_ok hn h
  cases agg with
  | false =>
    obtain ⟨x, e, ho⟩ := hx
    subst e
    cases ys with
    | nil => simp at h1
    | cons y r =>
      have : r = [] := by simpa using h1
      subst this
      obtain ⟨x', hx', ho'⟩ := h2 0 y rfl
      cases hx'
      exact ⟨y, rfl, ho' v ho⟩
  | true =>
    obtain ⟨us, e, hl, ho⟩ := hx
    refine ⟨us, e, by rw [hl, h1], fun j y hj => ?_⟩
    obtain ⟨x, hx', ho'⟩ := h2 j y hj
    obtain ⟨u, hu, hou⟩ := ho j x hx'
    exact ⟨u, hu, ho' u hou⟩

theorem nSl_at {s : S} {kb : List Nat} {ρ : Ren} : ∀ {keep : List Nat} {sl : List (Nat × E)}, nSl s kb ρ keep = some sl → ∀ d e', get sl d = some e' → ∃ e, get s.slots d = some e ∧ nE s kb ρ e = some e'
  | [], sl, h, d, e', hd => by cases h; cases hd
  | d0 :: r, sl, h, d, e', hd => by
    simp only [nSl] at h
    split at h
    · rename_i e0 h0
      split at h
      · rename_i e1 h1
        split at h
        · rename_i l h2
          cases h
          simp only [get] at hd
          split at hd
          · rename_i hdd
            subst hdd
            cases hd
            exact ⟨e0, h0, h1⟩
          · exact nSl_at h2 d e' hd
        · cases h
      · cases h
    · cases h

theorem nBx_at {s : S} {kb : List Nat} {ρ : Ren} : ∀ {l bx : List (Nat × Box)}, nBx s kb ρ l = some bx → (∀ b y, get bx b = some y → ∃ x, get l b = some x ∧ y.gen = x.gen ∧ nXs s ρ x.cells = some y.cells) ∧ (∀ b x, keepB kb b = true → get l b = some x → ∃ y, get bx b = some y ∧ y.gen = x.gen)
  | [], bx, h => by cases h; exact ⟨fun b y e => (by cases e), fun b x _ e => (by cases e)⟩
  | (b0, ⟨g0, xs0⟩) :: r, bx, h => by
    simp only [nBx] at h
    split at h
    · rename_i hk
      split at h
      · rename_i ys h1
        split at h
        · rename_i l h2
          cases h
          obtain ⟨i1, i2⟩ := nBx_at h2
          refine ⟨fun b y e => ?_, fun b x hb e => ?_⟩
          · simp only [get] at e
            split at e
            · rename_i hbb
              subst hbb
              cases e
              exact ⟨⟨g0, xs0⟩, by simp [get], rfl, h1⟩
            · rename_i hbb
              simp only [get, if_neg hbb]
              exact i1 b y e
          · simp only [get] at e
            split at e
            · rename_i hbb
              subst hbb
              cases e
              exact ⟨⟨g0, ys⟩, by simp [get], rfl⟩
            · rename_i hbb
              simp only [get, if_neg hbb]
              exact i2 b x hb e
        · cases h
      · cases h
    · rename_i hk
      obtain ⟨i1, i2⟩ := nBx_at h
      refine ⟨fun b y e => ?_, fun b x hb e => ?_⟩
      · by_cases hbb : b0 = b
        · subst hbb
          exfalso
          have : ∀ {l bx : List (Nat × Box)}, nBx s kb ρ l = some bx → ∀ y, get bx b0 = some y → keepB kb b0 = true := by
            intro l
            induction l with
            | nil => intro bx h y e; cases h; cases e
            | cons p t ih =>
              intro bx h y e
              obtain ⟨b1, g1, x1⟩ := p
              simp only [nBx] at h
              split at h
              · rename_i hk1
                split at h
                · split at h
                  · rename_i l2 h2
                    cases h
                    simp only [get] at e
                    split at e
                    · rename_i hb1
                      rw [← hb1]
                      exact hk1
                    · exact ih h2 y e
                  · cases h
                · cases h
              · exact ih h y e
          rw [this h y e] at hk
          cases hk
        · simp only [get, if_neg hbb]
          exact i1 b y e
      · simp only [get] at e
        split at e
        · rename_i hbb
          subst hbb
          rw [hb] at hk
          cases hk
        · exact i2 b x hb e

theorem norm_wk {keep kb : List Nat} {ρ : Ren} {s s' : S} (h : norm keep kb ρ s = some s') : Wk s s' := by
  intro w0 A B nt a w hr
  obtain ⟨hdf, hsz, g, hm, hs⟩ := hr
  unfold norm at h
  split at h
  case h_2 => cases h
  rename_i hd1
  split at h
  case h_2 => cases h
  rename_i hd2
  split at h
  case h_2 => cases h
  rename_i sl hsl
  split at h
  case h_2 => cases h
  rename_i bx hbx
  split at h
  case h_2 => cases h
  rename_i rg hrg
  cases h
  obtain ⟨r1, r2, r3⟩ := nRg_ok hrg hd1 hd2
  have him : ∀ x, g.I x → (g.ren ρ).I x := fun x hx => ren_imm hx
  have hnm : Nm s ρ rg g w (g.ren ρ) := by
    refine ⟨him, fun h h' r e hr => ?_, fun h r e hr => ?_⟩
    · obtain ⟨r0, q1, q2⟩ := r1 h _ e
      rw [hr] at q1
      cases q1
      exact ⟨q2, r2 h h' r e hr, ren_val hd2 e, fun x hx => ren_reg e hx⟩
    · obtain ⟨r0, q1, q2⟩ := r1 h _ e
      rw [hr] at q1
      cases q1
      refine ⟨q2, (hm.regs h r hr q2).rdOf.frame ?_ (fun _ _ => rfl), fun x hx => ren_free e hx⟩
      rintro b (hb | hb)
      · split at hb
        · exact hb.elim
        · exact him b hb
      · exact ren_free e hb
  obtain ⟨b1, b2⟩ := nBx_at hbx
  refine ⟨hdf, hsz, g.ren ρ, ⟨hm.ext, fun x hx => ?_, fun x h' hx => ?_, fun h' r' hr' hl => ?_, fun b y hy => ?_, fun x hx => ?_, fun b hb => ?_, fun d hd => ?_⟩, fun d e' hd => ?_⟩
  · refine hm.lt x fun e => hx ?_
    simp [G.ren, e]
  · obtain ⟨h, _, hx⟩ := ren_reg_inv hx
    exact hm.fr x h hx
  · obtain ⟨h, r, q1, q2, q3, rfl⟩ := r3 h' r' hr'
    have : (g.ren ρ).val h' = g.val h := ren_val hd2 q1
    rw [this]
    refine (hm.regs h r q2 q3).frame (fun x hx => ?_) (fun x hx => ren_reg q1 hx) (fun _ _ => rfl) (fun _ _ => rfl)
    cases hp : r.pure with
    | true => rw [hp] at hx; exact hx.elim
    | false =>
      rw [hp] at hx
      exact him x hx
  · obtain ⟨x, q1, q2, q3⟩ := b1 b y hy
    obtain ⟨o1, o2, cs, e, o3, o4, o5⟩ := hm.boxes b x q1
    obtain ⟨n1, n2⟩ := nXs_ok hnm q3
    refine ⟨ren_box o1, by rw [n1]; exact o2, cs, e, o3, by rw [n1]; exact o4, fun j z hj => ?_⟩
    obtain ⟨x', hx', ho⟩ := n2 j z hj
    obtain ⟨u, hu, h1, hou⟩ := o5 j x' hx'
    exact ⟨u, hu, h1, ho u hou⟩
  · rcases ren_imm_inv hx with h | ⟨h, hx⟩
    · exact hm.im x h
    · exact .inr (hm.fr x h hx)
  · obtain ⟨hbig, x, hx, hl⟩ := hm.pl.1 b hb
    obtain ⟨y, hy, hg⟩ := b2 b x (by unfold keepB; rw [if_pos hbig]) hx
    exact ⟨hbig, y, hy, fun e => hl (by rw [← hg]; exact e)⟩
  · obtain ⟨q1, q2⟩ := hm.pl.2 d hd
    refine ⟨q1, fun r' hr' hl' hg' => ?_⟩
    obtain ⟨h, r, p1, p2, p3, _⟩ := r3 d r' hr'
    obtain ⟨p4, p5⟩ := nRg_res hrg h d r p1 p2 q1
    subst p4
    rw [ren_val hd2 p1]
    exact q2 r p2 p3 p5
  · obtain ⟨e, he, hne⟩ := nSl_at hsl d e' hd
    obtain ⟨hlt, hok⟩ := hs d e he
    refine ⟨hlt, ?_⟩
    generalize a.tmps.getD d undef = v at hok
    unfold nE at hne
    split at hne
    · rename_i agg xs
      split at hne
      · rename_i ys hys
        cases hne
        exact nVals_ok (agg := agg) (xs := xs) hnm hok hys
      · cases hne
    · rename_i b gn off
      split at hne
      · rename_i hk
        cases hne
        obtain ⟨x, q1, q2, q3⟩ := hok
        obtain ⟨y, hy, hg⟩ := b2 b x hk q1
        exact ⟨y, hy, by omega, fun e => q3 (by omega)⟩
      · cases hne
    · rename_i f b gn
      split at hne
      · rename_i hk
        cases hne
        obtain ⟨x, q1, q2, q3⟩ := hok
        obtain ⟨y, hy, hg⟩ := b2 b x hk q1
        exact ⟨y, hy, by omega, fun e => q3 (by omega)⟩
      · cases hne
    · rename_i h0 gn i off
      split at hne
      · rename_i r hr
        obtain ⟨h1, h2, h3⟩ := regAt_some hr
        obtain ⟨r', h4, h5, h6⟩ := hok
        rw [h1] at h4
        cases h4
        obtain ⟨bb, o, len, cap, e1, e2, e3⟩ := h6 h2 h3.symm
        split at hne
        · rename_i h' e
          cases hne
          obtain ⟨_, q1, q2, q3⟩ := hnm.rn h0 h' r e h1
          exact ⟨_, q1, Nat.le_refl _, fun _ _ => ⟨bb, o, len, cap, by rw [q2]; exact e1, e2, e3⟩⟩
        · cases hne
      · cases hne
    · rename_i row off
      cases hne
      obtain ⟨b, o, e1, e2, e3⟩ := hok
      exact ⟨b, o, e1, him b e2, fun j c hj => let ⟨u, hu, hr⟩ := e3 j c hj; ⟨u, hu, hr.frame him fun _ _ => rfl⟩⟩
    · rename_i h0 iv row off
      split at hne
      · rename_i r hr
        obtain ⟨q1, q2⟩ := hnm.ln (φ := fun I => ∃ b o, v = .pointer (some ⟨b, o + off, none⟩) ∧ I b ∧ ∀ (j : Nat) (c : C), row[j]? = some c → ∃ u, w.cell? ⟨b, o + j, none⟩ = some u ∧ Rd w I u c) hr
          (fun I I' hI ⟨b, o, e1, e2, e3⟩ => ⟨b, o, e1, hI b e2, fun j c hj => let ⟨u, hu, hr⟩ := e3 j c hj; ⟨u, hu, hr.frame hI fun _ _ => rfl⟩⟩) hok
        split at hne
        · rename_i h' e
          cases hne
          exact q1 h' e
        · rename_i e
          cases hne
          exact q2 e
        · cases hne
      · cases hne
    · cases hne
    · rename_i b h0 iv ks es
      split at hne
      · rename_i r hr
        obtain ⟨h1, h2, h3⟩ := regIv_some hr
        obtain ⟨r', h4, h5, h6⟩ := hok
        rw [h1] at h4
        cases h4
        obtain ⟨e1, e2, e3⟩ := h6 h2 h3.symm
        split at hne
        · rename_i h' e
          cases hne
          obtain ⟨_, q1, q2, q3⟩ := hnm.rn h0 h' r e h1
          exact ⟨_, q1, Nat.zero_le _, fun _ _ => ⟨e1, q3 b e2, e3⟩⟩
        · cases hne
      · cases hne
    · rename_i bi h0 iv b hm0 im left cur
      split at hne
      · rename_i r hr
        split at hne
        · rename_i r2 hr2
          obtain ⟨h1, h2, h3⟩ := regIv_some hr
          obtain ⟨m1, m2, m3⟩ := regIv_some hr2
          obtain ⟨r', h4, h5, r2', m4, m5, h6⟩ := hok
          rw [h1] at h4
          cases h4
          rw [m1] at m4
          cases m4
          obtain ⟨e1, e2, e3, e4⟩ := h6 h2 h3.symm m2 m3.symm
          split at hne
          · rename_i h' e
            split at hne
            · rename_i m' em
              cases hne
              obtain ⟨_, q1, q2, q3⟩ := hnm.rn h0 h' r e h1
              obtain ⟨_, p1, p2, p3⟩ := hnm.rn hm0 m' r2 em m1
              exact ⟨_, q1, Nat.zero_le _, _, p1, Nat.zero_le _, fun _ _ _ _ => ⟨e1, q3 bi e2, p3 b e3, e4⟩⟩
            · cases hne
          · cases hne
        · cases hne
      · cases hne

theorem Wk.trans {s1 s2 s3 : S} (h1 : Wk s1 s2) (h2 : Wk s2 s3) : Wk s1 s3 := fun w0 A B nt a w h => h2 w0 A B nt a w (h1 w0 A B nt a w h)

end

end Go.Proofs.YtppfojiogappaaaDoor.V

set_option linter.unusedVariables false

set_option linter.unusedSimpArgs false

namespace Go.Proofs.YtppfojiogappaaaDoor.V

open Go

theorem ltI_t {a b : Int} : ltI a b = true ↔ a < b := by simp [ltI_eq]

theorem ltI_f {a b : Int} : ltI a b = false ↔ b ≤ a := by simp [ltI_eq]

theorem leI_t {a b : Int} : leI a b = true ↔ a ≤ b := by simp [leI_eq]

theorem leI_f {a b : Int} : leI a b = false ↔ b < a := by simp [leI_eq]

theorem eqI_t {a b : Int} : eqI a b = true ↔ a = b := by simp [eqI_eq]

theorem eqI_f {a b : Int} : eqI a b = false ↔ a ≠ b := by simp [eqI_eq]

theorem notB_t {a : Bool} : notB a = true ↔ a = false := by cases a <;> simp [notB_eq]

theorem notB_f {a : Bool} : notB a = false ↔ a = true := by cases a <;> simp [notB_eq]

theorem eqStr_t {a b : ByteArray} : eqStr a b = true ↔ a = b := by
  rw [eqStr_eq]
  rw [beq_iff_eq]
  constructor
  · intro h
    have h' : a.data.toList = b.data.toList := by simpa [ByteArray.toList_eq] using h
    cases a
    cases b
    simp only at h'
    congr 1
    exact Array.toList_inj.1 h'
  · intro h
    rw [h]

theorem eqStr_f {a b : ByteArray} : eqStr a b = false ↔ a ≠ b := by
  rw [Ne, ← eqStr_t]
  simp

theorem wrp_i64 {x : Int} (h0 : -9223372036854775808 ≤ x) (h1 : x ≤ 9223372036854775807) : wrp .i64 x = x := by
  have e1 : (2 : Int) ^ 64 = 18446744073709551616 := by decide
  have e2 : (2 : Int) ^ (64 - 1) = 9223372036854775808 := by decide
  simp only [wrp_eq, IntKind.wrap, IntKind.bits, IntKind.signed, e1, e2, Bool.true_and, decide_eq_true_eq]
  split <;> omega

theorem wrp_u8 {x : Int} (h0 : 0 ≤ x) (h1 : x < 256) : wrp .u8 x = x := by
  simp only [wrp_eq, IntKind.wrap, IntKind.bits, IntKind.signed]
  simp
  omega

theorem tdivOf_pos {x y : Int} (h0 : 0 ≤ x) (h1 : x ≤ 9223372036854775807) (h2 : 0 < y) : tdivOf .i64 x y = x / y := by
  rw [tdivOf_eq]
  rw [Int.tdiv_eq_ediv_of_nonneg h0]
  have a := Int.ediv_le_self y h0
  have b := Int.ediv_nonneg h0 (Int.le_of_lt h2)
  have := @wrp_i64 (x / y) (by omega) (by omega)
  rw [wrp_eq] at this
  exact this

theorem tmodOf_pos {x y : Int} (h0 : 0 ≤ x) : tmodOf x y = x % y := by
  rw [tmodOf_eq]
  rw [Int.tmod_eq_emod_of_nonneg h0]

end Go.Proofs.YtppfojiogappaaaDoor.V

set_option linter.unusedVariables false

set_option linter.unusedSimpArgs false

namespace Go.Proofs.YtppfojiogappaaaDoor.V

open Go Go.RowKit

@[reducible] def iV (x : Int) : AV := .rdv false [.sc (.int .i64 x)]

@[reducible] def sV (s : ByteArray) : AV := .rdv false [.sc (.string s)]

@[reducible] def iR (x : Int) : RV := ⟨false, [.rd (.sc (.int .i64 x))]⟩

@[reducible] def sR (s : ByteArray) : RV := ⟨false, [.rd (.sc (.string s))]⟩

@[reducible] def bR (b : Bool) : RV := ⟨false, [.rd (.sc (.bool b))]⟩

def Old (w : World) : Nat → Prop := fun x => x < w.heap.size

def Reads (w : World) : List AV → List Value → Prop
  | [], [] => True
  | .rdv agg cs :: as, v :: vs => ArgOk w (Old w) (fun _ => False) v (.rdv agg cs) ∧ Reads w as vs
  | _, _ => False

theorem reads_ok {w : World} : ∀ {as : List AV} {vs : List Value}, Reads w as vs → ArgsOk w (Old w) as vs (as.map fun _ _ => False) ∧ Apart (as.map fun _ _ => False) ∧ (∀ F ∈ as.map (fun _ (_ : Nat) => False), ∀ x, ¬ F x) ∧
    (∀ x, ¬ aOf as vs (as.map fun _ _ => False) x) ∧ bOf as vs = []
  | [], [], h => ⟨trivial, trivial, fun F hF => (by cases hF), fun x h => h, rfl⟩
  | .rdv agg cs :: as, v :: vs, h => by
    obtain ⟨h0, h⟩ := h
    obtain ⟨i1, i2, i3, i4, i5⟩ := reads_ok h
    refine ⟨⟨h0, i1⟩, ⟨fun x hx => hx.elim, i2⟩, fun F hF x hx => ?_, fun x hx => hx.elim False.elim (i4 x), ?_⟩
    · cases hF with
      | head => exact hx
      | tail _ hF => exact i3 F hF x hx
    · unfold bOf
      exact i5
  | [], _ :: _, h => h.elim
  | .own _ _ :: _, _, h => by cases ‹List Value› <;> exact h.elim
  | .mptr _ _ :: _, _, h => by cases ‹List Value› <;> exact h.elim
  | .rptr _ :: _, _, h => by cases ‹List Value› <;> exact h.elim
  | .nilv _ :: _, _, h => by cases ‹List Value› <;> exact h.elim
  | .ov _ _ :: _, _, h => by cases ‹List Value› <;> exact h.elim
  | .mv _ _ :: _, _, h => by cases ‹List Value› <;> exact h.elim
  | .rdv _ _ :: _, [], h => h.elim

theorem law_calls {P : Program} {f : Nat} {as : List AV} {vs : List Value} {w : World} (hf : FnV P f as fun rs outs => rs = [bR true] ∧ outs = []) (h : Reads w as vs) :
    Calls P f vs.toArray w fun e w' => e = .returned (.bool true) ∧ Below w.heap.size w w' := by
  obtain ⟨i1, i2, i3, i4, i5⟩ := reads_ok h
  rw [FnV_eq] at hf
  refine (hf.2 w (Old w) _ vs i1 i2 (fun F hF x hx => (i3 F hF x hx).elim) (fun x h => h)).mono ?_
  rintro e w' ⟨v, rs, outs, rfl, ⟨rfl, rfl⟩, hb⟩
  obtain ⟨hx, us, I', G, ⟨h1, h2⟩, h3, _⟩ := hb
  obtain ⟨u, hu, hr⟩ := h3 0 _ rfl
  obtain ⟨x, hx1, hx2⟩ := hr
  cases hx1
  have hu2 : u = .bool true := by
    have hx2' : Rd w' I' u (.sc (.bool true)) := hx2
    cases hx2'
    rfl
  have hs : us.size = 1 := by simpa using h1
  rw [dif_pos hs] at h2
  have : us[0] = u := by
    have hu' : us[0]? = some us[0] := Array.getElem?_eq_getElem (by omega)
    rw [hu'] at hu
    cases hu
    rfl
  refine ⟨by rw [h2, this, hu2], ⟨hx.os, hx.tape, hx.output, hx.size, fun k hk => hx.keep k hk (i4 k) ?_⟩⟩
  rw [i5]
  exact fun p hp => (by cases hp)

theorem str_reads {w : World} (s : ByteArray) : ArgOk w (Old w) (fun _ => False) (.string s) (sV s) := ⟨_, rfl, .sc _⟩

end Go.Proofs.YtppfojiogappaaaDoor.V

set_option linter.unusedVariables false

set_option linter.unusedSimpArgs false

namespace Go.Proofs.YtppfojiogappaaaDoor.V

open Go Classical

inductive Sh where
  | int (k : IntKind)
  | bool
  | str
  | sl (row : List Sh)

inductive Ty : Sh → C → Prop
  | int (k : IntKind) (n : Int) (h : (Lit.int k n).wf = true) : Ty (.int k) (.sc (.int k n))
  | bool (b : Bool) : Ty .bool (.sc (.bool b))
  | str (s : ByteArray) (h : s.size ≤ maxLen) : Ty .str (.sc (.string s))
  | sl (row : List Sh) (es : List (List C)) (hl : es.length ≤ maxLen) (h : ∀ r ∈ es, r.length = row.length) (ht : ∀ r ∈ es, ∀ (j : Nat) (sh : Sh) (c : C), row[j]? = some sh → r[j]? = some c → Ty sh c) : Ty (.sl row) (.sl true row.length es)

def Cells (w : World) : List Sh → List Value → List C → Prop
  | [], [], [] => True
  | sh :: shs, v :: vs, c :: cs => (Rd w (Old w) v c ∧ Ty sh c ∧ v.oneCell' = true) ∧ Cells w shs vs cs
  | _, _, _ => False

def TyL : List Sh → List C → Prop
  | [], [] => True
  | sh :: shs, c :: cs => Ty sh c ∧ TyL shs cs
  | _, _ => False

theorem Cells.append {w : World} : ∀ {a a' : List Sh} {b b' : List Value} {c c' : List C}, Cells w a b c → Cells w a' b' c' → Cells w (a ++ a') (b ++ b') (c ++ c')
  | [], _, [], _, [], _, _, h => h
  | _ :: _, _, _ :: _, _, _ :: _, _, h, h' => ⟨h.1, h.2.append h'⟩
  | [], _, _ :: _, _, _, _, h, _ => h.elim
  | [], _, [], _, _ :: _, _, h, _ => h.elim
  | _ :: _, _, [], _, _, _, h, _ => h.elim
  | _ :: _, _, _ :: _, _, [], _, h, _ => h.elim

theorem Cells.len {w : World} : ∀ {a : List Sh} {b : List Value} {c : List C}, Cells w a b c → b.length = a.length ∧ c.length = a.length
  | [], [], [], _ => ⟨rfl, rfl⟩
  | _ :: _, _ :: _, _ :: _, h => by
    have := h.2.len
    simp [this.1, this.2]
  | [], _ :: _, _, h => h.elim
  | [], [], _ :: _, h => h.elim
  | _ :: _, [], _, h => h.elim
  | _ :: _, _ :: _, [], h => h.elim

theorem Cells.at {w : World} : ∀ {a : List Sh} {b : List Value} {c : List C}, Cells w a b c → ∀ (j : Nat) (x : C), c[j]? = some x → ∃ v sh, b[j]? = some v ∧ a[j]? = some sh ∧ Rd w (Old w) v x ∧ Ty sh x ∧ v.oneCell' = true
  | [], [], [], _, j, x, hj => by simp at hj
  | sh :: _, v :: _, c :: _, h, j, x, hj => by
    cases j with
    | zero => cases hj; exact ⟨v, sh, rfl, rfl, h.1.1, h.1.2.1, h.1.2.2⟩
    | succ j => exact h.2.at j x hj
  | [], _ :: _, _, h, _, _, _ => h.elim
  | [], [], _ :: _, h, _, _, _ => h.elim
  | _ :: _, [], _, h, _, _, _ => h.elim
  | _ :: _, _ :: _, [], h, _, _, _ => h.elim

section

variable {H : Type} {enc : TypeId × Value → H} {P : Program} {w : World} {base : Nat} {spare : Nat → Bool} {held : Bool} {τ : Nat → Option TD}

theorem Cells.ty {w : World} : ∀ {a : List Sh} {b : List Value} {c : List C}, Cells w a b c → TyL a c
  | [], [], [], _ => trivial
  | _ :: _, _ :: _, _ :: _, h => ⟨h.1.2.1, h.2.ty⟩
  | [], _ :: _, _, h => h.elim
  | [], [], _ :: _, h => h.elim
  | _ :: _, [], _, h => h.elim
  | _ :: _, _ :: _, [], h => h.elim

end

end Go.Proofs.YtppfojiogappaaaDoor.V

