/- All arguments of a call; what it hands back; the rule of a call. -/
import Derived.Test.YtppfojiogappaaaVS
set_option linter.unusedVariables false
set_option linter.unusedSimpArgs false
namespace Go.Proofs.Ytppfojiogappaaa.V
open Go Classical

/-- Each box handed over, with what it holds afterwards. -/
def BoxOuts (w : World) (I : Nat → Prop) (g : G) (s : S) : List Nat → List (List C) → Prop
  | [], [] => True
  | b :: bs, o :: os => (∃ y, get s.boxes b = some y ∧ o.length = y.cells.length ∧ MemRow w I (g.loc b) o) ∧ BoxOuts w I g s bs os
  | _, _ => False

def noDup : List Nat → Bool
  | [] => true
  | a :: r => if memb r a then false else noDup r

theorem memb_mem {l : List Nat} {a : Nat} : memb l a = true ↔ a ∈ l := by
  induction l with
  | nil => simp [memb]
  | cons b r ih =>
    simp only [memb]
    by_cases h : b = a
    · simp [h]
    · simp [h, ih, Ne.symm h]

theorem noDup_app {l l' : List Nat} (h : noDup (l ++ l') = true) : noDup l' = true ∧ ∀ a, a ∈ l → ¬ a ∈ l' := by
  induction l with
  | nil => exact ⟨h, fun a ha => (by cases ha)⟩
  | cons b r ih =>
    have h' : (if memb (r ++ l') b then false else noDup (r ++ l')) = true := h
    split at h'
    · cases h'
    · rename_i hm
      obtain ⟨h1, h2⟩ := ih h'
      refine ⟨h1, fun a ha => ?_⟩
      cases ha with
      | head => exact fun hl => hm (memb_mem.2 (List.mem_append.2 (.inr hl)))
      | tail _ ha => exact h2 a ha

section
variable {w0 : World} {A : AA} {B : List (Nat × Nat × Nat)}

theorem aOf_cons {a : AV} {as : List AV} {F : Nat → Prop} {Fs : List (Nat → Prop)} {x : Nat} (h : aOf (a :: as) (F :: Fs) x) : aOf [a] [F] x ∨ aOf as Fs x := by
  cases a with
  | own n es => exact h.imp (fun h => .inl h) id
  | _ => exact .inr h

theorem args_ok {g : G} {s : S} {w : World} (hm : Mem w0 A B g s w) : ∀ {ms : List Mode} {xs : List (Option E)} {vs : List Value} {k : List (Nat × Nat) → List Nat → List Nat → List AV → Prop}, EsOk w g s xs vs → argsE s ms xs k →
    ∃ l O Bx as Fs, k l O Bx as ∧ LiveL s l ∧ (∀ I : Nat → Prop, (∀ y, IL g l y → I y) → ArgsOk w I as vs Fs) ∧ (∀ F ∈ Fs, ∀ y, F y → Who g O Bx y) ∧
      (noDup O = true → noDup Bx = true → Apart Fs) ∧ (∀ y, aOf as Fs y → ∃ h ∈ O, g.ow y = .reg h) ∧ (∀ b ∈ Bx, ∃ y, get s.boxes b = some y) ∧
      (∀ p ∈ bOf as vs, ∃ b ∈ Bx, ∃ y, get s.boxes b = some y ∧ p = ((g.loc b).1, (g.loc b).2, y.cells.length)) ∧
      (∀ (w' : World) (I' : Nat → Prop) (outs : List (List C)), OutsOk w' I' as vs outs → BoxOuts w' I' g s Bx outs)
  | [], [], [], k, _, h => ⟨[], [], [], [], [], h, fun p hp => (by cases hp), fun I hI => trivial, fun F hF => (by cases hF), fun _ _ => trivial, fun y hy => hy.elim, fun b hb => (by cases hb), fun p hp => (by cases hp),
      fun w' I' outs h => (by cases outs with
        | nil => trivial
        | cons o os => exact h.elim)⟩
  | m :: ms, x :: xs, v :: vs, k, hE, h => by
    obtain ⟨l, O, Bx, av, F, h1, h2, h3, h4, h5, h6, h7⟩ := arg_ok hm hE.1 h
    obtain ⟨l', O', Bx', as, Fs, i1, i2, i3, i4, i5, i6, i7, i8, i9⟩ := args_ok hm hE.2 h1
    refine ⟨_, _, _, _, F :: Fs, i1, h2.app i2, fun I hI => ⟨h3 I fun y hy => hI y (IL_app_left hy), i3 I fun y hy => hI y (IL_app_right hy)⟩, ?_, ?_, ?_, ?_, ?_, ?_⟩
    · intro F' hF y hy
      cases hF with
      | head =>
        rcases h4 y hy with ⟨c, hc, e⟩ | ⟨b, hb, e⟩
        · exact .inl ⟨c, List.mem_append.2 (.inl hc), e⟩
        · exact .inr ⟨b, List.mem_append.2 (.inl hb), e⟩
      | tail _ hF =>
        rcases i4 F' hF y hy with ⟨c, hc, e⟩ | ⟨b, hb, e⟩
        · exact .inl ⟨c, List.mem_append.2 (.inr hc), e⟩
        · exact .inr ⟨b, List.mem_append.2 (.inr hb), e⟩
    · intro d1 d2
      obtain ⟨d3, d4⟩ := noDup_app d1
      obtain ⟨d5, d6⟩ := noDup_app d2
      refine ⟨fun y hy F' hF hy' => ?_, i5 d3 d5⟩
      rcases h4 y hy with ⟨c, hc, e⟩ | ⟨b, hb, e, _⟩ <;> rcases i4 F' hF y hy' with ⟨c', hc', e'⟩ | ⟨b', hb', e', _⟩
      · rw [e] at e'
        cases e'
        exact d4 _ hc hc'
      · rw [e] at e'; cases e'
      · rw [e] at e'; cases e'
      · rw [e] at e'
        cases e'
        exact d6 _ hb hb'
    · intro y hy
      rcases aOf_cons hy with hy | hy
      · obtain ⟨c, hc, e⟩ := h5 y hy
        exact ⟨c, List.mem_append.2 (.inl hc), e⟩
      · obtain ⟨c, hc, e⟩ := i6 y hy
        exact ⟨c, List.mem_append.2 (.inr hc), e⟩
    · intro b hb
      exact (List.mem_append.1 hb).elim (h6 b) (i7 b)
    · intro p hp
      rcases h7 with ⟨wr, cs, b, y, rfl, rfl, e1, e2, e3⟩ | ⟨e1, rfl⟩
      · simp only [e3, bOf, unP_ptV, List.mem_cons] at hp
        rcases hp with rfl | hp
        · exact ⟨b, List.mem_append.2 (.inl (List.mem_singleton.2 rfl)), y, e1, by rw [e2]⟩
        · obtain ⟨b', hb', r⟩ := i8 p hp
          exact ⟨b', List.mem_append.2 (.inr hb'), r⟩
      · have : bOf (av :: as) (v :: vs) = bOf as vs := by
          cases av with
          | mptr wr cs => exact absurd rfl (e1 wr cs)
          | _ => rfl
        rw [this] at hp
        obtain ⟨b', hb', r⟩ := i8 p hp
        exact ⟨b', by simpa using hb', r⟩
    · intro w' I' outs ho
      rcases h7 with ⟨wr, cs, b, y, rfl, rfl, e1, e2, e3⟩ | ⟨e1, rfl⟩
      · cases outs with
        | nil => exact ho.elim
        | cons o os =>
          obtain ⟨⟨q1, p, q2, q3⟩, q4⟩ := ho
          rw [e3] at q2
          have q5 : g.loc b = p := Prod.ext (ptV_inj q2).1 (ptV_inj q2).2
          rw [← q5] at q3
          exact ⟨⟨y, e1, by rw [q1, e2], q3⟩, i9 w' I' os q4⟩
      · have : OutsOk w' I' (av :: as) (v :: vs) outs = OutsOk w' I' as vs outs := by
          cases av with
          | mptr wr cs => exact absurd rfl (e1 wr cs)
          | _ => rfl
        rw [this] at ho
        exact i9 w' I' outs ho
  | [], _ :: _, _, _, _, h => h.elim
  | _ :: _, [], _, _, _, h => h.elim
  | _ :: _, _ :: _, [], _, hE, _ => hE.elim
  | [], [], _ :: _, _, hE, _ => hE.elim

/-! ### what comes back -/
def lnOf : List (Nat × Nat) → Option (Option (Nat × Nat))
  | [] => some none
  | [p] => some (some p)
  | _ => none

/-- One name for all that is lent. -/
def pack : List (Nat × Nat) → List (Nat × Nat)
  | [] => []
  | p :: r => match pack r with
    | [] => [p]
    | q :: t => if p.1 = q.1 then q :: t else p :: q :: t

def lX (ln : Option (Option (Nat × Nat))) (c : C) : Option X :=
  match c with
  | .sc v => some (.sc v)
  | .any => none
  | .sl _ n es => (match ln with
    | some l => some (.rd l n es)
    | none => none)
def lXs (ln : Option (Option (Nat × Nat))) : List C → Option (List X)
  | [] => some []
  | c :: r => match lX ln c with
    | some x => (match lXs ln r with
      | some xs => some (x :: xs)
      | none => none)
    | none => none

def outsX (ln : Option (Option (Nat × Nat))) : List Nat → List (List C) → Option (List (Nat × List X))
  | [], [] => some []
  | b :: bs, o :: os => (match lXs ln o with
    | some xs => (match outsX ln bs os with
      | some r => some ((b, xs) :: r)
      | none => none)
    | none => none)
  | _, _ => none

def resXs (ln : Option (Option (Nat × Nat))) (st : Nat) : Nat → List (Nat × Reg) → List RX → Option (List X × List (Nat × Reg) × Nat)
  | h, regs, [] => some ([], regs, h)
  | h, regs, .rd c :: r => (match lX ln c with
    | some x => (match resXs ln st h regs r with
      | some (xs, regs', h') => some (x :: xs, regs', h')
      | none => none)
    | none => none)
  | h, regs, .own pure n es :: r =>
    (match (if pure then true else match ln with | some none => true | _ => false) with
    | true => (match resXs ln st (h + st) (put regs h (newReg regs h pure n es)) r with
      | some (xs, regs', h') => some (.ref h (newReg regs h pure n es).gen :: xs, regs', h')
      | none => none)
    | false => none)
  | _, _, .box _ :: _ => none

def resEs (ln : Option (Option (Nat × Nat))) (st : Nat) : Nat → List (Nat × Reg) → List RV → Option (List (Bool × List X) × List (Nat × Reg))
  | h, regs, [] => some ([], regs)
  | h, regs, r :: rs => (match resXs ln st h regs r.xs with
    | some (xs, regs', h') => (match resEs ln st h' regs' rs with
      | some (ps, regs'') => some ((r.agg, xs) :: ps, regs'')
      | none => none)
    | none => none)

def oneE : List (Bool × List X) → E
  | [p] => .vals p.1 p.2
  | ps => .tup ps

def dst0 (o : Oper) : Nat := match o.dst with | some d => d | none => 0

/-- The state after a call. -/
def retW (nt : Nat) (o : Oper) (l : List (Nat × Nat)) (O Bx : List Nat) (rs : List RV) (outs : List (List C)) (s : S) (k : S → Prop) : Prop :=
  match outsX (lnOf (pack l)) Bx outs with
  | some ups => (match resEs (lnOf (pack l)) nt (dst0 o) (kill s.regs O) rs with
    | some (ps, regs') => (match o.dst with
      | some _ => putK nt o { s with regs := regs', boxes := mapB s.boxes fun b x => match get ups b with | some c => { x with cells := c } | none => x } (oneE ps) k
      | none => k { s with regs := regs', boxes := mapB s.boxes fun b x => match get ups b with | some c => { x with cells := c } | none => x })
    | none => False)
  | none => False

/-- A variable comes back. -/
def isBox : List RV → Option (List C)
  | [⟨false, [.box cs]⟩] => some cs
  | _ => none
def retB (nt : Nat) (o : Oper) (l : List (Nat × Nat)) (O Bx : List Nat) (cs : List C) (s : S) (k : S → Prop) : Prop :=
  match O, Bx with
  | [], [] => (match lXs (lnOf (pack l)) cs with
    | some xs => (match o.dst with
      | some d => putK nt o { s with boxes := put s.boxes d ⟨boxGen s.boxes d, xs⟩ } (.bptr d (boxGen s.boxes d) 0) k
      | none => False)
    | none => False)
  | _, _ => False
/-- Does anything come back that is read through what was lent? -/
def plainC : List C → Bool
  | [] => true
  | .sc _ :: r => plainC r
  | _ :: _ => false
def plainO : List (List C) → Bool
  | [] => true
  | o :: r => match plainC o with
    | true => plainO r
    | false => false
def plainX : List RX → Bool
  | [] => true
  | .rd (.sc _) :: r => plainX r
  | .own true _ _ :: r => plainX r
  | _ :: _ => false
def plainR : List RV → Bool
  | [] => true
  | v :: r => match plainX v.xs with
    | true => plainR r
    | false => false
def retWB (nt : Nat) (o : Oper) (l : List (Nat × Nat)) (O Bx : List Nat) (rs : List RV) (outs : List (List C)) (s : S) (k : S → Prop) : Prop :=
  match isBox rs with
  | some cs => retB nt o l O Bx cs s k
  | none => (match lnOf (pack l) with
    | some _ => retW nt o l O Bx rs outs s k
    | none => (match plainR rs with
      | true => (match plainO outs with
        | true => retW nt o l O Bx rs outs s k
        | false => retW nt o [] (O ++ l.map (·.1)) Bx rs outs s k)
      | false => retW nt o [] (O ++ l.map (·.1)) Bx rs outs s k))

def apartL (l : List (Nat × Nat)) (O : List Nat) : Bool :=
  match l with
  | [] => true
  | p :: r => if memb O p.1 then false else apartL r O

def callE (P : Program) (nt : Nat) (o : Oper) (f : Nat) (ms : List Mode) (xs : List (Option E)) (s : S) (k : S → Prop) : Prop :=
  argsE s ms xs fun l O Bx as =>
    (match noDup O with
    | true => (match noDup Bx with
      | true => (match apartL l O with
        | true => FnV P f as fun rs outs => retWB nt o l O Bx rs outs s k
        | false => False)
      | false => False)
    | false => False)

def callW (P : Program) (nt : Nat) (o : Oper) (f : Nat) (ms : List Mode) (xs : List Operand) (s : S) (k : S → Prop) : Prop := callE P nt o f ms (xs.map s.ev) s k
/-- A call of a function's value. -/
def callVW (P : Program) (nt : Nat) (o : Oper) (md : Nat → List Mode) (t : Nat) (xs : List Operand) (s : S) (k : S → Prop) : Prop :=
  match get s.slots t with
  | some (.clo f b g) => (match boxAt s b g with
    | some _ => callE P nt o f (md f) (xs.map s.ev ++ [some (.bptr b g 0)]) s k
    | none => False)
  | some (.vals false [.sc (.func (.func f) ⟨[]⟩ ⟨[]⟩)]) => callE P nt o f (md f) (xs.map s.ev) s k
  | _ => False
def makeFuncW (nt : Nat) (o : Oper) (fn : Fn) (first captured : Array Operand) (s : S) (k : S → Prop) : Prop :=
  match fn, first, captured with
  | .func f, ⟨[]⟩, ⟨[x]⟩ => (match s.ev x with
    | some (.bptr b g 0) => putK nt o s (.clo f b g) k
    | _ => False)
  | .func f, ⟨[]⟩, ⟨[]⟩ => putK nt o s (.vals false [.sc (.func (.func f) #[] #[])]) k
  | _, _, _ => False

theorem apartL_spec {l : List (Nat × Nat)} {O : List Nat} (h : apartL l O = true) : ∀ p ∈ l, memb O p.1 = false := by
  induction l with
  | nil => exact fun p hp => (by cases hp)
  | cons q r ih =>
    simp only [apartL] at h
    split at h
    · cases h
    · rename_i hm
      intro p hp
      cases hp with
      | head => simpa using hm
      | tail _ hp => exact ih h p hp

theorem pack_mem (l : List (Nat × Nat)) : (∀ p ∈ pack l, p ∈ l) ∧ ∀ p ∈ l, ∃ q ∈ pack l, q.1 = p.1 := by
  induction l with
  | nil => exact ⟨fun p hp => hp, fun p hp => (by cases hp)⟩
  | cons p r ih =>
    simp only [pack]
    split
    · rename_i e
      rw [e] at ih
      refine ⟨fun q hq => (by rw [List.mem_singleton.1 hq]; exact List.mem_cons_self ..), fun q hq => ?_⟩
      cases hq with
      | head => exact ⟨p, List.mem_singleton.2 rfl, rfl⟩
      | tail _ hq => obtain ⟨t, ht, _⟩ := ih.2 q hq; cases ht
    · rename_i q t e
      rw [e] at ih
      split
      · rename_i hpq
        refine ⟨fun y hy => List.mem_cons_of_mem _ (ih.1 y hy), fun y hy => ?_⟩
        cases hy with
        | head => exact ⟨q, List.mem_cons_self .., hpq.symm⟩
        | tail _ hy => exact ih.2 y hy
      · refine ⟨fun y hy => ?_, fun y hy => ?_⟩
        · cases hy with
          | head => exact List.mem_cons_self ..
          | tail _ hy => exact List.mem_cons_of_mem _ (ih.1 y hy)
        · cases hy with
          | head => exact ⟨p, List.mem_cons_self .., rfl⟩
          | tail _ hy => obtain ⟨z, hz, e⟩ := ih.2 y hy; exact ⟨z, List.mem_cons_of_mem _ hz, e⟩

/-- What is read in the callee is read under the packed name. -/
def LnIs (g : G) (regs : List (Nat × Reg)) (I : Nat → Prop) (ln : Option (Option (Nat × Nat))) : Prop :=
  ∀ l, ln = some l → ∀ φ : (Nat → Prop) → Prop, (∀ I I' : Nat → Prop, (∀ x, I x → I' x) → φ I → φ I') → φ I → LnOk g regs l φ

theorem lX_ok {g : G} {regs : List (Nat × Reg)} {I : Nat → Prop} {ln : Option (Option (Nat × Nat))} {w : World} (hl : LnIs g regs I ln) {u : Value} {c : C} {x : X} (h : lX ln c = some x) (hr : Rd w I u c) : XOk w g regs u x := by
  cases c with
  | sc v =>
    cases h
    cases hr
    exact rfl
  | any => cases h
  | sl own n es =>
    cases hln : ln with
    | none => simp [lX, hln] at h
    | some l =>
      simp only [lX, hln, Option.some.injEq] at h
      subst h
      exact hl l hln (fun I => Rd w I u (.sl true n es)) (fun I I' hI h => h.frame hI fun _ _ => rfl) hr.flag

theorem lXs_ok {g : G} {regs : List (Nat × Reg)} {I : Nat → Prop} {ln : Option (Option (Nat × Nat))} {w : World} (hl : LnIs g regs I ln) : ∀ {cs : List C} {xs : List X}, lXs ln cs = some xs →
    xs.length = cs.length ∧ ∀ (j : Nat) (x : X), xs[j]? = some x → ∃ c, cs[j]? = some c ∧ ∀ u, Rd w I u c → XOk w g regs u x
  | [], xs, h => by cases h; exact ⟨rfl, fun j x hj => (by simp at hj)⟩
  | c :: r, xs, h => by
    simp only [lXs] at h
    split at h
    · rename_i x0 h1
      split at h
      · rename_i xs0 h2
        cases h
        obtain ⟨i1, i2⟩ := lXs_ok hl h2
        refine ⟨by simp [i1], fun j x hj => ?_⟩
        cases j with
        | zero => cases hj; exact ⟨c, rfl, fun u hu => lX_ok hl h1 hu⟩
        | succ j => exact i2 j x hj
      · cases h
    · cases h

theorem LnIs.step {g g' : G} {s s' : S} {w w' : World} {I : Nat → Prop} {ln : Option (Option (Nat × Nat))} (h : Step g s w g' s' w') (hl : LnIs g s.regs I ln) : LnIs g' s'.regs I ln := by
  intro l e φ hφ hI
  have := hl l e φ hφ hI
  exact LnOk.step (φ := φ) (φ' := φ) h (fun I I' hh hp => hφ _ _ (fun x hx => (hh x hx).1) hp) this

theorem resXs_ok {ln : Option (Option (Nat × Nat))} {st : Nat} {w : World} {I : Nat → Prop} : ∀ {xs : List RX} {h h' : Nat} {regs' : List (Nat × Reg)} {ys : List X} {g : G} {s : S} (us : Nat → Value) (F : Nat → Nat → Prop), Mem w0 A B g s w → LnIs g s.regs I ln →
    (ln = some none → ∀ x, I x → g.I x) →
    (∀ (j : Nat) (x : RX), xs[j]? = some x → RxOk w I (F j) (us j) x) → (∀ j x, F j x → g.ow x = .none ∧ x < w.heap.size ∧ (A x ∨ w0.heap.size ≤ x)) → (∀ j j' x, F j x → F j' x → j = j') →
    resXs ln st h s.regs xs = some (ys, regs', h') →
    ∃ g', Step g s w g' { s with regs := regs' } w ∧ Mem w0 A B g' { s with regs := regs' } w ∧ ys.length = xs.length ∧ (∀ (j : Nat) (y : X), ys[j]? = some y → XOk w g' regs' (us j) y) ∧
      (∀ x, g.ow x = .none → (∀ j, j < xs.length → ¬ F j x) → g'.ow x = .none) ∧ (ln = some none → ∀ x, I x → g'.I x)
  | [], h, h', regs', ys, g, s, us, F, hm, hl, hI, hx, hF, hd, e => by
    cases e
    exact ⟨g, Step.refl g s w, hm, rfl, fun j y hj => (by simp at hj), fun x hx _ => hx, hI⟩
  | .rd c :: r, h, h', regs', ys, g, s, us, F, hm, hl, hI, hx, hF, hd, e => by
    simp only [resXs] at e
    split at e
    · rename_i x0 h1
      split at e
      · rename_i xs1 regs1 h1' h2
        cases e
        obtain ⟨g', i1, i2, i3, i4, i5, i6⟩ := resXs_ok (fun j => us (j + 1)) (fun j => F (j + 1)) hm hl hI (fun j x hj => hx (j + 1) x hj) (fun j x h => hF (j + 1) x h) (fun j j' x h h' => by have := hd _ _ x h h'; omega) h2
        refine ⟨g', i1, i2, by simp [i3], fun j y hj => ?_, fun x hn hf => i5 x hn fun j hj => hf (j + 1) (by simpa using hj), i6⟩
        cases j with
        | zero =>
          cases hj
          have := lX_ok hl h1 (hx 0 _ rfl)
          exact XOk.step i1 this
        | succ j => exact i4 j y hj
      · cases e
    · cases e
  | .own pure n es :: r, h, h', regs', ys, g, s, us, F, hm, hl, hI, hx, hF, hd, e => by
    simp only [resXs] at e
    split at e
    · rename_i hp
      split at e
      · rename_i xs1 regs1 h1' h2
        cases e
        obtain ⟨e1, e2, e3, e4, e5⟩ := newReg_es s.regs h pure n es
        have hO : Own w (if pure then fun _ => False else g.I) (F 0) (us 0) (.sl true n es) := by
          have h0 := hx 0 _ rfl
          have h0 : Own w (if pure then fun _ => False else I) (F 0) (us 0) (.sl true n es) := h0
          cases pure with
          | true => exact h0
          | false =>
            refine h0.frame (fun x hx' => ?_) (fun _ h => h) (fun _ _ => rfl) (fun _ _ => rfl)
            simp only [Bool.false_eq_true, if_false] at hp
            split at hp
            · exact hI rfl x hx'
            · cases hp
        obtain ⟨st1, hm1⟩ := hm.adopt h (newReg s.regs h pure n es) (F 0) (us 0) (fun x hx => hF 0 x hx) (by rw [e2, e3, e4]; exact hO) e5
        have how : ∀ x, ¬ F 0 x → (g.adopt h (F 0) (us 0)).ow x = g.ow x := fun x hx => by simp [G.adopt, hx]
        obtain ⟨g', i1, i2, i3, i4, i5, i6⟩ := resXs_ok (s := { s with regs := put s.regs h (newReg s.regs h pure n es) }) (fun j => us (j + 1)) (fun j => F (j + 1)) hm1 (hl.step st1)
          (fun e x hx => (st1.im x (hI e x hx)).1) (fun j x hj => hx (j + 1) x hj)
          (fun j x hf => by
            have hne : ¬ F 0 x := fun h0 => by have := hd _ _ x hf h0; omega
            rw [how x hne]
            exact hF (j + 1) x hf) (fun j j' x h h' => by have := hd _ _ x h h'; omega) h2
        refine ⟨g', st1.trans i1, i2, by simp [i3], fun j y hj => ?_, fun x hn hf => i5 x ?_ fun j hj => hf (j + 1) (by simpa using hj), i6⟩
        · cases j with
          | zero =>
            cases hj
            refine XOk.step i1 (x := .ref h (newReg s.regs h pure n es).gen) ⟨_, get_put_same _ _ _, Nat.le_refl _, fun _ _ => by simp [G.adopt]⟩
          | succ j => exact i4 j y hj
        · rw [how x (hf 0 (by simp))]
          exact hn
      · cases e
    · cases e
  | .box cs :: r, h, h', regs', ys, g, s, us, F, hm, hl, hI, hx, hF, hd, e => by cases e

theorem resEs_ok {ln : Option (Option (Nat × Nat))} {st : Nat} {w : World} {I : Nat → Prop} : ∀ {rs : List RV} {h : Nat} {regs' : List (Nat × Reg)} {ps : List (Bool × List X)} {g : G} {s : S} (us : Nat → Value) (F : Nat → Nat → Nat → Prop), Mem w0 A B g s w → LnIs g s.regs I ln →
    (ln = some none → ∀ x, I x → g.I x) →
    (∀ (k : Nat) (r : RV), rs[k]? = some r → RvOk w I (F k) (us k) r) → (∀ k j x, F k j x → g.ow x = .none ∧ x < w.heap.size ∧ (A x ∨ w0.heap.size ≤ x)) → (∀ k j k' j' x, F k j x → F k' j' x → k = k' ∧ j = j') →
    resEs ln st h s.regs rs = some (ps, regs') →
    ∃ g', Step g s w g' { s with regs := regs' } w ∧ Mem w0 A B g' { s with regs := regs' } w ∧ ps.length = rs.length ∧ (∀ (k : Nat) (p : Bool × List X), ps[k]? = some p → ValsOk w g' regs' (us k) p.1 p.2)
  | [], h, regs', ps, g, s, us, F, hm, hl, hI, hx, hF, hd, e => by
    cases e
    exact ⟨g, Step.refl g s w, hm, rfl, fun j y hj => (by simp at hj)⟩
  | r :: rs, h, regs', ps, g, s, us, F, hm, hl, hI, hx, hF, hd, e => by
    simp only [resEs] at e
    split at e
    · rename_i xs1 regs1 h1 e1
      split at e
      · rename_i ps1 regs2 e2
        cases e
        have h0 := hx 0 r rfl
        obtain ⟨vs, v1, v2, v3⟩ : ∃ vs : Nat → Value, (∀ (j : Nat) (x : RX), r.xs[j]? = some x → RxOk w I (F 0 j) (vs j) x) ∧ (r.agg = false → ∃ x, r.xs = [x] ∧ us 0 = vs 0) ∧
            (r.agg = true → ∃ a, us 0 = .agg a ∧ a.size = r.xs.length ∧ ∀ j, j < r.xs.length → a[j]? = some (vs j)) := by
          unfold RvOk at h0
          split at h0
          · rename_i ha
            obtain ⟨x, e, hh⟩ := h0
            refine ⟨fun _ => us 0, fun j y hj => ?_, fun _ => ⟨x, e, rfl⟩, fun h => by rw [ha] at h; cases h⟩
            rw [e] at hj
            cases j with
            | zero => cases hj; exact hh
            | succ j => simp at hj
          · rename_i ha
            obtain ⟨a, e, ee, hh⟩ := h0
            refine ⟨fun j => a.getD j undef, fun j x hj => ?_, fun h => (by rw [ha] at h; cases h), fun _ => ⟨a, e, ee, fun j hj => ?_⟩⟩
            · obtain ⟨u, hu, ho⟩ := hh j x hj
              have : a.getD j undef = u := by simp [Array.getD_eq_getD_getElem?, hu]
              show RxOk w I (F 0 j) (a.getD j undef) x
              rw [this]
              exact ho
            · have : j < a.size := by omega
              simp [this]
        obtain ⟨g1, i1, i2, i3, i4, i5, i6⟩ := resXs_ok vs (F 0) hm hl hI v1 (fun j x h => hF 0 j x h) (fun j j' x h h' => (hd _ _ _ _ x h h').2) e1
        obtain ⟨g2, j1, j2, j3, j4⟩ := resEs_ok (s := { s with regs := regs1 }) (fun k => us (k + 1)) (fun k => F (k + 1)) i2 (hl.step i1) i6 (fun k r hk => hx (k + 1) r hk)
          (fun k j x hf => ⟨i5 x (hF _ _ x hf).1 fun j' _ h' => by have := (hd _ _ _ _ x hf h').1; omega, (hF _ _ x hf).2⟩)
          (fun k j k' j' x h h' => by have := hd _ _ _ _ x h h'; omega) e2
        refine ⟨g2, i1.trans j1, j2, by simp [j3], fun k p hk => ?_⟩
        cases k with
        | zero =>
          cases hk
          refine ValsOk.step (agg := r.agg) (xs := xs1) j1 ?_
          cases hagg : r.agg with
          | false =>
            obtain ⟨x, q1, q2⟩ := v2 hagg
            rw [q1] at i3
            cases xs1 with
            | nil => simp at i3
            | cons y t =>
              have : t = [] := by simpa using i3
              subst this
              refine ⟨y, rfl, ?_⟩
              rw [q2]
              exact i4 0 y rfl
          | true =>
            obtain ⟨a, q1, q2, q3⟩ := v3 hagg
            refine ⟨a, q1, by rw [q2, i3], fun j y hj => ⟨vs j, q3 j ?_, i4 j y hj⟩⟩
            rw [← i3]
            exact (List.getElem?_eq_some_iff.1 hj).1
        | succ k => exact j4 k p hk
      · cases e
    · cases e

end
end Go.Proofs.Ytppfojiogappaaa.V
