/- A function's start; from a function's text to what it is known to do. -/
import Derived.Test.YtppfojiogappaaaVX
set_option linter.unusedVariables false
set_option linter.unusedSimpArgs false
namespace Go.Proofs.Ytppfojiogappaaa.V
open Go Classical

def ptE (wr : Option Nat) (b : Nat) : V.E :=
  match wr with
  | none => .bptr b 0 0
  | some f => .clo f b 0

/-- The state at a function's start: argument 'i' in slot 'i', its variable or its slice under the same number. -/
def initS : Nat → List AV → S
  | _, [] => ⟨[], [], []⟩
  | i, .rdv agg cs :: as => (match rXs none cs with
    | some xs => { initS (i + 1) as with slots := put (initS (i + 1) as).slots i (.vals agg xs) }
    | none => initS (i + 1) as)
  | i, .own n es :: as => { initS (i + 1) as with slots := put (initS (i + 1) as).slots i (.vals false [.ref i 0]), regs := put (initS (i + 1) as).regs i ⟨true, 0, 0, false, n, es⟩ }
  | i, .mptr wr cs :: as => (match rXs none cs with
    | some xs => { initS (i + 1) as with slots := put (initS (i + 1) as).slots i (ptE wr (i + 1000000)), boxes := put (initS (i + 1) as).boxes (i + 1000000) ⟨0, xs⟩ }
    | none => initS (i + 1) as)
  | i, .nilv n :: as => { initS (i + 1) as with slots := put (initS (i + 1) as).slots i (.vals false [.nil n]) }
  | i, .rptr row :: as => { initS (i + 1) as with slots := put (initS (i + 1) as).slots i (.rptr none row 0) }

section
variable {P : Program} {w0 : World} {A : AA} {B : List (Nat × Nat × Nat)} {nt : Nat} {E : Env}

noncomputable def G.take (g : G) (b : Nat) (p : Nat × Nat) : G := { g with ow := fun x => if x = p.1 then .box b else g.ow x, loc := fun c => if c = b then p else g.loc c }

theorem take_loc_ne {g : G} {b c : Nat} {p : Nat × Nat} (h : c ≠ b) : (g.take b p).loc c = g.loc c := by simp [G.take, h]

/-- A variable that came in gets a name. -/
theorem Mem.takeBox {g : G} {S : V.S} {w : World} (hm : Mem w0 A B g S w) (b : Nat) (p : Nat × Nat) (xs : List X) (hno : get S.boxes b = none) (htag : g.ow p.1 = .none) (hlt : p.1 < w.heap.size) (hB : (p.1, p.2, xs.length) ∈ B)
    (cs : Array Value) (e : TypeId) (hc : w.heap[p.1]? = some (.cells cs e (0, 0))) (hsz : p.2 + xs.length ≤ cs.size) (hcell : ∀ (j : Nat) (y : X), xs[j]? = some y → ∃ u, cs[p.2 + j]? = some u ∧ u.oneCell' = true ∧ XOk w g S.regs u y)
    (hpb : ∀ b, ¬ A.pb b) :
    Step g S w (g.take b p) { S with boxes := put S.boxes b ⟨0, xs⟩ } w ∧ Mem w0 A B (g.take b p) { S with boxes := put S.boxes b ⟨0, xs⟩ } w := by
  have hn : ∀ x, g.ow x ≠ .none → x ≠ p.1 := fun x hx e => hx (by rw [e]; exact htag)
  have how : ∀ x, g.ow x ≠ .none → (g.take b p).ow x = g.ow x := fun x hx => by simp [G.take, hn x hx]
  have hback : ∀ x t, t ≠ .box b → (g.take b p).ow x = t → g.ow x = t := fun x t ht h => by
    by_cases hx : x = p.1
    · simp only [G.take, hx, if_true] at h
      exact absurd h.symm ht
    · simpa [G.take, hx] using h
  have hst : Step g S w (g.take b p) { S with boxes := put S.boxes b ⟨0, xs⟩ } w := by
    refine ⟨fun x hi => ⟨(how x (by rw [hi]; simp)).trans hi, rfl⟩, fun h r hr => ?_, fun c x hb => ?_⟩
    · exact ⟨r, hr, Nat.le_refl _, Nat.le_refl _, fun hl _ => ⟨hl, rfl, rfl, rfl⟩, fun hl _ => ⟨hl, rfl, fun x hx => ⟨(how x (by rw [hx]; simp)).trans hx, rfl⟩⟩⟩
    · by_cases h : b = c
      · subst h
        rw [hno] at hb
        cases hb
      · exact ⟨x, by simp [get_put_ne _ _ h, hb], Nat.le_refl _, fun _ => by simp [G.take, Ne.symm h]⟩
  refine ⟨hst, hm.ext, fun x hx => ?_, fun x h hx => hm.fr x h (hback x _ (by simp) hx), fun h r hr hl => ?_, fun c x hb => ?_, fun x hx => hm.im x (hback x _ (by simp) hx), fun c hc => (hpb c hc).elim⟩
  · by_cases h : x = p.1
    · rw [h]; exact hlt
    · exact hm.lt x (by simpa [G.take, h] using hx)
  · refine (hm.regs h r hr hl).frame (fun x hx => ?_) (fun x hx => ?_) (fun _ _ => rfl) (fun _ _ => rfl)
    · cases hp : r.pure with
      | true => rw [hp] at hx; exact hx.elim
      | false =>
        rw [hp] at hx
        have hx' : g.ow x = .imm := hx
        exact (how x (by rw [hx']; simp)).trans hx'
    · have hx' : g.ow x = .reg h := hx
      exact (how x (by rw [hx']; simp)).trans hx'
  · simp only [get_put] at hb
    by_cases h : b = c
    · subst h
      simp only [if_true, Option.some.injEq] at hb
      subst hb
      have hl : (g.take b p).loc b = p := by simp [G.take]
      unfold BoxOk
      rw [hl]
      refine ⟨by simp [G.take], .inr hB, cs, e, hc, hsz, fun j y hj => ?_⟩
      obtain ⟨u, hu, h1, ho⟩ := hcell j y hj
      exact ⟨u, hu, h1, ho.step hst⟩
    · rw [if_neg h] at hb
      have ho := hm.boxes c x hb
      exact BoxOk.step hst ho (by simp [G.take, Ne.symm h]) ((how _ (by rw [ho.1]; simp)).trans ho.1) rfl

theorem rXs_ok {w : World} {g : G} {regs : List (Nat × Reg)} {I : Nat → Prop} (hI : ∀ x, I x → g.I x) {cs : List C} {xs : List X} (h : rXs none cs = some xs) : xs.length = cs.length ∧ ∀ (j : Nat) (x : X), xs[j]? = some x → ∃ c, cs[j]? = some c ∧ ∀ u, Rd w I u c → XOk w g regs u x := by
  obtain ⟨h1, h2⟩ := rXs_at h
  refine ⟨h1, fun j x hj => ?_⟩
  obtain ⟨c, hc, hx⟩ := h2 j x hj
  refine ⟨c, hc, fun u hu => ?_⟩
  cases c with
  | sc v => cases hx; cases hu; exact rfl
  | any => cases hx
  | sl own n es =>
    cases hx
    exact hu.flag.frame hI fun _ _ => rfl

theorem init_ok {w : World} {I : Nat → Prop} (hA : A.i = I) (hpb : ∀ b, ¬ A.pb b) (hI : ∀ x, I x → x < w.heap.size) : ∀ {as : List AV} {i : Nat} {vs : List Value} {Fs : List (Nat → Prop)}, ArgsOk w I as vs Fs → Apart Fs → (∀ F ∈ Fs, ∀ x, F x → ¬ I x ∧ x < w.heap.size) →
    (∀ x, aOf as Fs x → A x) → (∀ p ∈ bOf as vs, p ∈ B) →
    ∃ g, Mem w A B g (initS i as) w ∧ vs.length = as.length ∧ (∀ d e, get (initS i as).slots d = some e → i ≤ d ∧ ∃ v, vs[d - i]? = some v ∧ EOk w g (initS i as).boxes (initS i as).regs v e) ∧
      (∀ d r, get (initS i as).regs d = some r → i ≤ d) ∧ (∀ d x, get (initS i as).boxes d = some x → i + 1000000 ≤ d) ∧
      (∀ x, g.ow x = .none ∨ I x ∨ ∃ F ∈ Fs, F x) ∧ (∀ x, I x → g.ow x = .imm) ∧
      (∀ (j : Nat) (wr : Option Nat) (cs : List C) (y : Box), as[j]? = some (.mptr wr cs) → get (initS i as).boxes (i + j + 1000000) = some y → vs[j]? = some (ptV wr (g.loc (i + j + 1000000)).1 (g.loc (i + j + 1000000)).2))
  | [], i, [], [], h, hap, hF, ha, hb => by
    refine ⟨⟨fun x => if I x then .imm else .none, fun _ => undef, fun _ => (0, 0)⟩, ⟨⟨rfl, rfl, rfl, Nat.le_refl _, fun _ _ _ _ => rfl, fun p _ _ cs e fr hc => ⟨cs, hc, rfl, fun _ _ => rfl⟩⟩, fun x hx => ?_, fun x h hx => ?_, fun h r hr => (by cases hr), fun b x hb => (by cases hb), fun x hx => ?_, fun c hc => (hpb c hc).elim⟩,
      rfl, fun d e hd => (by cases hd), fun d r hr => (by cases hr), fun d r hr => (by cases hr), fun x => ?_, fun x hx => by simp [hx], fun j wr cs y hj => (by simp at hj)⟩
    · by_cases h : I x
      · exact hI x h
      · simp [h] at hx
    · by_cases h : I x <;> simp [h] at hx
    · by_cases h : I x
      · exact .inl (by rw [hA]; exact h)
      · simp [h] at hx
    · by_cases h : I x
      · exact .inr (.inl h)
      · exact .inl (by simp [h])
  | a :: as, i, v :: vs, F :: Fs, h, hap, hF, ha, hb => by
    obtain ⟨h0, h⟩ := h
    obtain ⟨hap0, hap⟩ := hap
    have hb' : ∀ p ∈ bOf as vs, p ∈ B := fun p hp => hb p (by
      cases a with
      | mptr wr cs =>
        show p ∈ (match unP wr v with
          | some p => (p.1, p.2, cs.length) :: bOf as vs
          | none => bOf as vs)
        split
        · exact List.mem_cons_of_mem _ hp
        · exact hp
      | _ => exact hp)
    have ha' : ∀ x, aOf as Fs x → A x := fun x hx => ha x (by
      cases a with
      | own n es => exact .inr hx
      | _ => exact hx)
    obtain ⟨g, m1, m2, m3, m4, m5, m6, m7, m8⟩ := init_ok (i := i + 1) hA hpb hI h hap (fun F' hF' => hF F' (List.mem_cons_of_mem _ hF')) ha' hb'
    have hidx : ∀ d, i + 1 ≤ d → (v :: vs)[d - i]? = vs[d - (i + 1)]? := fun d hd => by
      rw [show d - i = (d - (i + 1)) + 1 by omega]
      rfl
    have hnone : ∀ x, F x → g.ow x = .none := fun x hx => by
      rcases m6 x with h | h | ⟨F', hF', h⟩
      · exact h
      · exact absurd h (hF F (List.mem_cons_self ..) x hx).1
      · exact absurd h (hap0 x hx F' hF')
    have old : ∀ {g' : G} {S' : S}, Step g (initS (i + 1) as) w g' S' w → ∀ d e, get (initS (i + 1) as).slots d = some e → i ≤ d ∧ ∃ u, (v :: vs)[d - i]? = some u ∧ EOk w g' S'.boxes S'.regs u e := fun hst d e hd => by
      obtain ⟨q1, u, q2, q3⟩ := m3 d e hd
      exact ⟨by omega, u, by rw [hidx d q1]; exact q2, q3.step hst⟩
    have hm8 : ∀ (a : AV) (g' : G), (∀ j, g'.loc (i + 1 + j + 1000000) = g.loc (i + 1 + j + 1000000)) → ∀ (bx : List (Nat × Box)), (∀ j, get bx (i + 1 + j + 1000000) = get (initS (i + 1) as).boxes (i + 1 + j + 1000000)) →
        (∀ (wr : Option Nat) (cs : List C) (y : Box), a = .mptr wr cs → get bx (i + 1000000) = some y → v = ptV wr (g'.loc (i + 1000000)).1 (g'.loc (i + 1000000)).2) →
        ∀ (j : Nat) (wr : Option Nat) (cs : List C) (y : Box), (a :: as)[j]? = some (.mptr wr cs) → get bx (i + j + 1000000) = some y → (v :: vs)[j]? = some (ptV wr (g'.loc (i + j + 1000000)).1 (g'.loc (i + j + 1000000)).2) := by
      intro a g' hl bx hbx h0 j wr cs y hj hy
      cases j with
      | zero =>
        cases hj
        have := h0 wr cs y rfl hy
        rw [this]
        rfl
      | succ j =>
        rw [show i + (j + 1) = i + 1 + j by omega] at hy ⊢
        rw [hbx] at hy
        rw [hl]
        exact m8 j wr cs y hj hy
    have same : initS i (a :: as) = initS (i + 1) as → (∀ wr cs, a = .mptr wr cs → get (initS (i + 1) as).boxes (i + 1000000) = none) → ∃ g, Mem w A B g (initS i (a :: as)) w ∧ (v :: vs).length = (a :: as).length ∧ (∀ d e, get (initS i (a :: as)).slots d = some e → i ≤ d ∧ ∃ u, (v :: vs)[d - i]? = some u ∧ EOk w g (initS i (a :: as)).boxes (initS i (a :: as)).regs u e) ∧
      (∀ d r, get (initS i (a :: as)).regs d = some r → i ≤ d) ∧ (∀ d x, get (initS i (a :: as)).boxes d = some x → i + 1000000 ≤ d) ∧
      (∀ x, g.ow x = .none ∨ I x ∨ ∃ F' ∈ F :: Fs, F' x) ∧ (∀ x, I x → g.ow x = .imm) ∧
      (∀ (j : Nat) (wr : Option Nat) (cs : List C) (y : Box), (a :: as)[j]? = some (.mptr wr cs) → get (initS i (a :: as)).boxes (i + j + 1000000) = some y → (v :: vs)[j]? = some (ptV wr (g.loc (i + j + 1000000)).1 (g.loc (i + j + 1000000)).2)) := by
      intro e hno
      rw [e]
      refine ⟨g, m1, by simp [m2], old (Step.refl g _ w), fun d r hr => by have := m4 d r hr; omega, fun d r hr => by have := m5 d r hr; omega, fun x => ?_, m7, hm8 a g (fun _ => rfl) _ (fun _ => rfl) fun wr cs y ea hy => ?_⟩
      · rcases m6 x with h | h | ⟨F', hF', h⟩
        · exact .inl h
        · exact .inr (.inl h)
        · exact .inr (.inr ⟨F', List.mem_cons_of_mem _ hF', h⟩)
      · rw [hno wr cs ea] at hy
        cases hy
    have noneAt : get (initS (i + 1) as).boxes (i + 1000000) = none := by
      cases hq : get (initS (i + 1) as).boxes (i + 1000000) with
      | none => rfl
      | some y => have := m5 _ y hq; omega
    have noneAtR : get (initS (i + 1) as).regs i = none := by
      cases hq : get (initS (i + 1) as).regs i with
      | none => rfl
      | some y => have := m4 i y hq; omega
    have slot : ∀ {g' : G} {S' : S} (e0 : V.E), Step g (initS (i + 1) as) w g' S' w → EOk w g' S'.boxes S'.regs v e0 → ∀ d e, get (put (initS (i + 1) as).slots i e0) d = some e → i ≤ d ∧ ∃ u, (v :: vs)[d - i]? = some u ∧ EOk w g' S'.boxes S'.regs u e := by
      intro g' S' e0 hst he d e hd
      simp only [get_put] at hd
      split at hd
      · rename_i hid
        subst hid
        cases hd
        exact ⟨Nat.le_refl _, v, by simp, he⟩
      · exact old hst d e hd
    have tags : ∀ x, g.ow x = .none ∨ I x ∨ ∃ F' ∈ F :: Fs, F' x := fun x => by
      rcases m6 x with h | h | ⟨F', hF', h⟩
      · exact .inl h
      · exact .inr (.inl h)
      · exact .inr (.inr ⟨F', List.mem_cons_of_mem _ hF', h⟩)
    have hIg : ∀ x, I x → g.I x := m7
    cases a with
    | rdv agg cs =>
      cases hx : rXs none cs with
      | none => exact same (by simp [initS, hx]) fun wr cs e => (by cases e)
      | some xs =>
        have e : initS i (.rdv agg cs :: as) = { initS (i + 1) as with slots := put (initS (i + 1) as).slots i (.vals agg xs) } := by simp [initS, hx]
        obtain ⟨x1, x2⟩ := rXs_ok (w := w) (g := g) (regs := (initS (i + 1) as).regs) hIg hx
        rw [e]
        refine ⟨g, ⟨m1.ext, m1.lt, m1.fr, m1.regs, m1.boxes, m1.im, m1.pl⟩, by simp [m2], slot (S' := initS (i + 1) as) _ (Step.refl g _ w) ?_, fun d r hr => by have := m4 d r hr; omega, fun d r hr => by have := m5 d r hr; omega, tags, m7, hm8 _ g (fun _ => rfl) _ (fun _ => rfl) fun wr cs y ea _ => (by cases ea)⟩
        show ValsOk w g (initS (i + 1) as).regs v agg xs
        cases agg with
        | false =>
          obtain ⟨c, hc, hrd⟩ := h0
          subst hc
          cases xs with
          | nil => simp at x1
          | cons y r =>
            have : r = [] := by simpa using x1
            subst this
            obtain ⟨c', hc', ho⟩ := x2 0 y rfl
            cases hc'
            exact ⟨y, rfl, ho v hrd⟩
        | true =>
          obtain ⟨us, hv, hsz, hus⟩ := h0
          refine ⟨us, hv, by rw [hsz, x1], fun j x hj => ?_⟩
          obtain ⟨c, hc, ho⟩ := x2 j x hj
          obtain ⟨u, hu, hr⟩ := hus j c hc
          exact ⟨u, hu, ho u hr⟩
    | own n es =>
      have e : initS i (.own n es :: as) = { initS (i + 1) as with slots := put (initS (i + 1) as).slots i (.vals false [.ref i 0]), regs := put (initS (i + 1) as).regs i ⟨true, 0, 0, false, n, es⟩ } := rfl
      have h0 : Own w I F v (.sl true n es) := h0
      obtain ⟨st, mm⟩ := m1.adopt i ⟨true, 0, 0, false, n, es⟩ F v (fun x hx => ⟨hnone x hx, (hF F (List.mem_cons_self ..) x hx).2, .inl (ha x (.inl hx))⟩) (h0.frame (fun x hx => hIg x hx) (fun _ h => h) (fun _ _ => rfl) (fun _ _ => rfl))
        (fun r hr => by rw [noneAtR] at hr; cases hr)
      rw [e]
      refine ⟨g.adopt i F v, ⟨mm.ext, mm.lt, mm.fr, mm.regs, mm.boxes, mm.im, mm.pl⟩, by simp [m2], slot _ (st.slots (initS (i + 1) as).slots _) ⟨_, rfl, ⟨true, 0, 0, false, n, es⟩, get_put_same _ _ _, Nat.le_refl _, fun _ _ => by simp [G.adopt]⟩, fun d r hr => ?_, fun d r hr => by have := m5 d r hr; omega, fun x => ?_, fun x hx => (st.im x (m7 x hx)).1,
        hm8 _ _ (fun _ => rfl) _ (fun _ => rfl) fun wr cs y ea _ => (by cases ea)⟩
      · simp only [get_put] at hr
        split at hr
        · omega
        · have := m4 d r hr; omega
      · by_cases hx : F x
        · exact .inr (.inr ⟨F, List.mem_cons_self .., hx⟩)
        · have : (g.adopt i F v).ow x = g.ow x := by simp [G.adopt, hx]
          rw [this]
          exact tags x
    | mptr wr cs =>
      cases hx : rXs none cs with
      | none => exact same (by simp [initS, hx]) fun _ _ e => noneAt
      | some xs =>
        have e : initS i (.mptr wr cs :: as) = { initS (i + 1) as with slots := put (initS (i + 1) as).slots i (ptE wr (i + 1000000)), boxes := put (initS (i + 1) as).boxes (i + 1000000) ⟨0, xs⟩ } := by simp [initS, hx]
        obtain ⟨x1, x2⟩ := rXs_ok (w := w) (g := g) (regs := (initS (i + 1) as).regs) hIg hx
        obtain ⟨p, hv, hFp, bcs, ty, r1, r2, r3⟩ := h0
        obtain ⟨st, mm⟩ := m1.takeBox (i + 1000000) p xs noneAt (hnone _ hFp) (hF F (List.mem_cons_self ..) _ hFp).2 (hb _ (by rw [hv, x1]; unfold bOf; rw [unP_ptV]; exact List.mem_cons_self ..)) bcs ty r1 (by rw [x1]; exact r2) (fun j y hj => by
          obtain ⟨c, hc, ho⟩ := x2 j y hj
          obtain ⟨u, hu, h1, hr⟩ := r3 j c hc
          exact ⟨u, hu, h1, ho u hr⟩) hpb
        rw [e]
        refine ⟨g.take (i + 1000000) p, ⟨mm.ext, mm.lt, mm.fr, mm.regs, mm.boxes, mm.im, mm.pl⟩, by simp [m2], slot _ (st.slots (initS (i + 1) as).slots _) (by cases wr <;> exact ⟨⟨0, xs⟩, get_put_same _ _ _, Nat.le_refl _, fun _ => by rw [hv]; simp [G.take, ptV]⟩), fun d r hr => by have := m4 d r hr; omega, fun d r hr => ?_, fun x => ?_, fun x hx => (st.im x (m7 x hx)).1,
          hm8 _ _ (fun j => ?_) _ (fun j => ?_) fun wr' cs' y ea _ => ?_⟩
        · simp only [get_put] at hr
          split at hr
          · omega
          · have := m5 d r hr; omega
        · by_cases hx : x = p.1
          · exact .inr (.inr ⟨F, List.mem_cons_self .., by rw [hx]; exact hFp⟩)
          · have : (g.take (i + 1000000) p).ow x = g.ow x := by simp [G.take, hx]
            rw [this]
            exact tags x
        · have : i + 1 + j + 1000000 ≠ i + 1000000 := by omega
          exact take_loc_ne this
        · have : i + 1000000 ≠ i + 1 + j + 1000000 := by omega
          exact get_put_ne _ _ this
        · cases ea
          rw [hv]
          simp [G.take]
    | nilv n =>
      have e : initS i (.nilv n :: as) = { initS (i + 1) as with slots := put (initS (i + 1) as).slots i (.vals false [.nil n]) } := rfl
      rw [e]
      exact ⟨g, ⟨m1.ext, m1.lt, m1.fr, m1.regs, m1.boxes, m1.im, m1.pl⟩, by simp [m2],
        slot (S' := initS (i + 1) as) (.vals false [.nil n]) (Step.refl g _ w) ⟨_, rfl, h0⟩, fun d r hr => by have := m4 d r hr; omega, fun d r hr => by have := m5 d r hr; omega, tags, m7,
        hm8 _ g (fun _ => rfl) _ (fun _ => rfl) fun wr cs y ea _ => (by cases ea)⟩
    | rptr row =>
      have e : initS i (.rptr row :: as) = { initS (i + 1) as with slots := put (initS (i + 1) as).slots i (.rptr none row 0) } := rfl
      rw [e]
      obtain ⟨b, o, hv, hIb, hrow⟩ := h0
      exact ⟨g, ⟨m1.ext, m1.lt, m1.fr, m1.regs, m1.boxes, m1.im, m1.pl⟩, by simp [m2],
        slot (S' := initS (i + 1) as) (.rptr none row 0) (Step.refl g _ w) ⟨b, o, hv, hIg b hIb, fun j c hj => let ⟨u, hu, hr⟩ := hrow j c hj; ⟨u, hu, hr.frame hIg fun _ _ => rfl⟩⟩, fun d r hr => by have := m4 d r hr; omega, fun d r hr => by have := m5 d r hr; omega, tags, m7,
        hm8 _ g (fun _ => rfl) _ (fun _ => rfl) fun wr cs y ea _ => (by cases ea)⟩
  | [], _, [], _ :: _, h, _, _, _, _ => h.elim
  | [], _, _ :: _, [], h, _, _, _, _ => h.elim
  | [], _, _ :: _, _ :: _, h, _, _, _, _ => h.elim
  | _ :: _, _, [], [], h, _, _, _, _ => h.elim
  | _ :: _, _, [], _ :: _, h, _, _, _, _ => h.elim
  | _ :: _, _, _ :: _, [], h, _, _, _, _ => h.elim

def boxesOk (b : List (Nat × Box)) : Nat → List AV → Bool
  | _, [] => true
  | i, .mptr _ _ :: as => (match get b (i + 1000000) with
    | some _ => boxesOk b (i + 1) as
    | none => false)
  | i, _ :: as => boxesOk b (i + 1) as

theorem boxesOk_at {b : List (Nat × Box)} : ∀ {as : List AV} {i j : Nat} {wr : Option Nat} {cs : List C}, boxesOk b i as = true → as[j]? = some (.mptr wr cs) → ∃ y, get b (i + j + 1000000) = some y
  | [], i, j, wr, cs, h, hj => by simp at hj
  | a :: as, i, j, wr, cs, h, hj => by
    cases j with
    | zero =>
      cases hj
      simp only [boxesOk] at h
      split at h
      · exact ⟨_, by assumption⟩
      · cases h
    | succ j =>
      have h' : boxesOk b (i + 1) as = true := by
        cases a with
        | mptr wr' c =>
          simp only [boxesOk] at h
          split at h
          · exact h
          · cases h
        | _ => exact h
      rw [show i + (j + 1) = i + 1 + j by omega]
      exact boxesOk_at h' hj

def noPtr : List AV → Bool
  | [] => true
  | .mptr _ _ :: _ => false
  | _ :: r => noPtr r
/-- A variable is what comes back. -/
def isBp (s : S) : List ResultVar → Option (Nat × Nat)
  | [.tmp t] => (match get s.slots t with
    | some (.bptr b g 0) => some (b, g)
    | _ => none)
  | _ => none
def endB (as : List AV) (post : List RV → List (List C) → Prop) (s : S) (p : Nat × Nat) : Prop :=
  match boxAt s p.1 p.2 with
  | some cs => (match noPtr as with
    | true => xCs s cs fun l o => post [⟨false, [.box o]⟩] []
    | false => False)
  | none => False
def endF (E : Env) (asRd : Bool) (results : List ResultVar) (as : List AV) (post : List RV → List (List C) → Prop) (e : Exit) (s : S) : Prop :=
  match boxesOk (initS 0 as).boxes 0 as with
  | true => (match e with
    | .ret => (match isBp s results with
      | some p => endB as post s p
      | none => endW E asRd results as post .ret s)
    | e => endW E asRd results as post e s)
  | false => False

theorem noPtr_b : ∀ {as : List AV} {vs : List Value}, noPtr as = true → bOf as vs = []
  | [], _, _ => by unfold bOf; rfl
  | .mptr _ _ :: _, _, h => by cases h
  | .rdv _ _ :: r, [], h => by unfold bOf; rfl
  | .own _ _ :: r, [], h => by unfold bOf; rfl
  | .rptr _ :: r, [], h => by unfold bOf; rfl
  | .nilv _ :: r, [], h => by unfold bOf; rfl
  | .rdv _ _ :: r, v :: vs, h => by unfold bOf; exact noPtr_b (as := r) h
  | .own _ _ :: r, v :: vs, h => by unfold bOf; exact noPtr_b (as := r) h
  | .rptr _ :: r, v :: vs, h => by unfold bOf; exact noPtr_b (as := r) h
  | .nilv _ :: r, v :: vs, h => by unfold bOf; exact noPtr_b (as := r) h
theorem noPtr_outs {w : World} {I : Nat → Prop} : ∀ {as : List AV} {vs : List Value}, noPtr as = true → vs.length = as.length → OutsOk w I as vs []
  | [], [], _, _ => trivial
  | [], _ :: _, _, hl => by simp at hl
  | a :: _, [], _, hl => by simp at hl
  | .mptr _ _ :: _, _ :: _, h, _ => by cases h
  | .rdv _ _ :: r, v :: vs, h, hl => noPtr_outs (as := r) h (by simpa using hl)
  | .own _ _ :: r, v :: vs, h, hl => noPtr_outs (as := r) h (by simpa using hl)
  | .rptr _ :: r, v :: vs, h, hl => noPtr_outs (as := r) h (by simpa using hl)
  | .nilv _ :: r, v :: vs, h, hl => noPtr_outs (as := r) h (by simpa using hl)

theorem aOf_lt {w : World} {I : Nat → Prop} : ∀ {as : List AV} {Fs : List (Nat → Prop)}, (∀ F ∈ Fs, ∀ x, F x → ¬ I x ∧ x < w.heap.size) → ∀ x, aOf as Fs x → x < w.heap.size
  | [], _, _, x, h => h.elim
  | a9 :: _, [], _, x, h => by
    exfalso
    cases a9 <;> exact h
  | a :: as, F :: Fs, hF, x, h => by
    rcases aOf_cons h with h | h
    · cases a with
      | own n es =>
        rcases h with h | h
        · exact (hF F (List.mem_cons_self ..) x h).2
        · exact h.elim
      | _ => exact h.elim
    · exact aOf_lt (fun F' hF' => hF F' (List.mem_cons_of_mem _ hF')) x h

theorem results_of {fn : Func} {tmps : Array Value} {w : World} {vs : List Value} (f : ResultVar → Sem Value) (hf : ∀ u, f (.tmp u) = pure (tmps.getD u undef)) (hc : ∀ b t, f (.cell b t) = (do loadVar t (← asAddr (tmps.getD b undef))))
    (h : (fn.results.toList.mapM f).run P w = .ok vs w) : (results fn tmps).run P w = .ok (if h : vs.toArray.size = 1 then vs.toArray[0] else .tuple vs.toArray) w := by
  have key : ∀ g : ResultVar → Sem Value, (∀ u, g (.tmp u) = pure (tmps.getD u undef)) → (∀ b t, g (.cell b t) = (do loadVar t (← asAddr (tmps.getD b undef)))) → (fn.results.toList.mapM g).run P w = .ok vs w := by
    intro g h1 h2
    have : g = f := by
      funext x
      cases x with
      | tmp u => rw [h1, hf]
      | cell b t => rw [h2, hc]
    rw [this]
    exact h
  unfold results
  have e : fn.results = fn.results.toList.toArray := by simp
  rw [e, List.mapM_toArray]
  simp only [Sem.run_bind, Sem.run_map]
  rw [key]
  · simp
  · intro u
    rfl
  · intro a t
    rfl

/-- From a function's text to what it does. -/
theorem fn_ok (hτ : ∀ t d, E.τ t = some d → TyOk P t d) (hmix : P.follows .mixedOrders = true) {f : Nat} {fn : Func} {c : Code} (hf : P.funcs[f]? = some fn) (hname : (fn.name == "runtime.NumGoroutine") = false) (hb : fn.body = some c)
    {as : List AV} {post : List RV → List (List C) → Prop} (asRd : Bool) (hnt : as.length ≤ fn.ntmps) (hW : W P E fn.ntmps c (endF E asRd fn.results.toList as post) (initS 0 as)) : FnV P f as post := by
  rw [FnV_eq]
  refine ⟨⟨fn, c, hf, hname, hb⟩, fun w I Fs vs hargs hap hF hI => ?_⟩
  obtain ⟨g, m1, m2, m3, m4, m5, m6, m7, m8⟩ := init_ok (A := ⟨aOf as Fs, I, fun _ => False, fun _ => (0, 0)⟩) (B := bOf as vs) rfl (fun _ h => h) hI (i := 0) hargs hap hF (fun x h => h) (fun p h => h)
  let A : AA := ⟨aOf as Fs, I, fun b => ∃ y, get (initS 0 as).boxes b = some y, g.loc⟩
  refine calls_of_wp hf hb ?_
  have hsz : vs.toArray.size = as.length := by simp [m2]
  have hreal : Real w A (bOf as vs) fn.ntmps (initS 0 as) { tmps := vs.toArray ++ Array.replicate (fn.ntmps - vs.toArray.size) undef, defers := [] } w := by
    refine ⟨rfl, by simp [m2]; omega, g, ⟨⟨m1.ext.os, m1.ext.tape, m1.ext.output, m1.ext.size, m1.ext.keep, m1.ext.rng⟩, m1.lt, m1.fr, m1.regs, m1.boxes, m1.im, fun b hb => let ⟨y, hy⟩ := hb; ⟨by have := m5 b y hy; omega, y, hy, fun _ => rfl⟩⟩, fun d e hd => ?_⟩
    obtain ⟨_, v, hv, he⟩ := m3 d e hd
    simp only [Nat.sub_zero] at hv
    have hlt : d < vs.length := (List.getElem?_eq_some_iff.1 hv).1
    refine ⟨by omega, ?_⟩
    have : (vs.toArray ++ Array.replicate (fn.ntmps - vs.toArray.size) undef).getD d undef = v := by
      rw [Array.getD_eq_getD_getElem?, Array.getElem?_append_left (by simpa using hlt)]
      simp [hv]
    rw [this]
    exact he
  refine wp_mono (W_sound hτ hmix c _ hreal hW) fun e a' w' hq => ?_
  obtain ⟨_, s, ⟨hdf, hsz', g', hm, hs⟩, hq⟩ := hq
  have finB : ∀ p, isBp s fn.results.toList = some p → endB as post s p → a'.defers = [] ∧ ∃ v, (results fn a'.tmps).run P w' = .ok v w' ∧
      ∃ v' rs outs, Ending.returned v = .returned v' ∧ post rs outs ∧ Back w I (aOf as Fs) (bOf as vs) as vs w' v' rs outs := by
    intro p hbp hq
    refine ⟨hdf, ?_⟩
    obtain ⟨t, ht, he⟩ : ∃ t, fn.results.toList = [.tmp t] ∧ get s.slots t = some (.bptr p.1 p.2 0) := by
      unfold isBp at hbp
      split at hbp
      · rename_i t hres
        split at hbp
        · rename_i b gg hsl
          cases hbp
          exact ⟨t, hres, hsl⟩
        · cases hbp
      · cases hbp
    unfold endB at hq
    split at hq
    case h_2 => exact hq.elim
    rename_i cs hcs
    split at hq
    case h_2 => exact hq.elim
    rename_i hnp
    obtain ⟨y, h1, h2, h3⟩ := boxAt_some hcs
    obtain ⟨y', h4, h5, h6⟩ := (hs t _ he).2
    rw [h1] at h4
    cases h4
    have hv := h6 h2.symm
    obtain ⟨hob, hfr, bcs, e, b3, b4, b5⟩ := hm.boxes p.1 y h1
    rw [noPtr_b hnp] at hfr
    have hfresh : w.heap.size ≤ (g'.loc p.1).1 := hfr.resolve_right (by simp)
    rw [h3] at b4 b5
    obtain ⟨l, o, i1, i2, i3, i4⟩ := xCs_ok hm cs (fun j => bcs.getD ((g'.loc p.1).2 + j) undef) _ (fun j y hj => by
      obtain ⟨u, hu, _, ho⟩ := b5 j y hj
      have : bcs.getD ((g'.loc p.1).2 + j) undef = u := by simp [Array.getD_eq_getD_getElem?, hu]
      rw [this]
      exact ho) hq
    let fr : ResultVar → Sem Value := fun
      | .tmp t => pure (a'.tmps.getD t undef)
      | .cell a t => do loadVar t (← asAddr (a'.tmps.getD a undef))
    have hrun : (fn.results.toList.mapM fr).run P w' = .ok [a'.tmps.getD t undef] w' := by
      rw [ht]
      simp [List.mapM_cons, fr]
    refine ⟨_, results_of fr (fun _ => rfl) (fun _ _ => rfl) hrun, _, [⟨false, [.box o]⟩], [], rfl, i1, ⟨hm.ext.os, hm.ext.tape, hm.ext.output, hm.ext.size, hm.ext.keep, hm.ext.rng⟩, #[a'.tmps.getD t undef], IL g' l, fun k j x => k = 0 ∧ j = 0 ∧ x = (g'.loc p.1).1, ⟨rfl, rfl⟩, fun k r hk => ?_, noPtr_outs hnp m2, fun x hx => ?_, fun k j x hx => ?_, fun k j k' j' x hx hx' => ⟨by rw [hx.1, hx'.1], by rw [hx.2.1, hx'.2.1]⟩⟩
    · cases k with
      | succ k => simp at hk
      | zero =>
        cases hk
        refine ⟨a'.tmps.getD t undef, rfl, .box o, rfl, g'.loc p.1, by rw [hv]; simp, ⟨rfl, rfl, rfl⟩, bcs, e, b3, by rw [i3]; exact b4, fun j c hj => ?_⟩
        have hj' : j < cs.length := by rw [← i3]; exact (List.getElem?_eq_some_iff.1 hj).1
        obtain ⟨u, hu, hone, _⟩ := b5 j cs[j] (List.getElem?_eq_getElem hj')
        have h12 := i4 j c hj
        have : bcs.getD ((g'.loc p.1).2 + j) undef = u := by simp [Array.getD_eq_getD_getElem?, hu]
        rw [this] at h12
        exact ⟨u, hu, hone, h12⟩
    · refine ⟨hm.lt x (by rcases hx with h | ⟨p, _, h⟩ <;> rw [h] <;> simp), ?_⟩
      rcases hx with h | ⟨p, _, h⟩
      · exact hm.im x h
      · exact .inr (hm.fr x _ h)
    · obtain ⟨_, _, rfl⟩ := hx
      refine ⟨hm.lt _ (by rw [hob]; simp), .inr hfresh, ?_⟩
      rintro (h | ⟨p, hp, h⟩)
      · rw [hob] at h; cases h
      · rw [hob] at h; cases h
  have fin : endW E asRd fn.results.toList as post .ret s → boxesOk (initS 0 as).boxes 0 as = true → a'.defers = [] ∧ ∃ v, (results fn a'.tmps).run P w' = .ok v w' ∧
      ∃ v' rs outs, Ending.returned v = .returned v' ∧ post rs outs ∧ Back w I (aOf as Fs) (bOf as vs) as vs w' v' rs outs := by
    intro hq hbk
    refine ⟨hdf, ?_⟩
    obtain ⟨l, O, rs, us, F, h1, h2, h3, h4, h5, h6, h7⟩ := retsW_ok hτ hm hs (fun | .tmp t => pure (a'.tmps.getD t undef) | .cell a t => do loadVar t (← asAddr (a'.tmps.getD a undef))) (fun _ => rfl) (fun _ _ => rfl) hq
    obtain ⟨l', outs, i1, i2, i3⟩ := outsW_ok hm (i := 0) m2 (fun j wr cs hj x hx hg => by
      have hb0 : ∃ y, get (initS 0 as).boxes (0 + j + 1000000) = some y := boxesOk_at hbk hj
      obtain ⟨y, hy⟩ := hb0
      obtain ⟨_, x', hx', hl⟩ := hm.pl (0 + j + 1000000) ⟨y, hy⟩
      rw [hx] at hx'
      cases hx'
      rw [hl hg]
      exact m8 j wr cs y hj hy) h1
    split at i1
    case h_2 => exact i1.elim
    rename_i hdO
    split at i1
    case h_2 => exact i1.elim
    rename_i hdl
    have hdl := apartL_spec hdl
    have hlv := h2.app i2
    refine ⟨_, results_of _ (fun _ => rfl) (fun _ _ => rfl) h5, _, rs, outs, rfl, i1, ⟨hm.ext.os, hm.ext.tape, hm.ext.output, hm.ext.size, hm.ext.keep, hm.ext.rng⟩, us.toArray, IL g' (l ++ l'), F, ⟨by simp [h4], rfl⟩, fun k r hk => ?_, i3 _ fun b hb => IL_app_right hb, fun x hx => ?_, fun k j x hx => ?_, fun k j k' j' x => h6 hdO k j k' j' x⟩
    · obtain ⟨v, hv, ho⟩ := h7 _ (fun b hb => IL_app_left hb) k r hk
      exact ⟨v, by simpa using hv, ho⟩
    · refine ⟨hm.lt x (by rcases hx with h | ⟨p, _, h⟩ <;> rw [h] <;> simp), ?_⟩
      rcases hx with h | ⟨p, _, h⟩
      · exact hm.im x h
      · exact .inr (hm.fr x _ h)
    · obtain ⟨c, hc, e⟩ := h3 k j x hx
      refine ⟨hm.lt x (by rw [e]; simp), hm.fr x _ e, ?_⟩
      rintro (h | ⟨p, hp, h⟩)
      · rw [e] at h; cases h
      · rw [e] at h
        cases h
        have := hdl p hp
        rw [memb_mem.2 hc] at this
        cases this
  unfold endF at hq
  split at hq
  case h_2 => exact hq.elim
  rename_i hbk
  cases e with
  | normal => exact fin hq hbk
  | ret =>
    simp only at hq
    split at hq
    · rename_i p hp
      exact finB p hp hq
    · exact fin hq hbk
  | _ =>
    exfalso
    exact hq

end
end Go.Proofs.Ytppfojiogappaaa.V
