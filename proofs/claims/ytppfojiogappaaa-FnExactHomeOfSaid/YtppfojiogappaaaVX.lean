/- What comes back out of a function. -/
import Derived.Test.YtppfojiogappaaaVW
set_option linter.unusedVariables false
set_option linter.unusedSimpArgs false
namespace Go.Proofs.Ytppfojiogappaaa.V
open Go Classical

def rxW (asRd : Bool) (s : S) (x : X) (k : List (Nat × Nat) → List Nat → RX → Prop) : Prop :=
  match asRd, x with
  | false, .ref h g => (match regAt s h g with
    | some r => k [] [h] (.own r.pure r.n r.es)
    | none => False)
  | false, .sub h g lo hi => (match regAt s h g with
    | some r => k [] [h] (.own r.pure r.n ((r.es.take hi).drop lo))
    | none => False)
  | false, .nil n => k [] [] (.own true n [])
  | _, x => xC s x fun l c => k l [] (.rd c)

def rxsW (asRd : Bool) (s : S) : List X → (List (Nat × Nat) → List Nat → List RX → Prop) → Prop
  | [], k => k [] [] []
  | x :: r, k => rxW asRd s x fun l o y => rxsW asRd s r fun l' o' ys => k (l ++ l') (o ++ o') (y :: ys)

def retsW (E : Env) (asRd : Bool) (s : S) : List ResultVar → (List (Nat × Nat) → List Nat → List RV → Prop) → Prop
  | [], k => k [] [] []
  | .tmp t :: r, k => (match get s.slots t with
    | some (.vals agg xs) => rxsW asRd s xs fun l o ys => retsW E asRd s r fun l' o' rs => k (l ++ l') (o ++ o') (⟨agg, ys⟩ :: rs)
    | _ => False)
  | .cell t ty :: r, k => (match get s.slots t with
    | some (.bptr b g 0) => (match boxAt s b g with
      | some cs => (match E.τ ty with
        | some d => (match okKind d.kind with
          | true => (match mkE d cs with
            | some (.vals agg xs) => rxsW asRd s xs fun l o ys => retsW E asRd s r fun l' o' rs => k (l ++ l') (o ++ o') (⟨agg, ys⟩ :: rs)
            | _ => False)
          | false => False)
        | none => False)
      | none => False)
    | _ => False)

def outsW (s : S) : Nat → List AV → (List (Nat × Nat) → List (List C) → Prop) → Prop
  | _, [], k => k [] []
  | i, .mptr _ cs :: as, k => (match get s.boxes (i + 1000000) with
    | some x => if x.gen = 0 then (if x.cells.length = cs.length then xCs s x.cells fun l o => outsW s (i + 1) as fun l' os => k (l ++ l') (o :: os) else False) else False
    | none => False)
  | i, _ :: as, k => outsW s (i + 1) as k

def endW (E : Env) (asRd : Bool) (results : List ResultVar) (as : List AV) (post : List RV → List (List C) → Prop) (e : Exit) (s : S) : Prop :=
  match e with
  | .ret | .normal => retsW E asRd s results fun l O rs => outsW s 0 as fun l' outs =>
    (match noDup O with
    | true => (match apartL (l ++ l') O with
      | true => post rs outs
      | false => False)
    | false => False)
  | _ => False

section
variable {P : Program} {w0 : World} {A : AA} {B : List (Nat × Nat × Nat)} {nt : Nat} {E : Env}

theorem IL_mono {g : G} {l l' : List (Nat × Nat)} (h : ∀ p ∈ l, p ∈ l') {x : Nat} (hx : IL g l x) : IL g l' x := hx.imp id fun ⟨p, hp, e⟩ => ⟨p, h p hp, e⟩

/-- The blocks of one result. -/
def FO (g : G) (O : List Nat) (F : Nat → Prop) : Prop := ∀ x, F x → ∃ h ∈ O, g.ow x = .reg h

theorem rxW_ok {g : G} {s : S} {w : World} (hm : Mem w0 A B g s w) {asRd : Bool} {u : Value} {x : X} {k : List (Nat × Nat) → List Nat → RX → Prop} (hx : XOk w g s.regs u x) (h : rxW asRd s x k) :
    ∃ l O y F, k l O y ∧ LiveL s l ∧ FO g O F ∧ ∀ I : Nat → Prop, (∀ b, IL g l b → I b) → RxOk w I F u y := by
  have rd : xC s x (fun l c => k l [] (.rd c)) → ∃ l O y F, k l O y ∧ LiveL s l ∧ FO g O F ∧ ∀ I : Nat → Prop, (∀ b, IL g l b → I b) → RxOk w I F u y := fun h => by
    obtain ⟨l, c, h1, h2, h3⟩ := xC_ok hm hx h
    exact ⟨_, _, _, fun _ => False, h1, h2, fun _ h => h.elim, fun I hI => h3.frame hI fun _ _ => rfl⟩
  unfold rxW at h
  split at h
  · rename_i c gn
    split at h
    · rename_i r hr
      obtain ⟨h1, h2, h3⟩ := regAt_some hr
      obtain ⟨r', h4, h5, h6⟩ := hx
      rw [h1] at h4
      cases h4
      refine ⟨_, _, _, g.F c, h, fun p hp => (by cases hp), fun x hx => ⟨c, List.mem_singleton.2 rfl, hx⟩, fun I hI => ?_⟩
      rw [h6 h2 h3.symm]
      refine (hm.regs c r h1 h2).frame (fun b hb => ?_) (fun _ h => h) (fun _ _ => rfl) (fun _ _ => rfl)
      cases hp : r.pure with
      | true => rw [hp] at hb; exact hb.elim
      | false =>
        rw [hp] at hb
        exact hI b (.inl hb)
    · exact h.elim
  · rename_i c gn lo hi
    split at h
    · rename_i r hr
      obtain ⟨h1, h2, h3⟩ := regAt_some hr
      obtain ⟨r', h4, h5, h6⟩ := hx
      rw [h1] at h4
      cases h4
      obtain ⟨h7, h8, h9⟩ := h6 h2 h3.symm
      refine ⟨_, _, _, g.F c, h, fun p hp => (by cases hp), fun x hx => ⟨c, List.mem_singleton.2 rfl, hx⟩, fun I hI => ?_⟩
      refine Own.sub ((hm.regs c r h1 h2).frame (fun b hb => ?_) (fun _ h => h) (fun _ _ => rfl) (fun _ _ => rfl)) h7 h8 h9
      cases hp : r.pure with
      | true => rw [hp] at hb; exact hb.elim
      | false =>
        rw [hp] at hb
        exact hI b (.inl hb)
    · exact h.elim
  · rename_i n
    refine ⟨_, _, _, fun _ => False, h, fun p hp => (by cases hp), fun _ h => h.elim, fun I hI => ?_⟩
    have hu : u = .slice none 0 0 := hx
    rw [hu]
    exact .nil _ _
  · exact rd h

theorem rxsW_ok {g : G} {s : S} {w : World} (hm : Mem w0 A B g s w) {asRd : Bool} : ∀ {xs : List X} {us : Nat → Value} {k : List (Nat × Nat) → List Nat → List RX → Prop}, (∀ (j : Nat) (x : X), xs[j]? = some x → XOk w g s.regs (us j) x) → rxsW asRd s xs k →
    ∃ l O ys, ∃ F : Nat → Nat → Prop, k l O ys ∧ LiveL s l ∧ (∀ j, FO g O (F j)) ∧ ys.length = xs.length ∧ (noDup O = true → ∀ j j' x, F j x → F j' x → j = j') ∧
      ∀ I : Nat → Prop, (∀ b, IL g l b → I b) → ∀ (j : Nat) (y : RX), ys[j]? = some y → RxOk w I (F j) (us j) y
  | [], us, k, hx, h => ⟨[], [], [], fun _ _ => False, h, fun p hp => (by cases hp), fun _ _ h => h.elim, rfl, fun _ _ _ _ h => h.elim, fun I hI j y hj => (by simp at hj)⟩
  | x :: r, us, k, hx, h => by
    obtain ⟨l, O, y, F, h1, h2, h3, h4⟩ := rxW_ok hm (hx 0 x rfl) h
    obtain ⟨l', O', ys, F', i1, i2, i3, i4, i5, i6⟩ := rxsW_ok hm (us := fun j => us (j + 1)) (fun j x hj => hx (j + 1) x hj) h1
    refine ⟨_, _, _, fun j => match j with | 0 => F | j + 1 => F' j, i1, h2.app i2, fun j => ?_, by simp [i4], fun hd => ?_, fun I hI j z hj => ?_⟩
    · cases j with
      | zero => exact fun x hx => let ⟨c, hc, e⟩ := h3 x hx; ⟨c, List.mem_append.2 (.inl hc), e⟩
      | succ j => exact fun x hx => let ⟨c, hc, e⟩ := i3 j x hx; ⟨c, List.mem_append.2 (.inr hc), e⟩
    · obtain ⟨d1, d2⟩ := noDup_app hd
      have cross : ∀ j x, F x → F' j x → False := fun j x hx hx' => by
        obtain ⟨c, hc, e⟩ := h3 x hx
        obtain ⟨c', hc', e'⟩ := i3 j x hx'
        rw [e] at e'
        cases e'
        exact d2 _ hc hc'
      intro j j' x hj hj'
      cases j with
      | zero =>
        cases j' with
        | zero => rfl
        | succ j' => exact (cross j' x hj hj').elim
      | succ j =>
        cases j' with
        | zero => exact (cross j x hj' hj).elim
        | succ j' => rw [i5 d1 j j' x hj hj']
    · cases j with
      | zero => cases hj; exact h4 I fun b hb => hI b (IL_app_left hb)
      | succ j => exact i6 I (fun b hb => hI b (IL_app_right hb)) j z hj

theorem rv_ok {w : World} {g : G} {s : S} {v : Value} {agg : Bool} {xs : List X} {us : Nat → Value} {ys : List RX} {F : Nat → Nat → Prop} {I : Nat → Prop} (hl : ys.length = xs.length) (h2 : agg = false → ∃ x, xs = [x] ∧ v = us 0)
    (h3 : agg = true → ∃ a, v = .agg a ∧ a.size = xs.length ∧ ∀ j, j < xs.length → a[j]? = some (us j)) (h : ∀ (j : Nat) (y : RX), ys[j]? = some y → RxOk w I (F j) (us j) y) : RvOk w I F v ⟨agg, ys⟩ := by
  cases agg with
  | false =>
    obtain ⟨x, e1, e2⟩ := h2 rfl
    subst e1
    cases ys with
    | nil => simp at hl
    | cons y r =>
      have : r = [] := by simpa using hl
      subst this
      refine ⟨y, rfl, ?_⟩
      rw [e2]
      exact h 0 y rfl
  | true =>
    obtain ⟨a, e1, e2, e3⟩ := h3 rfl
    refine ⟨a, e1, by rw [e2]; exact hl.symm, fun j y hj => ⟨us j, e3 j ?_, h j y hj⟩⟩
    rw [← hl]
    exact (List.getElem?_eq_some_iff.1 hj).1

theorem retsW_ok (hτ : ∀ t d, E.τ t = some d → TyOk P t d) {g : G} {s : S} {a : Act} {w : World} (hm : Mem w0 A B g s w) (hs : SlotsOk g s nt a w) {asRd : Bool} (f : ResultVar → Sem Value) (hf : ∀ u, f (.tmp u) = pure (a.tmps.getD u undef))
    (hc : ∀ b t, f (.cell b t) = (do loadVar t (← asAddr (a.tmps.getD b undef)))) : ∀ {rvs : List ResultVar} {k : List (Nat × Nat) → List Nat → List RV → Prop}, retsW E asRd s rvs k →
    ∃ l O rs vs, ∃ F : Nat → Nat → Nat → Prop, k l O rs ∧ LiveL s l ∧ (∀ i j, FO g O (F i j)) ∧ rs.length = vs.length ∧ (rvs.mapM f).run P w = .ok vs w ∧ (noDup O = true → ∀ i j i' j' x, F i j x → F i' j' x → i = i' ∧ j = j') ∧
      ∀ I : Nat → Prop, (∀ b, IL g l b → I b) → ∀ (i : Nat) (r : RV), rs[i]? = some r → ∃ v, vs[i]? = some v ∧ RvOk w I (F i) v r
  | [], k, h => ⟨[], [], [], [], fun _ _ _ => False, h, fun p hp => (by cases hp), fun _ _ _ h => h.elim, rfl, by simp, fun _ _ _ _ _ _ h => h.elim, fun I hI i r hi => (by simp at hi)⟩
  | rv :: r, k, h => by
    have main : ∀ (agg : Bool) (xs : List X) (v : Value), (f rv).run P w = .ok v w → ValsOk w g s.regs v agg xs → (rxsW asRd s xs fun l o ys => retsW E asRd s r fun l' o' rs => k (l ++ l') (o ++ o') (⟨agg, ys⟩ :: rs)) →
        ∃ l O rs vs, ∃ F : Nat → Nat → Nat → Prop, k l O rs ∧ LiveL s l ∧ (∀ i j, FO g O (F i j)) ∧ rs.length = vs.length ∧ ((rv :: r).mapM f).run P w = .ok vs w ∧ (noDup O = true → ∀ i j i' j' x, F i j x → F i' j' x → i = i' ∧ j = j') ∧
          ∀ I : Nat → Prop, (∀ b, IL g l b → I b) → ∀ (i : Nat) (r : RV), rs[i]? = some r → ∃ v, vs[i]? = some v ∧ RvOk w I (F i) v r := by
      intro agg xs v hrun hv h
      obtain ⟨us, v1, v2, v3⟩ := vals_at hv
      obtain ⟨l, O, ys, F, h1, h2, h3, h4, h5, h6⟩ := rxsW_ok hm v1 h
      obtain ⟨l', O', rs, vs, F', i1, i2, i3, i4, i5, i6, i7⟩ := retsW_ok hτ hm hs f hf hc h1
      refine ⟨_, _, _, v :: vs, fun i => match i with | 0 => F | i + 1 => F' i, i1, h2.app i2, fun i => ?_, by simp [i4], by simp [List.mapM_cons, hrun, i5], fun hd => ?_, fun I hI i z hi => ?_⟩
      · cases i with
        | zero => exact fun j x hx => let ⟨c, hc, e⟩ := h3 j x hx; ⟨c, List.mem_append.2 (.inl hc), e⟩
        | succ i => exact fun j x hx => let ⟨c, hc, e⟩ := i3 i j x hx; ⟨c, List.mem_append.2 (.inr hc), e⟩
      · obtain ⟨d1, d2⟩ := noDup_app hd
        have d0 : noDup O = true := by
          have : ∀ (a b : List Nat), noDup (a ++ b) = true → noDup a = true := by
            intro a b
            induction a with
            | nil => intro _; rfl
            | cons c t ih =>
              intro hh
              have hh' : (if memb (t ++ b) c then false else noDup (t ++ b)) = true := hh
              split at hh'
              · cases hh'
              · rename_i hmm
                show (if memb t c then false else noDup t) = true
                rw [if_neg fun hx => hmm (memb_mem.2 (List.mem_append.2 (.inl (memb_mem.1 hx))))]
                exact ih hh'
          exact this O O' hd
        have cross : ∀ j i' j' x, F j x → F' i' j' x → False := fun j i' j' x hx hx' => by
          obtain ⟨c, hc, e⟩ := h3 j x hx
          obtain ⟨c', hc', e'⟩ := i3 i' j' x hx'
          rw [e] at e'
          cases e'
          exact d2 _ hc hc'
        intro i j i' j' x hj hj'
        cases i with
        | zero =>
          cases i' with
          | zero => exact ⟨rfl, h5 d0 j j' x hj hj'⟩
          | succ i' => exact (cross j i' j' x hj hj').elim
        | succ i =>
          cases i' with
          | zero => exact (cross j' i j x hj' hj).elim
          | succ i' =>
            obtain ⟨e1, e2⟩ := i6 d1 i j i' j' x hj hj'
            exact ⟨by rw [e1], e2⟩
      · cases i with
        | zero => cases hi; exact ⟨v, rfl, rv_ok (s := s) (g := g) h4 v2 v3 fun j y hj => h6 I (fun b hb => hI b (IL_app_left hb)) j y hj⟩
        | succ i => exact i7 I (fun b hb => hI b (IL_app_right hb)) i z hi
    cases rv with
    | tmp t =>
      simp only [retsW] at h
      split at h
      · rename_i agg xs he
        have hv := (hs t _ he).2
        exact main agg xs _ (by rw [hf]; simp) hv h
      · exact h.elim
    | cell t ty =>
      simp only [retsW] at h
      split at h
      · rename_i b gn he
        split at h
        · rename_i cs hb
          split at h
          · rename_i d hd
            split at h
            · rename_i hk
              split at h
              · rename_i agg xs hmk
                obtain ⟨y, h1, h2, h3⟩ := boxAt_some hb
                obtain ⟨y', h4, h5, h6⟩ := (hs t _ he).2
                rw [h1] at h4
                cases h4
                have hv := h6 h2.symm
                obtain ⟨_, _, bcs, e, b3, b4, b5⟩ := hm.boxes b y h1
                rw [h3] at b4 b5
                obtain ⟨v, q1, q2⟩ := load_run (hτ _ _ hd) hk w g s.boxes s.regs (g.loc b).1 (g.loc b).2 cs _ hmk (fun j x hj => by
                  obtain ⟨u, hu, _, ho⟩ := b5 j x hj
                  exact ⟨u, (cell_of b3).trans hu, ho⟩)
                refine main agg xs v ?_ q2 h
                rw [hc, hv]
                simp [asAddr, q1]
              · exact h.elim
            · exact h.elim
          · exact h.elim
        · exact h.elim
      · exact h.elim

theorem outsW_ok {g : G} {s : S} {w : World} (hm : Mem w0 A B g s w) : ∀ {as : List AV} {i : Nat} {vs : List Value} {k : List (Nat × Nat) → List (List C) → Prop}, vs.length = as.length →
    (∀ (j : Nat) (wr : Option Nat) (cs : List C), as[j]? = some (.mptr wr cs) → ∀ x, get s.boxes (i + j + 1000000) = some x → x.gen = 0 → vs[j]? = some (ptV wr (g.loc (i + j + 1000000)).1 (g.loc (i + j + 1000000)).2)) → outsW s i as k →
    ∃ l outs, k l outs ∧ LiveL s l ∧ ∀ I : Nat → Prop, (∀ b, IL g l b → I b) → OutsOk w I as vs outs
  | [], i, [], k, hl, hv, h => ⟨[], [], h, fun p hp => (by cases hp), fun I hI => trivial⟩
  | a :: as, i, v :: vs, k, hl, hv, h => by
    have hl' : vs.length = as.length := by simpa using hl
    have hv' : ∀ (j : Nat) (wr : Option Nat) (cs : List C), as[j]? = some (.mptr wr cs) → ∀ x, get s.boxes (i + 1 + j + 1000000) = some x → x.gen = 0 → vs[j]? = some (ptV wr (g.loc (i + 1 + j + 1000000)).1 (g.loc (i + 1 + j + 1000000)).2) := fun j wr cs hj x hx hg => by
      rw [show i + 1 + j = i + (j + 1) by omega] at hx ⊢
      exact hv (j + 1) wr cs hj x hx hg
    have other : (∀ wr cs, a ≠ .mptr wr cs) → outsW s (i + 1) as k → ∃ l outs, k l outs ∧ LiveL s l ∧ ∀ I : Nat → Prop, (∀ b, IL g l b → I b) → OutsOk w I (a :: as) (v :: vs) outs := fun ha h => by
      obtain ⟨l, outs, h1, h2, h3⟩ := outsW_ok hm hl' hv' h
      refine ⟨l, outs, h1, h2, fun I hI => ?_⟩
      have := h3 I hI
      cases a with
      | mptr wr cs => exact absurd rfl (ha wr cs)
      | _ => exact this
    cases a with
    | mptr wr cs =>
      simp only [outsW] at h
      split at h
      · rename_i x hx
        split at h
        · rename_i hg
          split at h
          · rename_i hlen
            obtain ⟨_, _, bcs, e, b3, b4, b5⟩ := hm.boxes (i + 1000000) x hx
            obtain ⟨l, o, h1, h2, h3, h4⟩ := xCs_ok hm x.cells (fun j => bcs.getD ((g.loc (i + 1000000)).2 + j) undef) _ (fun j y hj => by
              obtain ⟨u, hu, _, ho⟩ := b5 j y hj
              have : bcs.getD ((g.loc (i + 1000000)).2 + j) undef = u := by simp [Array.getD_eq_getD_getElem?, hu]
              rw [this]
              exact ho) h
            obtain ⟨l', os, i1, i2, i3⟩ := outsW_ok hm hl' hv' h1
            have hv0 : v = ptV wr (g.loc (i + 1000000)).1 (g.loc (i + 1000000)).2 := by
              have := hv 0 wr cs rfl x hx hg
              simpa using this
            refine ⟨_, _, i1, h2.app i2, fun I hI => ⟨⟨by rw [h3, hlen], g.loc (i + 1000000), hv0, bcs, e, b3, by rw [h3]; exact b4, fun j c hj => ?_⟩, i3 I fun b hb => hI b (IL_app_right hb)⟩⟩
            have hj' : j < x.cells.length := by rw [← h3]; exact (List.getElem?_eq_some_iff.1 hj).1
            obtain ⟨u, hu, hone, _⟩ := b5 j x.cells[j] (List.getElem?_eq_getElem hj')
            refine ⟨u, hu, hone, ?_⟩
            have h12 := (h4 j c hj).frame (fun b hb => hI b (IL_app_left hb)) fun _ _ => rfl
            have : bcs.getD ((g.loc (i + 1000000)).2 + j) undef = u := by simp [Array.getD_eq_getD_getElem?, hu]
            rw [this] at h12
            exact h12
          · exact h.elim
        · exact h.elim
      · exact h.elim
    | _ => exact other (fun wr cs e => by cases e) h
  | [], _, _ :: _, _, hl, _, _ => by simp at hl
  | _ :: _, _, [], _, hl, _, _ => by simp at hl

end
end Go.Proofs.Ytppfojiogappaaa.V
