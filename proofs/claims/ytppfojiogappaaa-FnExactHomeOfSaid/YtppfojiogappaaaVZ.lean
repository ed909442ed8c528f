/- A state told with less: slots let go, slices under other names or shared from now on. -/
import Derived.Test.YtppfojiogappaaaVY
set_option linter.unusedVariables false
set_option linter.unusedSimpArgs false
namespace Go.Proofs.Ytppfojiogappaaa.V
open Go Classical

@[reducible] def Ren := List (Nat × Option Nat)

def srcs : Ren → List Nat
  | [] => []
  | (h, _) :: r => h :: srcs r
def tgts : Ren → List Nat
  | [] => []
  | (_, some h) :: r => h :: tgts r
  | (_, none) :: r => tgts r

def nX (s : S) (ρ : Ren) (x : X) : Option X :=
  match x with
  | .sc v => some (.sc v)
  | .nil n => some (.nil n)
  | .rd none n es => some (.rd none n es)
  | .rd (some (h, iv)) n es => (match regIv s h iv with
    | some _ => (match get ρ h with
      | some (some h') => some (.rd (some (h', 0)) n es)
      | some none => some (.rd none n es)
      | none => none)
    | none => none)
  | .ref h g => (match regAt s h g with
    | some r => (match get ρ h with
      | some (some h') => some (.ref h' 0)
      | some none => some (.rd none r.n r.es)
      | none => none)
    | none => none)
  | .sub h g lo hi => (match regAt s h g with
    | some r => (match get ρ h with
      | some (some h') => some (.sub h' 0 lo hi)
      | some none => some (.rd none r.n ((r.es.take hi).drop lo))
      | none => none)
    | none => none)
  | .inn h iv i j => (match regIv s h iv with
    | some _ => (match get ρ h with
      | some (some h') => some (.inn h' 0 i j)
      | _ => none)
    | none => none)

def nXs (s : S) (ρ : Ren) : List X → Option (List X)
  | [] => some []
  | x :: r => match nX s ρ x with
    | some y => (match nXs s ρ r with
      | some ys => some (y :: ys)
      | none => none)
    | none => none

def keepB (kb : List Nat) (b : Nat) : Bool := if 1000000 ≤ b then true else memb kb b

def nE (s : S) (kb : List Nat) (ρ : Ren) (e : E) : Option E :=
  match e with
  | .vals agg xs => (match nXs s ρ xs with
    | some ys => some (.vals agg ys)
    | none => none)
  | .bptr b g off => (match keepB kb b with
    | true => some (.bptr b g off)
    | false => none)
  | .clo f b g => (match keepB kb b with
    | true => some (.clo f b g)
    | false => none)
  | .eptr h g i off => (match regAt s h g with
    | some _ => (match get ρ h with
      | some (some h') => some (.eptr h' 0 i off)
      | _ => none)
    | none => none)
  | .rptr none row off => some (.rptr none row off)
  | .rptr (some (h, iv)) row off => (match regIv s h iv with
    | some _ => (match get ρ h with
      | some (some h') => some (.rptr (some (h', 0)) row off)
      | some none => some (.rptr none row off)
      | none => none)
    | none => none)
  | .tup _ => none

def nSl (s : S) (kb : List Nat) (ρ : Ren) : List Nat → Option (List (Nat × E))
  | [] => some []
  | d :: r => match get s.slots d with
    | some e => (match nE s kb ρ e with
      | some e' => (match nSl s kb ρ r with
        | some l => some ((d, e') :: l)
        | none => none)
      | none => none)
    | none => none

def nBx (s : S) (kb : List Nat) (ρ : Ren) : List (Nat × Box) → Option (List (Nat × Box))
  | [] => some []
  | (b, ⟨g, xs⟩) :: r => (match keepB kb b with
    | true => (match nXs s ρ xs with
      | some ys => (match nBx s kb ρ r with
        | some l => some ((b, ⟨g, ys⟩) :: l)
        | none => none)
      | none => none)
    | false => nBx s kb ρ r)

def nRg (s : S) : Ren → Option (List (Nat × Reg))
  | [] => some []
  | (h, none) :: r => (match get s.regs h with
    | some ⟨true, _, _, _, _, _⟩ => nRg s r
    | _ => none)
  | (h, some h') :: r => (match get s.regs h with
    | some ⟨true, _, _, p, n, es⟩ => (match nRg s r with
      | some l => some ((h', ⟨true, 0, 0, p, n, es⟩) :: l)
      | none => none)
    | _ => none)

/-- Only the slots 'keep' and the variables 'kb' are told; the slices by 'ρ'. -/
def norm (keep kb : List Nat) (ρ : Ren) (s : S) : Option S :=
  match noDup (srcs ρ) with
  | true => (match noDup (tgts ρ) with
    | true => (match nSl s kb ρ keep with
      | some sl => (match nBx s kb ρ s.boxes with
        | some bx => (match nRg s ρ with
          | some rg => some ⟨sl, bx, rg⟩
          | none => none)
        | none => none)
      | none => none)
    | false => none)
  | false => none

theorem get_src {ρ : Ren} {h : Nat} {t : Option Nat} (e : get ρ h = some t) : h ∈ srcs ρ ∧ ∀ h', t = some h' → h' ∈ tgts ρ := by
  induction ρ with
  | nil => cases e
  | cons p r ih =>
    obtain ⟨k, v⟩ := p
    simp only [get] at e
    split at e
    · rename_i hk
      subst hk
      cases e
      refine ⟨List.mem_cons_self .., fun h' e => ?_⟩
      subst e
      exact List.mem_cons_self ..
    · obtain ⟨h1, h2⟩ := ih e
      refine ⟨List.mem_cons_of_mem _ h1, fun h' e => ?_⟩
      cases v with
      | none => exact h2 h' e
      | some v => exact List.mem_cons_of_mem _ (h2 h' e)

theorem noDup_cons {a : Nat} {r : List Nat} (h : noDup (a :: r) = true) : ¬ a ∈ r ∧ noDup r = true := by
  have h' : (if memb r a then false else noDup r) = true := h
  split at h'
  · cases h'
  · rename_i hm
    exact ⟨fun hx => hm (memb_mem.2 hx), h'⟩

theorem tgt_inj {ρ : Ren} (h1 : noDup (tgts ρ) = true) : ∀ {a b h' : Nat}, get ρ a = some (some h') → get ρ b = some (some h') → a = b := by
  induction ρ with
  | nil => intro a b h' ha; cases ha
  | cons p r ih =>
    obtain ⟨k, v⟩ := p
    intro a b h' ha hb
    have hr : noDup (tgts r) = true := by
      cases v with
      | none => exact h1
      | some v => exact (noDup_cons h1).2
    simp only [get] at ha hb
    split at ha
    · rename_i hka
      split at hb
      · rename_i hkb
        rw [← hka, ← hkb]
      · cases ha
        exact absurd ((get_src hb).2 h' rfl) (noDup_cons h1).1
    · split at hb
      · cases hb
        exact absurd ((get_src ha).2 h' rfl) (noDup_cons h1).1
      · exact ih hr ha hb

theorem nRg_ok {s : S} : ∀ {ρ : Ren} {rg : List (Nat × Reg)}, nRg s ρ = some rg → noDup (srcs ρ) = true → noDup (tgts ρ) = true →
    (∀ h t, get ρ h = some t → ∃ r, get s.regs h = some r ∧ r.live = true) ∧ (∀ h h' r, get ρ h = some (some h') → get s.regs h = some r → get rg h' = some ⟨true, 0, 0, r.pure, r.n, r.es⟩) ∧
    ∀ h' r', get rg h' = some r' → ∃ h r, get ρ h = some (some h') ∧ get s.regs h = some r ∧ r.live = true ∧ r' = ⟨true, 0, 0, r.pure, r.n, r.es⟩
  | [], rg, e, h1, h2 => by
    cases e
    exact ⟨fun h t e => (by cases e), fun h h' r e => (by cases e), fun h' r' e => (by cases e)⟩
  | (k, none) :: ρ, rg, e, h1, h2 => by
    simp only [nRg] at e
    split at e
    · rename_i g0 i0 p0 n0 e0 hk
      obtain ⟨i1, i2, i3⟩ := nRg_ok e (noDup_cons h1).2 h2
      have hks := (noDup_cons h1).1
      refine ⟨fun h t ht => ?_, fun h h' r ht hr => ?_, fun h' r' hr => ?_⟩
      · simp only [get] at ht
        split at ht
        · rename_i hkh
          subst hkh
          exact ⟨_, hk, rfl⟩
        · exact i1 h t ht
      · simp only [get] at ht
        split at ht
        · cases ht
        · exact i2 h h' r ht hr
      · obtain ⟨h, r, q1, q2⟩ := i3 h' r' hr
        refine ⟨h, r, ?_, q2⟩
        simp only [get]
        rw [if_neg fun e => hks (by rw [e]; exact (get_src q1).1)]
        exact q1
    · cases e
  | (k, some k') :: ρ, rg, e, h1, h2 => by
    simp only [nRg] at e
    split at e
    · rename_i g0 i0 p0 n0 e0 hk
      split at e
      · rename_i l hl
        cases e
        obtain ⟨i1, i2, i3⟩ := nRg_ok hl (noDup_cons h1).2 (noDup_cons h2).2
        have hks := (noDup_cons h1).1
        have hkt := (noDup_cons h2).1
        refine ⟨fun h t ht => ?_, fun h h' r ht hr => ?_, fun h' r' hr => ?_⟩
        · simp only [get] at ht
          split at ht
          · rename_i hkh
            subst hkh
            exact ⟨_, hk, rfl⟩
          · exact i1 h t ht
        · simp only [get] at ht
          split at ht
          · rename_i hkh
            subst hkh
            cases ht
            rw [hk] at hr
            cases hr
            simp [get]
          · simp only [get]
            rw [if_neg fun e => hkt (by rw [e]; exact (get_src ht).2 h' rfl)]
            exact i2 h h' r ht hr
        · simp only [get] at hr
          split at hr
          · rename_i hkh
            subst hkh
            cases hr
            exact ⟨k, _, by simp [get], hk, rfl, rfl⟩
          · obtain ⟨h, r, q1, q2⟩ := i3 h' r' hr
            refine ⟨h, r, ?_, q2⟩
            simp only [get]
            rw [if_neg fun e => hks (by rw [e]; exact (get_src q1).1)]
            exact q1
      · cases e
    · cases e

noncomputable def G.ren (g : G) (ρ : Ren) : G :=
  { ow := fun x => match g.ow x with
      | .reg h => (match get ρ h with
        | some (some h') => .reg h'
        | some none => .imm
        | none => .none)
      | t => t
    val := fun h' => if h : ∃ k, get ρ k = some (some h') then g.val (Classical.choose h) else undef
    loc := g.loc }

section
variable {w0 : World} {A : AA} {B : List (Nat × Nat × Nat)} {nt : Nat}

theorem ren_val {g : G} {ρ : Ren} (h2 : noDup (tgts ρ) = true) {h h' : Nat} (e : get ρ h = some (some h')) : (g.ren ρ).val h' = g.val h := by
  have hx : ∃ k, get ρ k = some (some h') := ⟨h, e⟩
  show (if h : ∃ k, get ρ k = some (some h') then g.val (Classical.choose h) else undef) = _
  rw [dif_pos hx, tgt_inj h2 (Classical.choose_spec hx) e]

theorem ren_reg {g : G} {ρ : Ren} {h h' x : Nat} (e : get ρ h = some (some h')) (hx : g.ow x = .reg h) : (g.ren ρ).ow x = .reg h' := by simp [G.ren, hx, e]
theorem ren_free {g : G} {ρ : Ren} {h x : Nat} (e : get ρ h = some none) (hx : g.ow x = .reg h) : (g.ren ρ).ow x = .imm := by simp [G.ren, hx, e]
theorem ren_imm {g : G} {ρ : Ren} {x : Nat} (hx : g.ow x = .imm) : (g.ren ρ).ow x = .imm := by simp [G.ren, hx]
theorem ren_box {g : G} {ρ : Ren} {x b : Nat} (hx : g.ow x = .box b) : (g.ren ρ).ow x = .box b := by simp [G.ren, hx]

theorem ren_reg_inv {g : G} {ρ : Ren} {h' x : Nat} (hx : (g.ren ρ).ow x = .reg h') : ∃ h, get ρ h = some (some h') ∧ g.ow x = .reg h := by
  unfold G.ren at hx
  simp only at hx
  split at hx
  · rename_i h hg
    split at hx
    · rename_i k hk
      cases hx
      exact ⟨h, hk, hg⟩
    · cases hx
    · cases hx
  · rename_i hn
    exact absurd hx (hn h')

theorem ren_imm_inv {g : G} {ρ : Ren} {x : Nat} (hx : (g.ren ρ).ow x = .imm) : g.ow x = .imm ∨ ∃ h, g.ow x = .reg h := by
  unfold G.ren at hx
  simp only at hx
  split at hx
  · rename_i h hg
    exact .inr ⟨h, hg⟩
  · exact .inl hx

structure Nm (s : S) (ρ : Ren) (rg : List (Nat × Reg)) (g : G) (w : World) (g' : G) : Prop where
  im : ∀ x, g.I x → g'.I x
  rn : ∀ h h' r, get ρ h = some (some h') → get s.regs h = some r → r.live = true ∧ get rg h' = some ⟨true, 0, 0, r.pure, r.n, r.es⟩ ∧ g'.val h' = g.val h ∧ ∀ x, g.F h x → g'.F h' x
  fz : ∀ h r, get ρ h = some none → get s.regs h = some r → r.live = true ∧ Rd w g'.I (g.val h) (.sl true r.n r.es) ∧ ∀ x, g.F h x → g'.I x

theorem Nm.ln {s : S} {ρ : Ren} {rg : List (Nat × Reg)} {g g' : G} {w : World} (hn : Nm s ρ rg g w g') {h iv : Nat} {r : Reg} (hr : regIv s h iv = some r) {φ : (Nat → Prop) → Prop} (hφ : ∀ I I' : Nat → Prop, (∀ x, I x → I' x) → φ I → φ I')
    (hx : LnOk g s.regs (some (h, iv)) φ) : (∀ h', get ρ h = some (some h') → LnOk g' rg (some (h', 0)) φ) ∧ (get ρ h = some none → φ g'.I) := by
  obtain ⟨h1, h2, h3⟩ := regIv_some hr
  obtain ⟨r', h4, h5, h6⟩ := hx
  rw [h1] at h4
  cases h4
  have hp := h6 h2 h3.symm
  refine ⟨fun h' e => ?_, fun e => ?_⟩
  · obtain ⟨_, q1, q2, q3⟩ := hn.rn h h' r e h1
    exact ⟨_, q1, Nat.le_refl _, fun _ _ => hφ _ _ (fun x hx => hx.elim (fun h => .inl (hn.im x h)) fun h => .inr (q3 x h)) hp⟩
  · obtain ⟨_, _, q3⟩ := hn.fz h r e h1
    exact hφ _ _ (fun x hx => hx.elim (hn.im x) (q3 x)) hp

theorem nX_ok {s : S} {ρ : Ren} {rg : List (Nat × Reg)} {g g' : G} {w : World} (hn : Nm s ρ rg g w g') {u : Value} {x y : X} (hx : XOk w g s.regs u x) (h : nX s ρ x = some y) : XOk w g' rg u y := by
  unfold nX at h
  split at h
  · cases h; exact hx
  · cases h; exact hx
  · rename_i n es
    cases h
    have hx' : Rd w g.I u (.sl true n es) := hx
    exact hx'.frame hn.im fun _ _ => rfl
  · rename_i h0 iv n es
    split at h
    · rename_i r hr
      obtain ⟨q1, q2⟩ := hn.ln (φ := fun I => Rd w I u (.sl true n es)) hr (fun I I' hI hp => hp.frame hI fun _ _ => rfl) hx
      split at h
      · rename_i h' e
        cases h
        exact q1 h' e
      · rename_i e
        cases h
        exact q2 e
      · cases h
    · cases h
  · rename_i h0 gn
    split at h
    · rename_i r hr
      obtain ⟨h1, h2, h3⟩ := regAt_some hr
      obtain ⟨r', h4, h5, h6⟩ := hx
      rw [h1] at h4
      cases h4
      have hu := h6 h2 h3.symm
      split at h
      · rename_i h' e
        cases h
        obtain ⟨_, q1, q2, q3⟩ := hn.rn h0 h' r e h1
        exact ⟨_, q1, Nat.le_refl _, fun _ _ => by rw [hu, q2]⟩
      · rename_i e
        cases h
        obtain ⟨_, q1, q3⟩ := hn.fz h0 r e h1
        rw [hu]
        exact q1
      · cases h
    · cases h
  · rename_i h0 gn lo hi
    split at h
    · rename_i r hr
      obtain ⟨h1, h2, h3⟩ := regAt_some hr
      obtain ⟨r', h4, h5, h6⟩ := hx
      rw [h1] at h4
      cases h4
      obtain ⟨h7, h8, h9⟩ := h6 h2 h3.symm
      split at h
      · rename_i h' e
        cases h
        obtain ⟨_, q1, q2, q3⟩ := hn.rn h0 h' r e h1
        exact ⟨_, q1, Nat.le_refl _, fun _ _ => ⟨by rw [q2]; exact h7, h8, h9⟩⟩
      · rename_i e
        cases h
        obtain ⟨_, q1, q3⟩ := hn.fz h0 r e h1
        exact sub_rd q1 h7 h8 h9
      · cases h
    · cases h
  · rename_i h0 iv i j
    split at h
    · rename_i r hr
      obtain ⟨h1, h2, h3⟩ := regIv_some hr
      obtain ⟨r', h4, h5, h6⟩ := hx
      rw [h1] at h4
      cases h4
      obtain ⟨b, o, len, cap, e1, e2, e3, e4, e5⟩ := h6 h2 h3.symm
      split at h
      · rename_i h' e
        cases h
        obtain ⟨_, q1, q2, q3⟩ := hn.rn h0 h' r e h1
        exact ⟨_, q1, Nat.le_refl _, fun _ _ => ⟨b, o, len, cap, by rw [q2]; exact e1, q3 b e2, e3, e4, e5⟩⟩
      · cases h
    · cases h

theorem nXs_ok {s : S} {ρ : Ren} {rg : List (Nat × Reg)} {g g' : G} {w : World} (hn : Nm s ρ rg g w g') : ∀ {xs ys : List X}, nXs s ρ xs = some ys →
    ys.length = xs.length ∧ ∀ (j : Nat) (y : X), ys[j]? = some y → ∃ x, xs[j]? = some x ∧ ∀ u, XOk w g s.regs u x → XOk w g' rg u y
  | [], ys, h => by cases h; exact ⟨rfl, fun j y hj => (by simp at hj)⟩
  | x :: r, ys, h => by
    simp only [nXs] at h
    split at h
    · rename_i y0 h1
      split at h
      · rename_i ys0 h2
        cases h
        obtain ⟨i1, i2⟩ := nXs_ok hn h2
        refine ⟨by simp [i1], fun j y hj => ?_⟩
        cases j with
        | zero => cases hj; exact ⟨x, rfl, fun u hu => nX_ok hn hu h1⟩
        | succ j => exact i2 j y hj
      · cases h
    · cases h

theorem nVals_ok {s : S} {ρ : Ren} {rg : List (Nat × Reg)} {g g' : G} {w : World} (hn : Nm s ρ rg g w g') {v : Value} {agg : Bool} {xs ys : List X} (hx : ValsOk w g s.regs v agg xs) (h : nXs s ρ xs = some ys) : ValsOk w g' rg v agg ys := by
  obtain ⟨h1, h2⟩ := nXs_ok hn h
  cases agg with
  | false =>
    obtain ⟨x, e, ho⟩ := hx
    subst e
    cases ys with
    | nil => simp at h1
    | cons y r =>
      have : r = [] := by simpa using h1
      subst this
      obtain ⟨x', hx', ho'⟩ := h2 0 y rfl
      cases hx'
      exact ⟨y, rfl, ho' v ho⟩
  | true =>
    obtain ⟨us, e, hl, ho⟩ := hx
    refine ⟨us, e, by rw [hl, h1], fun j y hj => ?_⟩
    obtain ⟨x, hx', ho'⟩ := h2 j y hj
    obtain ⟨u, hu, hou⟩ := ho j x hx'
    exact ⟨u, hu, ho' u hou⟩

theorem nSl_at {s : S} {kb : List Nat} {ρ : Ren} : ∀ {keep : List Nat} {sl : List (Nat × E)}, nSl s kb ρ keep = some sl → ∀ d e', get sl d = some e' → ∃ e, get s.slots d = some e ∧ nE s kb ρ e = some e'
  | [], sl, h, d, e', hd => by cases h; cases hd
  | d0 :: r, sl, h, d, e', hd => by
    simp only [nSl] at h
    split at h
    · rename_i e0 h0
      split at h
      · rename_i e1 h1
        split at h
        · rename_i l h2
          cases h
          simp only [get] at hd
          split at hd
          · rename_i hdd
            subst hdd
            cases hd
            exact ⟨e0, h0, h1⟩
          · exact nSl_at h2 d e' hd
        · cases h
      · cases h
    · cases h

theorem nBx_at {s : S} {kb : List Nat} {ρ : Ren} : ∀ {l bx : List (Nat × Box)}, nBx s kb ρ l = some bx → (∀ b y, get bx b = some y → ∃ x, get l b = some x ∧ y.gen = x.gen ∧ nXs s ρ x.cells = some y.cells) ∧ (∀ b x, keepB kb b = true → get l b = some x → ∃ y, get bx b = some y ∧ y.gen = x.gen)
  | [], bx, h => by cases h; exact ⟨fun b y e => (by cases e), fun b x _ e => (by cases e)⟩
  | (b0, ⟨g0, xs0⟩) :: r, bx, h => by
    simp only [nBx] at h
    split at h
    · rename_i hk
      split at h
      · rename_i ys h1
        split at h
        · rename_i l h2
          cases h
          obtain ⟨i1, i2⟩ := nBx_at h2
          refine ⟨fun b y e => ?_, fun b x hb e => ?_⟩
          · simp only [get] at e
            split at e
            · rename_i hbb
              subst hbb
              cases e
              exact ⟨⟨g0, xs0⟩, by simp [get], rfl, h1⟩
            · rename_i hbb
              simp only [get, if_neg hbb]
              exact i1 b y e
          · simp only [get] at e
            split at e
            · rename_i hbb
              subst hbb
              cases e
              exact ⟨⟨g0, ys⟩, by simp [get], rfl⟩
            · rename_i hbb
              simp only [get, if_neg hbb]
              exact i2 b x hb e
        · cases h
      · cases h
    · rename_i hk
      obtain ⟨i1, i2⟩ := nBx_at h
      refine ⟨fun b y e => ?_, fun b x hb e => ?_⟩
      · by_cases hbb : b0 = b
        · subst hbb
          exfalso
          have : ∀ {l bx : List (Nat × Box)}, nBx s kb ρ l = some bx → ∀ y, get bx b0 = some y → keepB kb b0 = true := by
            intro l
            induction l with
            | nil => intro bx h y e; cases h; cases e
            | cons p t ih =>
              intro bx h y e
              obtain ⟨b1, g1, x1⟩ := p
              simp only [nBx] at h
              split at h
              · rename_i hk1
                split at h
                · split at h
                  · rename_i l2 h2
                    cases h
                    simp only [get] at e
                    split at e
                    · rename_i hb1
                      rw [← hb1]
                      exact hk1
                    · exact ih h2 y e
                  · cases h
                · cases h
              · exact ih h y e
          rw [this h y e] at hk
          cases hk
        · simp only [get, if_neg hbb]
          exact i1 b y e
      · simp only [get] at e
        split at e
        · rename_i hbb
          subst hbb
          rw [hb] at hk
          cases hk
        · exact i2 b x hb e

theorem norm_wk {keep kb : List Nat} {ρ : Ren} {s s' : S} (h : norm keep kb ρ s = some s') : Wk s s' := by
  intro w0 A B nt a w hr
  obtain ⟨hdf, hsz, g, hm, hs⟩ := hr
  unfold norm at h
  split at h
  case h_2 => cases h
  rename_i hd1
  split at h
  case h_2 => cases h
  rename_i hd2
  split at h
  case h_2 => cases h
  rename_i sl hsl
  split at h
  case h_2 => cases h
  rename_i bx hbx
  split at h
  case h_2 => cases h
  rename_i rg hrg
  cases h
  obtain ⟨r1, r2, r3⟩ := nRg_ok hrg hd1 hd2
  have him : ∀ x, g.I x → (g.ren ρ).I x := fun x hx => ren_imm hx
  have hnm : Nm s ρ rg g w (g.ren ρ) := by
    refine ⟨him, fun h h' r e hr => ?_, fun h r e hr => ?_⟩
    · obtain ⟨r0, q1, q2⟩ := r1 h _ e
      rw [hr] at q1
      cases q1
      exact ⟨q2, r2 h h' r e hr, ren_val hd2 e, fun x hx => ren_reg e hx⟩
    · obtain ⟨r0, q1, q2⟩ := r1 h _ e
      rw [hr] at q1
      cases q1
      refine ⟨q2, (hm.regs h r hr q2).rdOf.frame ?_ (fun _ _ => rfl), fun x hx => ren_free e hx⟩
      rintro b (hb | hb)
      · split at hb
        · exact hb.elim
        · exact him b hb
      · exact ren_free e hb
  obtain ⟨b1, b2⟩ := nBx_at hbx
  refine ⟨hdf, hsz, g.ren ρ, ⟨hm.ext, fun x hx => ?_, fun x h' hx => ?_, fun h' r' hr' hl => ?_, fun b y hy => ?_, fun x hx => ?_, fun b hb => ?_⟩, fun d e' hd => ?_⟩
  · refine hm.lt x fun e => hx ?_
    simp [G.ren, e]
  · obtain ⟨h, _, hx⟩ := ren_reg_inv hx
    exact hm.fr x h hx
  · obtain ⟨h, r, q1, q2, q3, rfl⟩ := r3 h' r' hr'
    have : (g.ren ρ).val h' = g.val h := ren_val hd2 q1
    rw [this]
    refine (hm.regs h r q2 q3).frame (fun x hx => ?_) (fun x hx => ren_reg q1 hx) (fun _ _ => rfl) (fun _ _ => rfl)
    cases hp : r.pure with
    | true => rw [hp] at hx; exact hx.elim
    | false =>
      rw [hp] at hx
      exact him x hx
  · obtain ⟨x, q1, q2, q3⟩ := b1 b y hy
    obtain ⟨o1, o2, cs, e, o3, o4, o5⟩ := hm.boxes b x q1
    obtain ⟨n1, n2⟩ := nXs_ok hnm q3
    refine ⟨ren_box o1, by rw [n1]; exact o2, cs, e, o3, by rw [n1]; exact o4, fun j z hj => ?_⟩
    obtain ⟨x', hx', ho⟩ := n2 j z hj
    obtain ⟨u, hu, h1, hou⟩ := o5 j x' hx'
    exact ⟨u, hu, h1, ho u hou⟩
  · rcases ren_imm_inv hx with h | ⟨h, hx⟩
    · exact hm.im x h
    · exact .inr (hm.fr x h hx)
  · obtain ⟨hbig, x, hx, hl⟩ := hm.pl b hb
    obtain ⟨y, hy, hg⟩ := b2 b x (by unfold keepB; rw [if_pos hbig]) hx
    exact ⟨hbig, y, hy, fun e => hl (by rw [← hg]; exact e)⟩
  · obtain ⟨e, he, hne⟩ := nSl_at hsl d e' hd
    obtain ⟨hlt, hok⟩ := hs d e he
    refine ⟨hlt, ?_⟩
    generalize a.tmps.getD d undef = v at hok
    unfold nE at hne
    split at hne
    · rename_i agg xs
      split at hne
      · rename_i ys hys
        cases hne
        exact nVals_ok (agg := agg) (xs := xs) hnm hok hys
      · cases hne
    · rename_i b gn off
      split at hne
      · rename_i hk
        cases hne
        obtain ⟨x, q1, q2, q3⟩ := hok
        obtain ⟨y, hy, hg⟩ := b2 b x hk q1
        exact ⟨y, hy, by omega, fun e => q3 (by omega)⟩
      · cases hne
    · rename_i f b gn
      split at hne
      · rename_i hk
        cases hne
        obtain ⟨x, q1, q2, q3⟩ := hok
        obtain ⟨y, hy, hg⟩ := b2 b x hk q1
        exact ⟨y, hy, by omega, fun e => q3 (by omega)⟩
      · cases hne
    · rename_i h0 gn i off
      split at hne
      · rename_i r hr
        obtain ⟨h1, h2, h3⟩ := regAt_some hr
        obtain ⟨r', h4, h5, h6⟩ := hok
        rw [h1] at h4
        cases h4
        obtain ⟨bb, o, len, cap, e1, e2, e3⟩ := h6 h2 h3.symm
        split at hne
        · rename_i h' e
          cases hne
          obtain ⟨_, q1, q2, q3⟩ := hnm.rn h0 h' r e h1
          exact ⟨_, q1, Nat.le_refl _, fun _ _ => ⟨bb, o, len, cap, by rw [q2]; exact e1, e2, e3⟩⟩
        · cases hne
      · cases hne
    · rename_i row off
      cases hne
      obtain ⟨b, o, e1, e2, e3⟩ := hok
      exact ⟨b, o, e1, him b e2, fun j c hj => let ⟨u, hu, hr⟩ := e3 j c hj; ⟨u, hu, hr.frame him fun _ _ => rfl⟩⟩
    · rename_i h0 iv row off
      split at hne
      · rename_i r hr
        obtain ⟨q1, q2⟩ := hnm.ln (φ := fun I => ∃ b o, v = .pointer (some ⟨b, o + off, none⟩) ∧ I b ∧ ∀ (j : Nat) (c : C), row[j]? = some c → ∃ u, w.cell? ⟨b, o + j, none⟩ = some u ∧ Rd w I u c) hr
          (fun I I' hI ⟨b, o, e1, e2, e3⟩ => ⟨b, o, e1, hI b e2, fun j c hj => let ⟨u, hu, hr⟩ := e3 j c hj; ⟨u, hu, hr.frame hI fun _ _ => rfl⟩⟩) hok
        split at hne
        · rename_i h' e
          cases hne
          exact q1 h' e
        · rename_i e
          cases hne
          exact q2 e
        · cases hne
      · cases hne
    · cases hne

end
end Go.Proofs.Ytppfojiogappaaa.V
