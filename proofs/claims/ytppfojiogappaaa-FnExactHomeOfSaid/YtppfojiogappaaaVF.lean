/- What a slice holds, wherever it is kept; lengths, conversions, parts of values. -/
import Derived.Test.YtppfojiogappaaaVE
set_option linter.unusedVariables false
set_option linter.unusedSimpArgs false
namespace Go.Proofs.Ytppfojiogappaaa.V
open Go Classical

/-- The blocks that slices lie in. -/
def G.J (g : G) : Nat → Prop := fun b => g.ow b = .imm ∨ ∃ h, g.ow b = .reg h

def lnLive (s : S) : Option (Nat × Nat) → Bool
  | none => true
  | some (h, iv) => match get s.regs h with
    | some r => if r.live then (if r.iv = iv then true else false) else false
    | none => false

def regAt (s : S) (h g : Nat) : Option Reg :=
  match get s.regs h with
  | some r => if r.live then (if r.gen = g then some r else none) else none
  | none => none
def regIv (s : S) (h iv : Nat) : Option Reg :=
  match get s.regs h with
  | some r => if r.live then (if r.iv = iv then some r else none) else none
  | none => none

theorem regAt_some {s : S} {h g : Nat} {r : Reg} (e : regAt s h g = some r) : get s.regs h = some r ∧ r.live = true ∧ r.gen = g := by
  unfold regAt at e
  split at e
  · split at e
    · split at e
      · cases e
        exact ⟨by assumption, by assumption, by assumption⟩
      · cases e
    · cases e
  · cases e
theorem regIv_some {s : S} {h g : Nat} {r : Reg} (e : regIv s h g = some r) : get s.regs h = some r ∧ r.live = true ∧ r.iv = g := by
  unfold regIv at e
  split at e
  · split at e
    · split at e
      · cases e
        exact ⟨by assumption, by assumption, by assumption⟩
      · cases e
    · cases e
  · cases e
theorem lnLive_some {s : S} {h iv : Nat} (e : lnLive s (some (h, iv)) = true) : ∃ r, get s.regs h = some r ∧ r.live = true ∧ r.iv = iv := by
  simp only [lnLive] at e
  split at e
  · split at e
    · split at e
      · exact ⟨_, by assumption, by assumption, by assumption⟩
      · exact absurd e (by simp)
    · exact absurd e (by simp)
  · exact absurd e (by simp)

/-- With what a slice holds: its element's size, its elements. -/
def withC (s : S) (x : X) (k : Nat → List (List C) → Prop) : Prop :=
  match x with
  | .sc _ => False
  | .nil n => k n []
  | .rd ln n es => if lnLive s ln then k n es else False
  | .ref h g => (match regAt s h g with
    | some r => k r.n r.es
    | none => False)
  | .sub h g lo hi => (match regAt s h g with
    | some r => k r.n ((r.es.take hi).drop lo)
    | none => False)
  | .inn h iv i j => (match regIv s h iv with
    | some r => ∃ row n es, r.es[i]? = some row ∧ row[j]? = some (.sl true n es) ∧ k n es
    | none => False)

theorem J_I {g : G} {b : Nat} (h : g.I b) : g.J b := .inl h
theorem J_F {g : G} {h b : Nat} (k : g.F h b) : g.J b := .inr ⟨h, k⟩

theorem Ln_J {g : G} {regs : List (Nat × Reg)} {s : S} (hr : s.regs = regs) {ln : Option (Nat × Nat)} {φ : (Nat → Prop) → Prop} (h : LnOk g regs ln φ) (hl : lnLive s ln = true)
    (hm : ∀ I : Nat → Prop, (∀ b, I b → g.J b) → φ I → φ g.J) : φ g.J := by
  subst hr
  cases ln with
  | none => exact hm _ (fun b hb => J_I hb) h
  | some p =>
    obtain ⟨k, iv⟩ := p
    obtain ⟨r, h1, h2, h3⟩ := lnLive_some hl
    obtain ⟨r', h4, h5, h6⟩ := h
    rw [h1] at h4
    cases h4
    exact hm _ (fun b hb => hb.elim J_I J_F) (h6 h2 h3.symm)

theorem reg_rd {w0 : World} {A : AA} {B : List (Nat × Nat × Nat)} {g : G} {s : S} {w : World} (hm : Mem w0 A B g s w) {h : Nat} {r : Reg} (hr : get s.regs h = some r) (hl : r.live = true) :
    Rd w g.J (g.val h) (.sl true r.n r.es) := by
  refine (hm.regs h r hr hl).rdOf.frame ?_ (fun _ _ => rfl)
  rintro b (hb | hb)
  · split at hb
    · exact hb.elim
    · exact J_I hb
  · exact J_F hb

/-- The part of a slice, by its header. -/
theorem sub_rd {w : World} {I : Nat → Prop} {v u : Value} {own : Bool} {n : Nat} {es : List (List C)} (h : Rd w I v (.sl own n es)) {lo hi : Nat} (hs : SubOf v n lo hi u) (h1 : lo ≤ hi) (h2 : hi ≤ es.length) :
    Rd w I u (.sl own n ((es.take hi).drop lo)) := by
  rcases hs with ⟨rfl, rfl⟩ | ⟨g, o, len, cap, o', cap', rfl, rfl, h3, h4, h5⟩
  · cases h with
    | nil => simp; exact .nil _ _ _ _
  · obtain ⟨a, cap2, e⟩ := h.form
    cases e
    refine Rd.part h lo hi cap' h1 h2 h4 _ fun hlt b ob ha => ?_
    cases ha
    rcases h5 with rfl | ⟨h6, _⟩
    · rfl
    · omega

theorem withC_rd {w0 : World} {A : AA} {B : List (Nat × Nat × Nat)} {g : G} {s : S} {w : World} (hm : Mem w0 A B g s w) {u : Value} {x : X} {k : Nat → List (List C) → Prop} (hx : XOk w g s.regs u x) (h : withC s x k) :
    ∃ n es, Rd w g.J u (.sl true n es) ∧ k n es := by
  cases x with
  | sc v => exact h.elim
  | nil n =>
    have : u = .slice none 0 0 := hx
    subst this
    exact ⟨n, [], .nil _ _ _ _, h⟩
  | rd ln n es =>
    simp only [withC] at h
    split at h
    · rename_i hl
      refine ⟨n, es, ?_, h⟩
      exact Ln_J (φ := fun I => Rd w I u (.sl true n es)) rfl hx hl fun I hI hr => hr.frame hI fun _ _ => rfl
    · exact h.elim
  | ref c gn =>
    simp only [withC] at h
    split at h
    · rename_i r hr
      obtain ⟨h1, h2, h3⟩ := regAt_some hr
      obtain ⟨r', h4, h5, h6⟩ := hx
      rw [h1] at h4
      cases h4
      rw [h6 h2 h3.symm]
      exact ⟨_, _, reg_rd hm h1 h2, h⟩
    · exact h.elim
  | sub c gn lo hi =>
    simp only [withC] at h
    split at h
    · rename_i r hr
      obtain ⟨h1, h2, h3⟩ := regAt_some hr
      obtain ⟨r', h4, h5, h6⟩ := hx
      rw [h1] at h4
      cases h4
      obtain ⟨h7, h8, h9⟩ := h6 h2 h3.symm
      exact ⟨_, _, sub_rd (reg_rd hm h1 h2) h7 h8 h9, h⟩
    · exact h.elim
  | inn c iv i j =>
    simp only [withC] at h
    split at h
    · rename_i r hr
      obtain ⟨h1, h2, h3⟩ := regIv_some hr
      obtain ⟨r', h4, h5, h6⟩ := hx
      rw [h1] at h4
      cases h4
      obtain ⟨b, o, len, cap, e1, e2, e3, e4, e5⟩ := h6 h2 h3.symm
      obtain ⟨row, n, es, hrow, hj, hk⟩ := h
      obtain ⟨b', o', cap', f1, f2, f3, f4⟩ := (reg_rd hm h1 h2).elem hrow
      rw [e1] at f1
      cases f1
      obtain ⟨u', hu, _, hr'⟩ := f4 j _ hj
      rw [e5] at hu
      cases hu
      exact ⟨n, es, hr', hk⟩
    · exact h.elim

end Go.Proofs.Ytppfojiogappaaa.V
