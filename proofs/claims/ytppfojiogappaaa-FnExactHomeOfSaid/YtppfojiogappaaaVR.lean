/- Stages of what a call leaves behind: the world turns in given-up regs and handed boxes; blocks become shared; boxes are told anew. -/
import Derived.Test.YtppfojiogappaaaVQB
set_option linter.unusedVariables false
set_option linter.unusedSimpArgs false
namespace Go.Proofs.Ytppfojiogappaaa.V
open Go Classical

def mapB (l : List (Nat × Box)) (f : Nat → Box → Box) : List (Nat × Box) := l.map fun p => (p.1, f p.1 p.2)

theorem get_mapB (l : List (Nat × Box)) (f : Nat → Box → Box) (b : Nat) : get (mapB l f) b = (get l b).map (f b) := by
  induction l with
  | nil => rfl
  | cons p r ih =>
    obtain ⟨k, v⟩ := p
    have e : mapB ((k, v) :: r) f = (k, f k v) :: mapB r f := rfl
    rw [e]
    simp only [get]
    by_cases h : k = b
    · subst h; simp
    · simp [h, ih]

section
variable {w0 : World} {A : AA} {B : List (Nat × Nat × Nat)}

/-- As Mem.change; the boxes 'bs' hold something else after it. -/
theorem Mem.turn {g : G} {S : V.S} {w w' : World} (hm : Mem w0 A B g S w) (ks : List Nat) (bs : Nat → Prop) (f : Nat → Box → Box) (hf : ∀ b x, (f b x).gen = x.gen) (hfn : ∀ b x, ¬ bs b → f b x = x)
    (hx : Ext w0 A B w') (hsz : w.heap.size ≤ w'.heap.size)
    (hk : ∀ x, x < w.heap.size → (∀ k, memb ks k = true → g.ow x ≠ .reg k) → (∀ b, bs b → x ≠ (g.loc b).1) → w'.heap[x]? = w.heap[x]?)
    (hb : ∀ b x, get S.boxes b = some x → bs b → BoxOk w0 B (g.release ks) (kill S.regs ks) w' b (f b x).cells) (hbs : ∀ b, bs b → ∃ x, get S.boxes b = some x) :
    Step g S w (g.release ks) { S with regs := kill S.regs ks, boxes := mapB S.boxes f } w' ∧ Mem w0 A B (g.release ks) { S with regs := kill S.regs ks, boxes := mapB S.boxes f } w' := by
  have hbt : ∀ b, bs b → g.ow (g.loc b).1 = .box b := fun b h => let ⟨x, hx⟩ := hbs b h; (hm.boxes b x hx).1
  obtain ⟨hst, h2⟩ := hm.change ks bs hx hsz (fun x h1 h2 h3 => hk x h1 h2 (fun b hb e => by
    have := h3 b hb
    rw [e] at this
    exact this (hbt b hb)))
  refine ⟨⟨hst.im, hst.rg, fun b x hx => ⟨f b x, by simp [get_mapB, hx], by rw [hf]; exact Nat.le_refl _, fun _ => rfl⟩⟩, ?_⟩
  refine ⟨hx, fun x hx' => ?_, fun x h hx' => hm.fr x h ((release_reg g ks x h).1 hx').1, ?_, fun b x hx => ?_, fun x hx => hm.im x ((release_imm g ks x).1 hx), fun c hc => by
    obtain ⟨hbig, x, hx, hg⟩ := hm.pl c hc
    exact ⟨hbig, f c x, by simp [get_mapB, hx], fun e => hg (by rw [hf] at e; exact e)⟩⟩
  · refine Nat.lt_of_lt_of_le (hm.lt x fun e => hx' ?_) hsz
    exact (release_none g ks x).2 (.inl e)
  · intro h r hr hl
    simp only [get_kill] at hr
    cases hr0 : get S.regs h with
    | none => rw [hr0] at hr; cases hr
    | some r0 =>
      rw [hr0] at hr
      simp only [Option.map_some, Option.some.injEq] at hr
      by_cases hmb : memb ks h = true
      · rw [if_pos hmb] at hr
        subst hr
        cases hl
      · rw [if_neg hmb] at hr
        subst hr
        have ho := hm.regs h _ hr0 hl
        refine ho.frame ?_ (fun x hx => (release_reg g ks x h).2 ⟨hx, by simpa using hmb⟩) ?_ ?_
        · intro x
          rw [release_I]
          exact id
        · intro x hx
          split at hx
          · exact hx.elim
          · exact (hst.im x hx).2
        · intro x hx
          have hx' : g.ow x = .reg h := hx
          refine hk x (hm.lt x (by rw [hx']; simp)) (fun k hkm e => ?_) (fun b hb e => ?_)
          · rw [hx'] at e
            cases e
            exact hmb hkm
          · have := hbt b hb
            rw [← e, hx'] at this
            cases this
  · simp only [get_mapB] at hx
    cases hx0 : get S.boxes b with
    | none => rw [hx0] at hx; cases hx
    | some x0 =>
      rw [hx0] at hx
      simp only [Option.map_some, Option.some.injEq] at hx
      subst hx
      by_cases hb' : bs b
      · exact hb b x0 hx0 hb'
      · rw [hfn b x0 hb']
        have ho := hm.boxes b x0 hx0
        refine BoxOk.step hst ho rfl ((release_box g ks _ b).2 ho.1) (hk _ (hm.lt _ (by rw [ho.1]; simp)) (fun k _ => by rw [ho.1]; simp) (fun c hc e => ?_))
        have := hbt c hc
        rw [← e, ho.1] at this
        cases this
        exact hb' hc

noncomputable def G.share (g : G) (I : Nat → Prop) : G := { g with ow := fun x => if g.ow x = .none ∧ I x then .imm else g.ow x }

theorem share_imm {g : G} {I : Nat → Prop} {x : Nat} : (g.share I).ow x = .imm ↔ g.ow x = .imm ∨ (g.ow x = .none ∧ I x) := by
  unfold G.share
  by_cases h : g.ow x = .none ∧ I x
  · simp [h]
  · simp [h]
theorem share_ne {g : G} {I : Nat → Prop} {x : Nat} (h : g.ow x ≠ .none) : (g.share I).ow x = g.ow x := by simp [G.share, h]
theorem share_none {g : G} {I : Nat → Prop} {x : Nat} (h : g.ow x = .none) (hi : ¬ I x) : (g.share I).ow x = .none := by simp [G.share, h, hi]
theorem share_not {g : G} {I : Nat → Prop} {x : Nat} {t : Tag} (ht : t ≠ .imm) (h : (g.share I).ow x = t) : g.ow x = t := by
  unfold G.share at h
  simp only at h
  split at h
  · exact absurd h.symm ht
  · exact h

/-- Blocks that nobody names become shared. -/
theorem Mem.share {g : G} {S : V.S} {w : World} (hm : Mem w0 A B g S w) (I : Nat → Prop) (hI : ∀ x, I x → x < w.heap.size ∧ (g.ow x = .none → A.i x ∨ A x ∨ w0.heap.size ≤ x)) : Step g S w (g.share I) S w ∧ Mem w0 A B (g.share I) S w := by
  have hst : Step g S w (g.share I) S w := by
    refine ⟨fun x h => ⟨share_imm.2 (.inl h), rfl⟩, fun h r hr => ⟨r, hr, Nat.le_refl _, Nat.le_refl _, fun hl _ => ⟨hl, rfl, rfl, rfl⟩, fun hl _ => ⟨hl, rfl, fun x hx => ⟨?_, rfl⟩⟩⟩,
      fun b x hx => ⟨x, hx, Nat.le_refl _, fun _ => rfl⟩⟩
    rw [share_ne (by rw [hx]; simp)]
    exact hx
  refine ⟨hst, hm.ext, fun x hx => ?_, fun x h hx => hm.fr x h (share_not (by simp) hx), fun h r hr hl => ?_, fun b x hx => ?_, fun x hx => (share_imm.1 hx).elim (hm.im x) fun h => (hI x h.2).2 h.1, hm.pl⟩
  · by_cases hn : g.ow x = .none
    · by_cases hi : I x
      · exact (hI x hi).1
      · exact absurd (share_none hn hi) hx
    · exact hm.lt x hn
  · refine (hm.regs h r hr hl).frame ?_ (fun x hx => ?_) (fun _ _ => rfl) (fun _ _ => rfl)
    · intro x hx
      split at hx
      · exact hx.elim
      · rename_i hp
        rw [if_neg hp]
        exact share_imm.2 (.inl hx)
    · have hx' : g.ow x = .reg h := hx
      show (g.share I).ow x = .reg h
      rw [share_ne (by rw [hx']; simp)]
      exact hx'
  · have ho := hm.boxes b x hx
    refine BoxOk.step hst ho rfl ?_ rfl
    show (g.share I).ow (g.loc b).1 = .box b
    rw [share_ne (by rw [ho.1]; simp)]
    exact ho.1

/-- Boxes told anew. -/
theorem Mem.retell {g : G} {S : V.S} {w : World} (hm : Mem w0 A B g S w) (f : Nat → Box → Box) (hf : ∀ b x, (f b x).gen = x.gen)
    (hb : ∀ b x, get S.boxes b = some x → BoxOk w0 B g S.regs w b (f b x).cells) : Step g S w g { S with boxes := mapB S.boxes f } w ∧ Mem w0 A B g { S with boxes := mapB S.boxes f } w := by
  have hst := Step.refl g S w
  refine ⟨⟨hst.im, hst.rg, fun b x hx => ⟨f b x, by simp [get_mapB, hx], by rw [hf]; exact Nat.le_refl _, fun _ => rfl⟩⟩, hm.ext, hm.lt, hm.fr, hm.regs, fun b x hx => ?_, hm.im, fun c hc => by
    obtain ⟨hbig, x, hx, hg⟩ := hm.pl c hc
    exact ⟨hbig, f c x, by simp [get_mapB, hx], fun e => hg (by rw [hf] at e; exact e)⟩⟩
  simp only [get_mapB] at hx
  cases hx0 : get S.boxes b with
  | none => rw [hx0] at hx; cases hx
  | some x0 =>
    rw [hx0] at hx
    simp only [Option.map_some, Option.some.injEq] at hx
    subst hx
    exact hb b x0 hx0

end
end Go.Proofs.Ytppfojiogappaaa.V
