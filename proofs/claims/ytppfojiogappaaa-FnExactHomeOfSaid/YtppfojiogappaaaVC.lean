/- How the relation goes over a change of the world: a block laid, a box or a reg written, regs given up and taken. -/
import Derived.Test.YtppfojiogappaaaVB
set_option linter.unusedVariables false
set_option linter.unusedSimpArgs false
namespace Go.Proofs.Ytppfojiogappaaa.V
open Go Classical

def memb : List Nat → Nat → Bool
  | [], _ => false
  | k :: r, a => if k = a then true else memb r a
def kill (l : List (Nat × Reg)) (ks : List Nat) : List (Nat × Reg) := l.map fun p => if memb ks p.1 then (p.1, { p.2 with live := false }) else p

theorem get_kill (l : List (Nat × Reg)) (ks : List Nat) (h : Nat) : get (kill l ks) h = (get l h).map fun r => if memb ks h then { r with live := false } else r := by
  induction l with
  | nil => rfl
  | cons p l ih =>
    obtain ⟨k, r⟩ := p
    simp only [kill, List.map_cons]
    by_cases hk : k = h
    · subst hk
      by_cases hm : memb ks k = true
      · simp [hm, get]
      · simp [hm, get]
    · have : get (kill l ks) h = (get l h).map fun r => if memb ks h then { r with live := false } else r := ih
      unfold kill at this
      by_cases hm : memb ks k = true
      · simp [hm, get, hk, this]
      · simp [hm, get, hk, this]

def G.release (g : G) (ks : List Nat) : G :=
  { g with ow := fun x => match g.ow x with
    | .reg k => if memb ks k then .none else .reg k
    | t => t }

theorem release_imm (g : G) (ks : List Nat) (x : Nat) : (g.release ks).ow x = .imm ↔ g.ow x = .imm := by
  unfold G.release
  cases h : g.ow x with
  | reg k => by_cases hm : memb ks k = true <;> simp [h, hm]
  | _ => simp [h]
theorem release_box (g : G) (ks : List Nat) (x b : Nat) : (g.release ks).ow x = .box b ↔ g.ow x = .box b := by
  unfold G.release
  cases h : g.ow x with
  | reg k => by_cases hm : memb ks k = true <;> simp [h, hm]
  | _ => simp [h]
theorem release_reg (g : G) (ks : List Nat) (x h : Nat) : (g.release ks).ow x = .reg h ↔ g.ow x = .reg h ∧ memb ks h = false := by
  unfold G.release
  cases e : g.ow x with
  | reg k =>
    by_cases hm : memb ks k = true
    · simp only [hm, e, if_true, Tag.reg.injEq]
      constructor
      · intro h; cases h
      · rintro ⟨rfl, h2⟩; rw [hm] at h2; cases h2
    · simp only [hm, e, Tag.reg.injEq]
      constructor
      · intro h1
        have : k = h := by simpa using h1
        subst this
        exact ⟨rfl, by simpa using hm⟩
      · rintro ⟨rfl, _⟩; simp
  | _ => simp [e]
theorem release_none (g : G) (ks : List Nat) (x : Nat) : (g.release ks).ow x = .none ↔ g.ow x = .none ∨ ∃ k, g.ow x = .reg k ∧ memb ks k = true := by
  unfold G.release
  cases e : g.ow x with
  | reg k => by_cases hm : memb ks k = true <;> simp [e, hm]
  | _ => simp [e]

theorem release_I (g : G) (ks : List Nat) : (g.release ks).I = g.I := by
  funext x
  exact propext (release_imm g ks x)

/-- The world changes in blocks of given up regs, of boxes 'bs', and beyond what there was. -/
theorem Mem.change {w0 : World} {A : AA} {B : List (Nat × Nat × Nat)} {g : G} {S : V.S} {w w' : World} (hm : Mem w0 A B g S w) (ks : List Nat) (bs : Nat → Prop)
    (hx : Ext w0 A B w') (hsz : w.heap.size ≤ w'.heap.size)
    (hk : ∀ x, x < w.heap.size → (∀ k, memb ks k = true → g.ow x ≠ .reg k) → (∀ b, bs b → g.ow x ≠ .box b) → w'.heap[x]? = w.heap[x]?) :
    Step g S w (g.release ks) { S with regs := kill S.regs ks } w' ∧
      ((∀ b x, get S.boxes b = some x → bs b → BoxOk w0 B (g.release ks) (kill S.regs ks) w' b x.cells) → Mem w0 A B (g.release ks) { S with regs := kill S.regs ks } w') := by
  have hst : Step g S w (g.release ks) { S with regs := kill S.regs ks } w' := by
    refine ⟨fun x hi => ⟨(release_imm g ks x).2 hi, hk x (hm.lt x (by rw [hi]; simp)) (fun k _ => by rw [hi]; simp) (fun b _ => by rw [hi]; simp)⟩, fun h r hr => ?_, fun b x hb => ⟨x, hb, Nat.le_refl _, fun _ => rfl⟩⟩
    refine ⟨if memb ks h then { r with live := false } else r, by simp [get_kill, hr], ?_⟩
    by_cases hmb : memb ks h = true
    · simp [hmb]
    · rw [if_neg hmb]
      refine ⟨Nat.le_refl _, Nat.le_refl _, fun hl _ => ⟨hl, rfl, rfl, rfl⟩, fun hl _ => ⟨hl, rfl, fun x hx => ⟨(release_reg g ks x h).2 ⟨hx, by simpa using hmb⟩, ?_⟩⟩⟩
      refine hk x (hm.lt x (by rw [hx]; simp)) (fun k hkm e => ?_) (fun b _ => by rw [hx]; simp)
      rw [hx] at e
      cases e
      exact hmb hkm
  refine ⟨hst, fun hbs => ⟨hx, fun x hx' => ?_, fun x h hx' => hm.fr x h ((release_reg g ks x h).1 hx').1, fun h r hr hl => ?_, fun b x hb => ?_, fun x hx => hm.im x ((release_imm g ks x).1 hx), hm.pl⟩⟩
  · refine Nat.lt_of_lt_of_le (hm.lt x fun e => hx' ?_) hsz
    exact (release_none g ks x).2 (.inl e)
  · simp only [get_kill] at hr
    cases hr0 : get S.regs h with
    | none => rw [hr0] at hr; cases hr
    | some r0 =>
      rw [hr0] at hr
      simp only [Option.map_some, Option.some.injEq] at hr
      by_cases hmb : memb ks h = true
      · rw [if_pos hmb] at hr
        subst hr
        cases hl
      · rw [if_neg hmb] at hr
        subst hr
        have ho := hm.regs h _ hr0 hl
        refine ho.frame ?_ (fun x hx => (release_reg g ks x h).2 ⟨hx, by simpa using hmb⟩) ?_ ?_
        · intro x
          rw [release_I]
          exact id
        · intro x hx
          split at hx
          · exact hx.elim
          · exact (hst.im x hx).2
        · intro x hx
          have hx' : g.ow x = .reg h := hx
          refine hk x (hm.lt x (by rw [hx']; simp)) (fun k hkm e => ?_) (fun b _ => by rw [hx']; simp)
          rw [hx'] at e
          cases e
          exact hmb hkm
  · by_cases hb' : bs b
    · exact hbs b x hb hb'
    · have ho := hm.boxes b x hb
      refine BoxOk.step hst ho rfl ((release_box g ks _ b).2 ho.1) (hk _ (hm.lt _ (by rw [ho.1]; simp)) (fun k _ => by rw [ho.1]; simp) (fun c hc e => ?_))
      rw [ho.1] at e
      cases e
      exact hb' hc

noncomputable def G.adopt (g : G) (h : Nat) (F : Nat → Prop) (v : Value) : G :=
  { g with ow := fun x => if F x then .reg h else g.ow x, val := fun k => if k = h then v else g.val k }

/-- A slice of the call's own gets a name. -/
theorem Mem.adopt {w0 : World} {A : AA} {B : List (Nat × Nat × Nat)} {g : G} {S : V.S} {w : World} (hm : Mem w0 A B g S w) (h : Nat) (R : Reg) (F : Nat → Prop) (v : Value)
    (hF : ∀ x, F x → g.ow x = .none ∧ x < w.heap.size ∧ (A x ∨ w0.heap.size ≤ x)) (hO : Own w (if R.pure then fun _ => False else g.I) F v (.sl true R.n R.es))
    (hnew : ∀ r, get S.regs h = some r → r.gen < R.gen ∧ r.iv < R.iv) :
    Step g S w (g.adopt h F v) { S with regs := put S.regs h R } w ∧ Mem w0 A B (g.adopt h F v) { S with regs := put S.regs h R } w := by
  have hI : (g.adopt h F v).I = g.I := by
    funext x
    show ((if F x then Tag.reg h else g.ow x) = .imm) = (g.ow x = .imm)
    by_cases hx : F x
    · simp [hx, (hF x hx).1]
    · simp [hx]
  have hst : Step g S w (g.adopt h F v) { S with regs := put S.regs h R } w := by
    refine ⟨fun x hi => ⟨?_, rfl⟩, fun k r hr => ?_, fun b x hb => ⟨x, hb, Nat.le_refl _, fun _ => rfl⟩⟩
    · have : (g.adopt h F v).I x := by rw [hI]; exact hi
      exact this
    · by_cases hkh : h = k
      · subst hkh
        have := hnew r hr
        refine ⟨R, get_put_same _ _ _, by omega, by omega, fun _ e => by omega, fun _ e => by omega⟩
      · refine ⟨r, by simp [get_put_ne _ _ hkh, hr], Nat.le_refl _, Nat.le_refl _, fun hl _ => ⟨hl, ?_, rfl, rfl⟩, fun hl _ => ⟨hl, rfl, fun x hx => ⟨?_, rfl⟩⟩⟩
        · show (if k = h then v else g.val k) = g.val k
          rw [if_neg (Ne.symm hkh)]
        · show (if F x then Tag.reg h else g.ow x) = .reg k
          rw [if_neg (fun hf => by rw [(hF x hf).1] at hx; cases hx)]
          exact hx
  refine ⟨hst, hm.ext, fun x hx => ?_, fun x k hx => ?_, fun k r hr hl => ?_, fun b x hb => ?_, fun x hx => hm.im x (by have h9 : (g.adopt h F v).I x := hx; rw [hI] at h9; exact h9), hm.pl⟩
  · by_cases hf : F x
    · exact (hF x hf).2.1
    · refine hm.lt x fun e => hx ?_
      show (if F x then Tag.reg h else g.ow x) = .none
      rw [if_neg hf, e]
  · by_cases hf : F x
    · exact (hF x hf).2.2
    · have hx' : (if F x then Tag.reg h else g.ow x) = .reg k := hx
      rw [if_neg hf] at hx'
      exact hm.fr x k hx'
  · rw [hI]
    simp only [get_put] at hr
    by_cases hkh : h = k
    · subst hkh
      simp only [if_true, Option.some.injEq] at hr
      subst hr
      have : (g.adopt h F v).val h = v := by simp [G.adopt]
      rw [this]
      exact hO.frame (fun _ hb => hb) (fun x hx => by show (if F x then Tag.reg h else g.ow x) = .reg h; rw [if_pos hx]) (fun _ _ => rfl) (fun _ _ => rfl)
    · rw [if_neg hkh] at hr
      have : (g.adopt h F v).val k = g.val k := by simp [G.adopt, Ne.symm hkh]
      rw [this]
      refine (hm.regs k r hr hl).frame (fun _ hb => hb) (fun x hx => ?_) (fun _ _ => rfl) (fun _ _ => rfl)
      show (if F x then Tag.reg h else g.ow x) = .reg k
      have hx' : g.ow x = .reg k := hx
      rw [if_neg (fun hf => by rw [(hF x hf).1] at hx'; cases hx')]
      exact hx'
  · have ho := hm.boxes b x hb
    refine BoxOk.step hst ho rfl ?_ rfl
    show (if F (g.loc b).1 then Tag.reg h else g.ow (g.loc b).1) = .box b
    rw [if_neg (fun hf => by have := ho.1; rw [(hF _ hf).1] at this; cases this)]
    exact ho.1

theorem Ext.same {w0 : World} {A : AA} {B : List (Nat × Nat × Nat)} {w w' : World} (h : Ext w0 A B w) (h1 : w'.os = w.os) (h2 : w'.tape = w.tape) (h3 : w'.output = w.output)
    (h4 : w.heap.size ≤ w'.heap.size) (h5 : ∀ x, x < w0.heap.size → ¬ A x → w'.heap[x]? = w.heap[x]?) : Ext w0 A B w' := by
  refine ⟨h1.trans h.os, h2.trans h.tape, h3.trans h.output, Nat.le_trans h.size h4, fun b hb hA hB => (h5 b hb hA).trans (h.keep b hb hA hB), fun p hp hA cs e fr hc => ?_⟩
  obtain ⟨cs', hc', h6, h7⟩ := h.rng p hp hA cs e fr hc
  exact ⟨cs', (h5 _ (Array.getElem?_eq_some_iff.1 hc).1 hA).trans hc', h6, h7⟩

theorem heap_alloc_lt (w : World) (o : Obj) (x : Nat) (h : x < w.heap.size) : (w.alloc o).heap[x]? = w.heap[x]? := heap_alloc_old w o x h

theorem Ext.alloc {w0 : World} {A : AA} {B : List (Nat × Nat × Nat)} {w : World} (h : Ext w0 A B w) (o : Obj) : Ext w0 A B (w.alloc o) :=
  h.same rfl rfl rfl (by simp) fun x hx _ => heap_alloc_lt w o x (Nat.lt_of_lt_of_le hx h.size)

def boxGen (l : List (Nat × Box)) (b : Nat) : Nat := match get l b with | some x => x.gen + 1 | none => 0

def G.newBox (g : G) (b k : Nat) : G := { g with ow := fun x => if x = k then .box b else g.ow x, loc := fun c => if c = b then (k, 0) else g.loc c }

theorem Mem.newBox {w0 : World} {A : AA} {B : List (Nat × Nat × Nat)} {g : G} {S : V.S} {w : World} (hm : Mem w0 A B g S w) (b : Nat) (us : Array Value) (e : TypeId) (xs : List X)
    (hc : CellsOk w g S.regs us xs) (h1 : ∀ (j : Nat) (u : Value), us[j]? = some u → u.oneCell' = true) :
    Step g S w (g.newBox b w.heap.size) { S with boxes := put S.boxes b ⟨boxGen S.boxes b, xs⟩ } (w.alloc (.cells us e)) ∧
      Mem w0 A B (g.newBox b w.heap.size) { S with boxes := put S.boxes b ⟨boxGen S.boxes b, xs⟩ } (w.alloc (.cells us e)) := by
  have hn : ∀ x, g.ow x ≠ .none → x ≠ w.heap.size := fun x hx e => by have := hm.lt x hx; omega
  have how : ∀ x, g.ow x ≠ .none → (g.newBox b w.heap.size).ow x = g.ow x := fun x hx => by simp [G.newBox, hn x hx]
  have how' : ∀ x, (g.newBox b w.heap.size).ow x ≠ g.ow x → x = w.heap.size := fun x hx => by
    by_cases h : x = w.heap.size
    · exact h
    · simp [G.newBox, h] at hx
  have hst : Step g S w (g.newBox b w.heap.size) { S with boxes := put S.boxes b ⟨boxGen S.boxes b, xs⟩ } (w.alloc (.cells us e)) := by
    refine ⟨fun x hi => ⟨(how x (by rw [hi]; simp)).trans hi, heap_alloc_lt w _ x (hm.lt x (by rw [hi]; simp))⟩, fun h r hr => ?_, fun c x hb => ?_⟩
    · exact ⟨r, hr, Nat.le_refl _, Nat.le_refl _, fun hl _ => ⟨hl, rfl, rfl, rfl⟩, fun hl _ => ⟨hl, rfl, fun x hx => ⟨(how x (by rw [hx]; simp)).trans hx, heap_alloc_lt w _ x (hm.lt x (by rw [hx]; simp))⟩⟩⟩
    · by_cases h : b = c
      · subst h
        refine ⟨_, get_put_same _ _ _, ?_, ?_⟩ <;> simp [boxGen, hb]
      · exact ⟨x, by simp [get_put_ne _ _ h, hb], Nat.le_refl _, fun _ => by simp [G.newBox, Ne.symm h]⟩
  have hI : (g.newBox b w.heap.size).I = g.I := by
    funext x
    by_cases hx : x = w.heap.size
    · have : g.ow x = .none := by
        by_cases h : g.ow x = .none
        · exact h
        · exact absurd hx (hn x h)
      simp [G.I, G.newBox, hx]
      subst hx
      rw [this]; simp
    · simp [G.I, G.newBox, hx]
  refine ⟨hst, hm.ext.alloc _, fun x hx => ?_, fun x h hx => ?_, fun h r hr hl => ?_, fun c x hb => ?_, fun x hx => hm.im x (by have h9 : (g.newBox b w.heap.size).I x := hx; rw [hI] at h9; exact h9), fun c hc => by
    obtain ⟨hbig, x, hx, hg⟩ := hm.pl c hc
    refine ⟨hbig, ?_⟩
    by_cases h : b = c
    · subst h
      exact ⟨_, get_put_same _ _ _, fun e => by simp [boxGen, hx] at e⟩
    · exact ⟨x, by simp [get_put_ne _ _ h, hx], fun e => by simp [G.newBox, Ne.symm h, hg e]⟩⟩
  · by_cases h : x = w.heap.size
    · subst h; simp
    · simp only [G.newBox, h, if_false] at hx
      have := hm.lt x hx
      simp; omega
  · by_cases h' : x = w.heap.size
    · simp [G.newBox, h'] at hx
    · simp only [G.newBox, h', if_false] at hx
      exact hm.fr x h hx
  · rw [hI]
    refine (hm.regs h r hr hl).frame (fun _ hb => hb) (fun x hx => ?_) (fun x hx => ?_) (fun x hx => ?_)
    · have hx' : g.ow x = .reg h := hx
      exact (how x (by rw [hx']; simp)).trans hx'
    · split at hx
      · exact hx.elim
      · have hx' : g.ow x = .imm := hx
        exact heap_alloc_lt w _ x (hm.lt x (by rw [hx']; simp))
    · have hx' : g.ow x = .reg h := hx
      exact heap_alloc_lt w _ x (hm.lt x (by rw [hx']; simp))
  · simp only [get_put] at hb
    by_cases h : b = c
    · subst h
      simp only [if_true, Option.some.injEq] at hb
      subst hb
      have hl : (g.newBox b w.heap.size).loc b = (w.heap.size, 0) := by simp [G.newBox]
      unfold BoxOk
      rw [hl]
      refine ⟨by simp [G.newBox], .inl hm.ext.size, us, e, heap_alloc_new w _, by simp [hc.1], fun j y hj => ?_⟩
      obtain ⟨u, hu, ho⟩ := hc.2 j y hj
      exact ⟨u, by simpa using hu, h1 j u hu, ho.step hst⟩
    · rw [if_neg h] at hb
      have ho := hm.boxes c x hb
      exact BoxOk.step hst ho (by simp [G.newBox, Ne.symm h]) ((how _ (by rw [ho.1]; simp)).trans ho.1) (heap_alloc_lt w _ _ (hm.lt _ (by rw [ho.1]; simp)))

/-- A store into a box. -/
def G.takeBox (g : G) (b : Nat) (p : Nat × Nat) : G := { g with ow := fun x => if x = p.1 then .box b else g.ow x, loc := fun c => if c = b then p else g.loc c }

/-- A variable that came back gets a name. -/
theorem Mem.adoptBox {w0 : World} {A : AA} {B : List (Nat × Nat × Nat)} {g : G} {S : V.S} {w : World} (hm : Mem w0 A B g S w) (b : Nat) (p : Nat × Nat) (xs : List X) (hp0 : g.ow p.1 = .none) (hp1 : p.1 < w.heap.size) (hp2 : w0.heap.size ≤ p.1)
    (hrow : ∃ cs e, w.heap[p.1]? = some (.cells cs e (0, 0)) ∧ p.2 + xs.length ≤ cs.size ∧ ∀ (j : Nat) (y : X), xs[j]? = some y → ∃ u, cs[p.2 + j]? = some u ∧ u.oneCell' = true ∧ XOk w g S.regs u y) :
    Step g S w (g.takeBox b p) { S with boxes := put S.boxes b ⟨boxGen S.boxes b, xs⟩ } w ∧ Mem w0 A B (g.takeBox b p) { S with boxes := put S.boxes b ⟨boxGen S.boxes b, xs⟩ } w := by
  have hn : ∀ x, g.ow x ≠ .none → x ≠ p.1 := fun x hx e => by rw [e] at hx; exact hx hp0
  have how : ∀ x, g.ow x ≠ .none → (g.takeBox b p).ow x = g.ow x := fun x hx => by simp [G.takeBox, hn x hx]
  have hst : Step g S w (g.takeBox b p) { S with boxes := put S.boxes b ⟨boxGen S.boxes b, xs⟩ } w := by
    refine ⟨fun x hi => ⟨(how x (by rw [hi]; simp)).trans hi, rfl⟩, fun h r hr => ?_, fun c x hb => ?_⟩
    · exact ⟨r, hr, Nat.le_refl _, Nat.le_refl _, fun hl _ => ⟨hl, rfl, rfl, rfl⟩, fun hl _ => ⟨hl, rfl, fun x hx => ⟨(how x (by rw [hx]; simp)).trans hx, rfl⟩⟩⟩
    · by_cases h : b = c
      · subst h
        refine ⟨_, get_put_same _ _ _, ?_, ?_⟩ <;> simp [boxGen, hb]
      · exact ⟨x, by simp [get_put_ne _ _ h, hb], Nat.le_refl _, fun _ => by simp [G.takeBox, Ne.symm h]⟩
  have hI : (g.takeBox b p).I = g.I := by
    funext x
    by_cases hx : x = p.1
    · simp [G.I, G.takeBox, hx]
      rw [hp0]; simp
    · simp [G.I, G.takeBox, hx]
  refine ⟨hst, hm.ext, fun x hx => ?_, fun x h hx => ?_, fun h r hr hl => ?_, fun c x hb => ?_, fun x hx => hm.im x (by have h9 : (g.takeBox b p).I x := hx; rw [hI] at h9; exact h9), fun c hc => by
    obtain ⟨hbig, x, hx, hg⟩ := hm.pl c hc
    refine ⟨hbig, ?_⟩
    by_cases h : b = c
    · subst h
      exact ⟨_, get_put_same _ _ _, fun e => by simp [boxGen, hx] at e⟩
    · exact ⟨x, by simp [get_put_ne _ _ h, hx], fun e => by simp [G.takeBox, Ne.symm h, hg e]⟩⟩
  · by_cases h : x = p.1
    · subst h; exact hp1
    · simp only [G.takeBox, h, if_false] at hx
      exact hm.lt x hx
  · by_cases h' : x = p.1
    · simp [G.takeBox, h'] at hx
    · simp only [G.takeBox, h', if_false] at hx
      exact hm.fr x h hx
  · rw [hI]
    refine (hm.regs h r hr hl).frame (fun _ hb => hb) (fun x hx => ?_) (fun _ _ => rfl) (fun _ _ => rfl)
    have hx' : g.ow x = .reg h := hx
    exact (how x (by rw [hx']; simp)).trans hx'
  · simp only [get_put] at hb
    by_cases h : b = c
    · subst h
      simp only [if_true, Option.some.injEq] at hb
      subst hb
      have hl : (g.takeBox b p).loc b = p := by simp [G.takeBox]
      unfold BoxOk
      rw [hl]
      obtain ⟨cs, e, h1, h2, h3⟩ := hrow
      refine ⟨by simp [G.takeBox], .inl hp2, cs, e, h1, h2, fun j y hj => ?_⟩
      obtain ⟨u, hu, h4, ho⟩ := h3 j y hj
      exact ⟨u, hu, h4, ho.step hst⟩
    · rw [if_neg h] at hb
      have ho := hm.boxes c x hb
      exact BoxOk.step hst ho (by simp [G.takeBox, Ne.symm h]) ((how _ (by rw [ho.1]; simp)).trans ho.1) rfl

theorem Mem.setBox {w0 : World} {A : AA} {B : List (Nat × Nat × Nat)} {g : G} {S : V.S} {w w' : World} (hm : Mem w0 A B g S w) (b : Nat) (bx : Box) (hb : get S.boxes b = some bx)
    (cs cs' : Array Value) (e : TypeId) (hcs : w.heap[(g.loc b).1]? = some (.cells cs e (0, 0))) (hcs' : w'.heap[(g.loc b).1]? = some (.cells cs' e (0, 0))) (hsz : cs'.size = cs.size)
    (hrest : ∀ k, (k < (g.loc b).2 ∨ (g.loc b).2 + bx.cells.length ≤ k) → cs'[k]? = cs[k]?)
    (hoth : ∀ x, x ≠ (g.loc b).1 → w'.heap[x]? = w.heap[x]?) (ho : w'.os = w.os) (ht : w'.tape = w.tape) (hout : w'.output = w.output) (hhs : w'.heap.size = w.heap.size)
    (xs' : List X) (hlen : xs'.length = bx.cells.length)
    (hin : ∀ (j : Nat) (y : X), xs'[j]? = some y → ∃ u, cs'[(g.loc b).2 + j]? = some u ∧ u.oneCell' = true ∧ XOk w g S.regs u y) :
    Step g S w g { S with boxes := put S.boxes b { bx with cells := xs' } } w' ∧ Mem w0 A B g { S with boxes := put S.boxes b { bx with cells := xs' } } w' := by
  have hbk := hm.boxes b bx hb
  have hst : Step g S w g { S with boxes := put S.boxes b { bx with cells := xs' } } w' := by
    refine ⟨fun x hi => ⟨hi, hoth x fun e => ?_⟩, fun h r hr => ⟨r, hr, Nat.le_refl _, Nat.le_refl _, fun hl _ => ⟨hl, rfl, rfl, rfl⟩, fun hl _ => ⟨hl, rfl, fun x hx => ⟨hx, hoth x fun e => ?_⟩⟩⟩, fun c x hc => ?_⟩
    · rw [e, hbk.1] at hi; cases hi
    · rw [e, hbk.1] at hx; cases hx
    · by_cases h : b = c
      · subst h
        rw [hb] at hc
        cases hc
        exact ⟨_, get_put_same _ _ _, Nat.le_refl _, fun _ => rfl⟩
      · exact ⟨x, by simp [get_put_ne _ _ h, hc], Nat.le_refl _, fun _ => rfl⟩
  refine ⟨hst, ?_, fun x hx => by rw [hhs]; exact hm.lt x hx, hm.fr, fun h r hr hl => ?_, fun c x hc => ?_, hm.im, fun c hc => by
    obtain ⟨hbig, x, hx, hg⟩ := hm.pl c hc
    refine ⟨hbig, ?_⟩
    by_cases h : b = c
    · subst h
      rw [hb] at hx
      cases hx
      exact ⟨_, get_put_same _ _ _, hg⟩
    · exact ⟨x, by simp [get_put_ne _ _ h, hx], hg⟩⟩
  · refine ⟨ho.trans hm.ext.os, ht.trans hm.ext.tape, hout.trans hm.ext.output, by rw [hhs]; exact hm.ext.size, fun x hx hA hB => ?_, fun p hp hA cs0 e0 fr0 hc0 => ?_⟩
    · rw [hoth x fun e => ?_]
      · exact hm.ext.keep x hx hA hB
      · rcases hbk.2.1 with h | h
        · omega
        · exact hB _ h e.symm
    · obtain ⟨cs1, h1, h2, h3⟩ := hm.ext.rng p hp hA cs0 e0 fr0 hc0
      by_cases hpe : p.1 = (g.loc b).1
      · rw [hpe] at h1
        rw [hcs] at h1
        cases h1
        refine ⟨cs', by rw [hpe]; exact hcs', hsz.trans h2, fun k hk => ?_⟩
        rw [hrest k ?_]
        · exact h3 k hk
        · rcases hbk.2.1 with h | h
          · have := (Array.getElem?_eq_some_iff.1 hc0).1
            omega
          · exact hk _ h hpe.symm
      · exact ⟨cs1, by rw [hoth _ hpe]; exact h1, h2, h3⟩
  · refine (hm.regs h r hr hl).frame (fun _ hb => hb) (fun _ hb => hb) (fun x hx => hoth x fun e => ?_) (fun x hx => hoth x fun e => ?_)
    · split at hx
      · exact hx.elim
      · have hx' : g.ow x = .imm := hx
        rw [e, hbk.1] at hx'; cases hx'
    · have hx' : g.ow x = .reg h := hx
      rw [e, hbk.1] at hx'; cases hx'
  · simp only [get_put] at hc
    by_cases h : b = c
    · subst h
      simp only [if_true, Option.some.injEq] at hc
      subst hc
      obtain ⟨q1, q2, cs1, e1, q3, q4, q5⟩ := hbk
      rw [hcs] at q3
      cases q3
      refine ⟨q1, by simpa [hlen] using q2, cs', e, hcs', by simp only [hlen]; omega, fun j y hj => ?_⟩
      obtain ⟨u, hu, h1, hx⟩ := hin j y hj
      exact ⟨u, hu, h1, hx.step hst⟩
    · rw [if_neg h] at hc
      have hk := hm.boxes c x hc
      refine BoxOk.step hst hk rfl hk.1 (hoth _ fun e => ?_)
      have := hk.1
      rw [e, hbk.1] at this
      cases this
      exact h rfl

noncomputable def G.merge (g : G) (ks : List Nat) (h : Nat) : G :=
  { g with ow := fun x => match g.ow x with
    | .reg k => if memb ks k then .reg h else .reg k
    | t => t }

theorem merge_ne {g : G} {ks : List Nat} {h x : Nat} (hx : ∀ k, g.ow x ≠ .reg k) : (g.merge ks h).ow x = g.ow x := by
  unfold G.merge
  cases e : g.ow x with
  | reg k => exact absurd e (hx k)
  | _ => simp [e]

theorem merge_reg {g : G} {ks : List Nat} {h x k : Nat} (hk : g.ow x = .reg k) : (g.merge ks h).ow x = if memb ks k then .reg h else .reg k := by
  unfold G.merge
  simp [hk]

/-- A store into an element of a reg; regs 'ks' go into it. -/
theorem Mem.setEl {w0 : World} {A : AA} {B : List (Nat × Nat × Nat)} {g : G} {S : V.S} {w w' : World} (hm : Mem w0 A B g S w) (h : Nat) (r : Reg) (hr : get S.regs h = some r) (hl : r.live = true)
    (ks : List Nat) (hks : memb ks h = false) (es' : List (List C)) (p' : Bool) (hlen : es'.length = r.es.length)
    (hoth : ∀ x, g.ow x ≠ .reg h → w'.heap[x]? = w.heap[x]?) (ho : w'.os = w.os) (ht : w'.tape = w.tape) (hout : w'.output = w.output) (hhs : w'.heap.size = w.heap.size)
    (hO : Own w' (if p' then fun _ => False else g.I) (g.merge ks h |>.F h) (g.val h) (.sl true r.n es')) :
    Step g S w (g.merge ks h) { S with regs := put (kill S.regs ks) h { r with iv := r.iv + 1, es := es', pure := p' } } w' ∧
      Mem w0 A B (g.merge ks h) { S with regs := put (kill S.regs ks) h { r with iv := r.iv + 1, es := es', pure := p' } } w' := by
  have himm : ∀ x, g.ow x = .imm → (g.merge ks h).ow x = .imm := fun x hi => by rw [merge_ne (fun k => by rw [hi]; simp)]; exact hi
  have hI : (g.merge ks h).I = g.I := by
    funext x
    apply propext
    constructor
    · intro hx
      have hx' : (g.merge ks h).ow x = .imm := hx
      show g.ow x = .imm
      cases e : g.ow x with
      | reg k =>
        rw [merge_reg e] at hx'
        split at hx' <;> cases hx'
      | imm => rfl
      | none => rw [merge_ne (fun k => by rw [e]; simp), e] at hx'; cases hx'
      | box b => rw [merge_ne (fun k => by rw [e]; simp), e] at hx'; cases hx'
    · exact himm x
  have hst : Step g S w (g.merge ks h) { S with regs := put (kill S.regs ks) h { r with iv := r.iv + 1, es := es', pure := p' } } w' := by
    refine ⟨fun x hi => ⟨himm x hi, hoth x (by rw [hi]; simp)⟩, fun k r0 hr0 => ?_, fun c x hc => ⟨x, hc, Nat.le_refl _, fun _ => rfl⟩⟩
    by_cases hkh : h = k
    · subst hkh
      rw [hr] at hr0
      cases hr0
      exact ⟨_, get_put_same _ _ _, Nat.le_refl _, by simp, fun _ _ => ⟨hl, rfl, rfl, hlen⟩, fun _ e => by simp at e⟩
    · refine ⟨if memb ks k then { r0 with live := false } else r0, by simp [get_put_ne _ _ hkh, get_kill, hr0], ?_⟩
      by_cases hmb : memb ks k = true
      · simp [hmb]
      · rw [if_neg hmb]
        refine ⟨Nat.le_refl _, Nat.le_refl _, fun hl _ => ⟨hl, rfl, rfl, rfl⟩, fun hl _ => ⟨hl, rfl, fun x hx => ⟨?_, hoth x ?_⟩⟩⟩
        · rw [merge_reg hx, if_neg hmb]
        · rw [hx]; intro e; cases e; exact hkh rfl
  refine ⟨hst, ?_, fun x hx => ?_, fun x k hx => ?_, fun k r0 hr0 hl0 => ?_, fun c x hc => ?_, fun x hx => hm.im x (by have h9 : (g.merge ks h).I x := hx; rw [hI] at h9; exact h9), hm.pl⟩
  · refine hm.ext.same ho ht hout (by omega) fun x hx hA => hoth x fun e => ?_
    rcases hm.fr x h e with h1 | h1
    · exact hA h1
    · omega
  · rw [hhs]
    refine hm.lt x fun e => hx ?_
    rw [merge_ne (fun k => by rw [e]; simp)]
    exact e
  · cases e : g.ow x with
    | reg k0 => exact hm.fr x k0 e
    | _ => rw [merge_ne (fun k => by rw [e]; simp), e] at hx; first | done | cases hx
  · rw [hI]
    simp only [get_put] at hr0
    by_cases hkh : h = k
    · subst hkh
      simp only [if_true, Option.some.injEq] at hr0
      subst hr0
      exact hO
    · rw [if_neg hkh, get_kill] at hr0
      cases hr1 : get S.regs k with
      | none => rw [hr1] at hr0; cases hr0
      | some r1 =>
        rw [hr1] at hr0
        simp only [Option.map_some, Option.some.injEq] at hr0
        by_cases hmb : memb ks k = true
        · rw [if_pos hmb] at hr0; subst hr0; cases hl0
        · rw [if_neg hmb] at hr0
          subst hr0
          refine (hm.regs k _ hr1 hl0).frame (fun _ hb => hb) (fun x hx => ?_) (fun x hx => ?_) (fun x hx => ?_)
          · have hx' : g.ow x = .reg k := hx
            show (g.merge ks h).ow x = .reg k
            rw [merge_reg hx', if_neg hmb]
          · split at hx
            · exact hx.elim
            · have hx' : g.ow x = .imm := hx
              exact hoth x (by rw [hx']; simp)
          · have hx' : g.ow x = .reg k := hx
            exact hoth x (by rw [hx']; intro e; cases e; exact hkh rfl)
  · have hk := hm.boxes c x hc
    exact BoxOk.step hst hk rfl (by rw [merge_ne (fun k => by rw [hk.1]; simp)]; exact hk.1) (hoth _ (by rw [hk.1]; simp))

end Go.Proofs.Ytppfojiogappaaa.V
