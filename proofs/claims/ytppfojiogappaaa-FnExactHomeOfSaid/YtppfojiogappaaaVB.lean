/- The abstract state of a call: slots, boxes (struct variables), regs (slices that the call owns); how it stands for an Act and a World. -/
import Derived.Test.YtppfojiogappaaaVA
set_option linter.unusedVariables false
set_option linter.unusedSimpArgs false
namespace Go.Proofs.Ytppfojiogappaaa.V
open Go

def get {α : Type} : List (Nat × α) → Nat → Option α
  | [], _ => none
  | (k, v) :: r, a => if k = a then some v else get r a
def put {α : Type} : List (Nat × α) → Nat → α → List (Nat × α)
  | [], a, x => [(a, x)]
  | (k, v) :: r, a, x => if k = a then (a, x) :: r else (k, v) :: put r a x

theorem get_put {α : Type} (l : List (Nat × α)) (a b : Nat) (x : α) : get (put l a x) b = if a = b then some x else get l b := by
  induction l with
  | nil => simp [put, get]
  | cons p r ih =>
    obtain ⟨k, v⟩ := p
    simp only [put]
    by_cases h : k = a
    · subst h
      by_cases h2 : k = b
      · simp [get, h2]
      · simp [get, h2]
    · simp only [h, if_false, get]
      by_cases h2 : k = b
      · subst h2
        simp [Ne.symm h]
      · simp [h2, ih]
theorem get_put_same {α : Type} (l : List (Nat × α)) (a : Nat) (x : α) : get (put l a x) a = some x := by simp [get_put]
theorem get_put_ne {α : Type} (l : List (Nat × α)) {a b : Nat} (x : α) (h : a ≠ b) : get (put l a x) b = get l b := by simp [get_put, h]

/-- A cell of a slot's or a box's value. 'ln': whose it is, where it is only lent (the reg and its inner count). -/
inductive X where
  | sc (v : Value)
  | nil (n : Nat)
  | rd (ln : Option (Nat × Nat)) (n : Nat) (es : List (List C))
  | ref (h g : Nat)
  | sub (h g lo hi : Nat)
  | inn (h iv i j : Nat)

/-- A pointer as it stands, or inside a function's value that holds it and nothing else. -/
def ptV (wr : Option Nat) (b o : Nat) : Value :=
  match wr with
  | none => .pointer (some ⟨b, o, none⟩)
  | some f => .func (.func f) #[] #[.pointer (some ⟨b, o, none⟩)]
def unP (wr : Option Nat) (v : Value) : Option (Nat × Nat) :=
  match wr, v with
  | none, .pointer (some ⟨b, o, _⟩) => some (b, o)
  | some _, .func _ _ ⟨[.pointer (some ⟨b, o, _⟩)]⟩ => some (b, o)
  | _, _ => none
theorem unP_ptV (wr : Option Nat) (b o : Nat) : unP wr (ptV wr b o) = some (b, o) := by cases wr <;> rfl
theorem ptV_inj {wr : Option Nat} {b o b' o' : Nat} (h : ptV wr b o = ptV wr b' o') : b = b' ∧ o = o' := by
  have h1 := unP_ptV wr b o
  rw [h, unP_ptV] at h1
  simp only [Option.some.injEq, Prod.mk.injEq] at h1
  exact ⟨h1.1.symm, h1.2.symm⟩

inductive E where
  | vals (agg : Bool) (xs : List X)
  | bptr (b g off : Nat)
  | clo (f b g : Nat)
  | eptr (h g i off : Nat)
  | rptr (ln : Option (Nat × Nat)) (row : List C) (off : Nat)
  | tup (ps : List (Bool × List X))

structure Reg where
  live : Bool
  gen : Nat
  iv : Nat
  pure : Bool
  n : Nat
  es : List (List C)
structure Box where
  gen : Nat
  cells : List X
structure S where
  slots : List (Nat × E)
  boxes : List (Nat × Box)
  regs : List (Nat × Reg)

inductive Tag where
  | none
  | imm
  | reg (h : Nat)
  | box (b : Nat)
  deriving DecidableEq

/-- What the abstract state leaves open: whose each block is, each reg's header, each box's place. -/
structure G where
  ow : Nat → Tag
  val : Nat → Value
  loc : Nat → Nat × Nat

def G.I (g : G) : Nat → Prop := fun x => g.ow x = .imm
def G.F (g : G) (h : Nat) : Nat → Prop := fun x => g.ow x = .reg h

def LnOk (g : G) (regs : List (Nat × Reg)) (ln : Option (Nat × Nat)) (φ : (Nat → Prop) → Prop) : Prop :=
  match ln with
  | none => φ g.I
  | some (h, iv) => ∃ r, get regs h = some r ∧ iv ≤ r.iv ∧ (r.live = true → iv = r.iv → φ (fun b => g.I b ∨ g.F h b))

/-- 'u' is the header of a part of the slice with header 'v'. -/
def SubOf (v : Value) (n lo hi : Nat) (u : Value) : Prop :=
  (v = .slice none 0 0 ∧ u = .slice none 0 0) ∨
  ∃ g o len cap o' cap', v = .slice (some ⟨g, o, none⟩) len cap ∧ u = .slice (some ⟨g, o', none⟩) (hi - lo) cap' ∧ cap' ≤ cap - lo ∧ hi - lo ≤ cap' ∧ (o' = o + lo * n ∨ (cap' = 0 ∧ o' ≤ o + lo * n))

def XOk (w : World) (g : G) (regs : List (Nat × Reg)) (u : Value) : X → Prop
  | .sc v => u = v
  | .nil _ => u = .slice none 0 0
  | .rd ln n es => LnOk g regs ln fun I => Rd w I u (.sl true n es)
  | .ref h gn => ∃ r, get regs h = some r ∧ gn ≤ r.gen ∧ (r.live = true → gn = r.gen → u = g.val h)
  | .sub h gn lo hi => ∃ r, get regs h = some r ∧ gn ≤ r.gen ∧ (r.live = true → gn = r.gen → SubOf (g.val h) r.n lo hi u ∧ lo ≤ hi ∧ hi ≤ r.es.length)
  | .inn h iv i j => ∃ r, get regs h = some r ∧ iv ≤ r.iv ∧ (r.live = true → iv = r.iv →
      ∃ b o len cap, g.val h = .slice (some ⟨b, o, none⟩) len cap ∧ g.ow b = .reg h ∧ i < r.es.length ∧ j < r.n ∧ w.cell? ⟨b, o + i * r.n + j, none⟩ = some u)

def CellsOk (w : World) (g : G) (regs : List (Nat × Reg)) (us : Array Value) (xs : List X) : Prop :=
  us.size = xs.length ∧ ∀ (j : Nat) (x : X), xs[j]? = some x → ∃ u, us[j]? = some u ∧ XOk w g regs u x

def ValsOk (w : World) (g : G) (regs : List (Nat × Reg)) (v : Value) (agg : Bool) (xs : List X) : Prop :=
  match agg with
  | false => ∃ x, xs = [x] ∧ XOk w g regs v x
  | true => ∃ us, v = .agg us ∧ CellsOk w g regs us xs

def EOk (w : World) (g : G) (boxes : List (Nat × Box)) (regs : List (Nat × Reg)) (v : Value) : E → Prop
  | .vals agg xs => ValsOk w g regs v agg xs
  | .bptr b gn off => ∃ x, get boxes b = some x ∧ gn ≤ x.gen ∧ (gn = x.gen → v = .pointer (some ⟨(g.loc b).1, (g.loc b).2 + off, none⟩))
  | .clo f b gn => ∃ x, get boxes b = some x ∧ gn ≤ x.gen ∧ (gn = x.gen → v = ptV (some f) (g.loc b).1 (g.loc b).2)
  | .eptr h gn i off => ∃ r, get regs h = some r ∧ gn ≤ r.gen ∧ (r.live = true → gn = r.gen →
      ∃ b o len cap, g.val h = .slice (some ⟨b, o, none⟩) len cap ∧ i < r.es.length ∧ v = .pointer (some ⟨b, o + i * r.n + off, none⟩))
  | .rptr ln row off => LnOk g regs ln fun I => ∃ b o, v = .pointer (some ⟨b, o + off, none⟩) ∧ I b ∧ ∀ (j : Nat) (c : C), row[j]? = some c → ∃ u, w.cell? ⟨b, o + j, none⟩ = some u ∧ Rd w I u c
  | .tup ps => ∃ vs, v = .tuple vs ∧ vs.size = ps.length ∧ ∀ (k : Nat) (p : Bool × List X), ps[k]? = some p → ∃ u, vs[k]? = some u ∧ ValsOk w g regs u p.1 p.2

/-- How states may follow one another, so that what is known of values stays. -/
structure Step (g : G) (S : S) (w : World) (g' : G) (S' : V.S) (w' : World) : Prop where
  im : ∀ x, g.ow x = .imm → g'.ow x = .imm ∧ w'.heap[x]? = w.heap[x]?
  rg : ∀ h r, get S.regs h = some r → ∃ r', get S'.regs h = some r' ∧ r.gen ≤ r'.gen ∧ r.iv ≤ r'.iv ∧
    (r'.live = true → r'.gen = r.gen → r.live = true ∧ g'.val h = g.val h ∧ r'.n = r.n ∧ r'.es.length = r.es.length) ∧
    (r'.live = true → r'.iv = r.iv → r.live = true ∧ r'.gen = r.gen ∧ ∀ x, g.ow x = .reg h → g'.ow x = .reg h ∧ w'.heap[x]? = w.heap[x]?)
  bo : ∀ b x, get S.boxes b = some x → ∃ x', get S'.boxes b = some x' ∧ x.gen ≤ x'.gen ∧ (x'.gen = x.gen → g'.loc b = g.loc b)

theorem LnOk.step {g g' : G} {S S' : V.S} {w w' : World} (h : Step g S w g' S' w') {ln : Option (Nat × Nat)} {φ φ' : (Nat → Prop) → Prop}
    (hφ : ∀ I I' : Nat → Prop, (∀ x, I x → I' x ∧ w'.heap[x]? = w.heap[x]?) → φ I → φ' I') (hl : LnOk g S.regs ln φ) : LnOk g' S'.regs ln φ' := by
  cases ln with
  | none => exact hφ _ _ h.im hl
  | some p =>
    obtain ⟨k, iv⟩ := p
    obtain ⟨r, hr, hi, hk⟩ := hl
    obtain ⟨r', hr', h1, h2, h3, h4⟩ := h.rg k r hr
    refine ⟨r', hr', by omega, fun hv he => ?_⟩
    obtain ⟨hlv, _, hf⟩ := h4 hv (by omega)
    refine hφ _ _ ?_ (hk hlv (by omega))
    rintro x (hx | hx)
    · exact ⟨.inl (h.im x hx).1, (h.im x hx).2⟩
    · exact ⟨.inr (hf x hx).1, (hf x hx).2⟩

theorem XOk.step {g g' : G} {S S' : V.S} {w w' : World} (h : Step g S w g' S' w') {u : Value} {x : X} (hx : XOk w g S.regs u x) : XOk w' g' S'.regs u x := by
  cases x with
  | sc v => exact hx
  | nil n => exact hx
  | rd ln n es =>
    exact LnOk.step (φ := fun I => Rd w I u (.sl true n es)) (φ' := fun I => Rd w' I u (.sl true n es)) h (fun I I' hI hr => hr.frame (fun b hb => (hI b hb).1) (fun b hb => (hI b hb).2)) hx
  | ref k gn =>
    obtain ⟨r, hr, hi, hk⟩ := hx
    obtain ⟨r', hr', h1, h2, h3, h4⟩ := h.rg k r hr
    refine ⟨r', hr', by omega, fun hv he => ?_⟩
    obtain ⟨hlv, he', _⟩ := h3 hv (by omega)
    rw [he']
    exact hk hlv (by omega)
  | sub k gn lo hi' =>
    obtain ⟨r, hr, hi, hk⟩ := hx
    obtain ⟨r', hr', h1, h2, h3, h4⟩ := h.rg k r hr
    refine ⟨r', hr', by omega, fun hv he => ?_⟩
    obtain ⟨hlv, he', hn, hl⟩ := h3 hv (by omega)
    rw [he', hn, hl]
    exact hk hlv (by omega)
  | inn k iv i j =>
    obtain ⟨r, hr, hi, hk⟩ := hx
    obtain ⟨r', hr', h1, h2, h3, h4⟩ := h.rg k r hr
    refine ⟨r', hr', by omega, fun hv he => ?_⟩
    obtain ⟨hlv, hg, hf⟩ := h4 hv (by omega)
    obtain ⟨_, he', hn, hl⟩ := h3 hv hg
    obtain ⟨b, o, len, cap, e1, e2, e3, e4, e5⟩ := hk hlv (by omega)
    exact ⟨b, o, len, cap, he'.trans e1, (hf b e2).1, by omega, by omega, by rw [hn, cell_agree (hf b e2).2]; exact e5⟩

theorem CellsOk.step {g g' : G} {S S' : V.S} {w w' : World} (h : Step g S w g' S' w') {us : Array Value} {xs : List X} (hx : CellsOk w g S.regs us xs) : CellsOk w' g' S'.regs us xs :=
  ⟨hx.1, fun j x hj => let ⟨u, hu, ho⟩ := hx.2 j x hj; ⟨u, hu, ho.step h⟩⟩

theorem ValsOk.step {g g' : G} {S S' : V.S} {w w' : World} (h : Step g S w g' S' w') {v : Value} {agg : Bool} {xs : List X} (hx : ValsOk w g S.regs v agg xs) : ValsOk w' g' S'.regs v agg xs := by
  cases agg with
  | false => obtain ⟨x, e, ho⟩ := hx; exact ⟨x, e, ho.step h⟩
  | true => obtain ⟨us, e, ho⟩ := hx; exact ⟨us, e, ho.step h⟩

theorem EOk.step {g g' : G} {S S' : V.S} {w w' : World} (h : Step g S w g' S' w') {v : Value} {e : E} (hx : EOk w g S.boxes S.regs v e) : EOk w' g' S'.boxes S'.regs v e := by
  cases e with
  | vals agg xs => exact ValsOk.step (agg := agg) (xs := xs) h hx
  | bptr b gn off =>
    obtain ⟨x, hb, hi, hk⟩ := hx
    obtain ⟨x', hb', h1, h2⟩ := h.bo b x hb
    refine ⟨x', hb', by omega, fun he => ?_⟩
    rw [h2 (by omega)]
    exact hk (by omega)
  | clo f b gn =>
    obtain ⟨x, hb, hi, hk⟩ := hx
    obtain ⟨x', hb', h1, h2⟩ := h.bo b x hb
    refine ⟨x', hb', by omega, fun he => ?_⟩
    rw [h2 (by omega)]
    exact hk (by omega)
  | eptr k gn i off =>
    obtain ⟨r, hr, hi, hk⟩ := hx
    obtain ⟨r', hr', h1, h2, h3, h4⟩ := h.rg k r hr
    refine ⟨r', hr', by omega, fun hv he => ?_⟩
    obtain ⟨hlv, he', hn, hl⟩ := h3 hv (by omega)
    rw [he', hn, hl]
    exact hk hlv (by omega)
  | rptr ln row off =>
    refine LnOk.step (φ := fun I => ∃ b o, v = .pointer (some ⟨b, o + off, none⟩) ∧ I b ∧ ∀ (j : Nat) (c : C), row[j]? = some c → ∃ u, w.cell? ⟨b, o + j, none⟩ = some u ∧ Rd w I u c)
      (φ' := fun I => ∃ b o, v = .pointer (some ⟨b, o + off, none⟩) ∧ I b ∧ ∀ (j : Nat) (c : C), row[j]? = some c → ∃ u, w'.cell? ⟨b, o + j, none⟩ = some u ∧ Rd w' I u c) h ?_ hx
    rintro I I' hI ⟨b, o, e1, e2, e3⟩
    refine ⟨b, o, e1, (hI b e2).1, fun j c hj => ?_⟩
    obtain ⟨u, hu, hr⟩ := e3 j c hj
    exact ⟨u, (cell_agree (hI b e2).2).trans hu, hr.frame (fun x hx => (hI x hx).1) (fun x hx => (hI x hx).2)⟩
  | tup ps =>
    obtain ⟨vs, e1, e2, e3⟩ := hx
    exact ⟨vs, e1, e2, fun k p hk => let ⟨u, hu, ho⟩ := e3 k p hk; ⟨u, hu, ho.step h⟩⟩

/-- The blocks that came in: such as may be turned, such as are only read. -/
structure AA where
  a : Nat → Prop
  i : Nat → Prop
  pb : Nat → Prop
  p : Nat → Nat × Nat
instance : CoeFun AA fun _ => Nat → Prop := ⟨AA.a⟩

/-- What the call may have turned since it began in 'w0': blocks among 'A', ranges of cells in 'B'; all else is as it was. -/
structure Ext (w0 : World) (A : AA) (B : List (Nat × Nat × Nat)) (w : World) : Prop where
  os : w.os = w0.os
  tape : w.tape = w0.tape
  output : w.output = w0.output
  size : w0.heap.size ≤ w.heap.size
  keep : ∀ b, b < w0.heap.size → ¬ A b → (∀ p ∈ B, p.1 ≠ b) → w.heap[b]? = w0.heap[b]?
  rng : ∀ p ∈ B, ¬ A p.1 → ∀ cs e fr, w0.heap[p.1]? = some (.cells cs e fr) → ∃ cs', w.heap[p.1]? = some (.cells cs' e fr) ∧ cs'.size = cs.size ∧
    ∀ k, (∀ q ∈ B, q.1 = p.1 → k < q.2.1 ∨ q.2.1 + q.2.2 ≤ k) → cs'[k]? = cs[k]?

/-- What a box's memory holds. -/
def BoxOk (w0 : World) (B : List (Nat × Nat × Nat)) (g : G) (regs : List (Nat × Reg)) (w : World) (b : Nat) (xs : List X) : Prop :=
  g.ow (g.loc b).1 = .box b ∧ (w0.heap.size ≤ (g.loc b).1 ∨ ((g.loc b).1, (g.loc b).2, xs.length) ∈ B) ∧
    ∃ cs e, w.heap[(g.loc b).1]? = some (.cells cs e (0, 0)) ∧ (g.loc b).2 + xs.length ≤ cs.size ∧
      ∀ (j : Nat) (y : X), xs[j]? = some y → ∃ u, cs[(g.loc b).2 + j]? = some u ∧ u.oneCell' = true ∧ XOk w g regs u y

/-- The memory side of the relation. -/
structure Mem (w0 : World) (A : AA) (B : List (Nat × Nat × Nat)) (g : G) (S : S) (w : World) : Prop where
  ext : Ext w0 A B w
  lt : ∀ x, g.ow x ≠ .none → x < w.heap.size
  fr : ∀ x h, g.ow x = .reg h → A x ∨ w0.heap.size ≤ x
  regs : ∀ h r, get S.regs h = some r → r.live = true → Own w (if r.pure then fun _ => False else g.I) (g.F h) (g.val h) (.sl true r.n r.es)
  boxes : ∀ b x, get S.boxes b = some x → BoxOk w0 B g S.regs w b x.cells
  im : ∀ x, g.ow x = .imm → A.i x ∨ A x ∨ w0.heap.size ≤ x
  pl : ∀ b, A.pb b → 1000000 ≤ b ∧ ∃ x, get S.boxes b = some x ∧ (x.gen = 0 → g.loc b = A.p b)

def SlotsOk (g : G) (S : S) (nt : Nat) (a : Act) (w : World) : Prop :=
  ∀ d e, get S.slots d = some e → d < nt ∧ EOk w g S.boxes S.regs (a.tmps.getD d undef) e

structure Real (w0 : World) (A : AA) (B : List (Nat × Nat × Nat)) (nt : Nat) (S : S) (a : Act) (w : World) : Prop where
  df : a.defers = []
  sz : a.tmps.size = nt
  mem : ∃ g, Mem w0 A B g S w ∧ SlotsOk g S nt a w

theorem BoxOk.step {w0 : World} {B : List (Nat × Nat × Nat)} {g g' : G} {S S' : V.S} {w w' : World} (h : Step g S w g' S' w') {b : Nat} {xs : List X} (hb : BoxOk w0 B g S.regs w b xs)
    (hl : g'.loc b = g.loc b) (ho : g'.ow (g.loc b).1 = .box b) (hh : w'.heap[(g.loc b).1]? = w.heap[(g.loc b).1]?) : BoxOk w0 B g' S'.regs w' b xs := by
  obtain ⟨h1, h2, cs, e, h3, h4, h5⟩ := hb
  unfold BoxOk
  rw [hl]
  refine ⟨ho, h2, cs, e, hh.trans h3, h4, fun j y hj => ?_⟩
  obtain ⟨u, hu, h1', ho'⟩ := h5 j y hj
  exact ⟨u, hu, h1', ho'.step h⟩

theorem Step.refl (g : G) (S : V.S) (w : World) : Step g S w g S w :=
  ⟨fun x h => ⟨h, rfl⟩, fun h r hr => ⟨r, hr, Nat.le_refl _, Nat.le_refl _, fun hl _ => ⟨hl, rfl, rfl, rfl⟩, fun hl _ => ⟨hl, rfl, fun x hx => ⟨hx, rfl⟩⟩⟩, fun b x hx => ⟨x, hx, Nat.le_refl _, fun _ => rfl⟩⟩

theorem Step.trans {g g1 g2 : G} {S S1 S2 : V.S} {w w1 w2 : World} (h : Step g S w g1 S1 w1) (k : Step g1 S1 w1 g2 S2 w2) : Step g S w g2 S2 w2 := by
  refine ⟨fun x hx => ?_, fun c r hr => ?_, fun b x hx => ?_⟩
  · have h1 := h.im x hx
    have h2 := k.im x h1.1
    exact ⟨h2.1, h2.2.trans h1.2⟩
  · obtain ⟨r1, hr1, a1, a2, a3, a4⟩ := h.rg c r hr
    obtain ⟨r2, hr2, b1, b2, b3, b4⟩ := k.rg c r1 hr1
    refine ⟨r2, hr2, by omega, by omega, fun hl he => ?_, fun hl he => ?_⟩
    · obtain ⟨c1, c2, c3, c4⟩ := b3 hl (by omega)
      obtain ⟨d1, d2, d3, d4⟩ := a3 c1 (by omega)
      exact ⟨d1, c2.trans d2, c3.trans d3, c4.trans d4⟩
    · obtain ⟨c1, c2, c3⟩ := b4 hl (by omega)
      obtain ⟨d1, d2, d3⟩ := a4 c1 (by omega)
      exact ⟨d1, by omega, fun x hx => let q := d3 x hx; let q2 := c3 x q.1; ⟨q2.1, q2.2.trans q.2⟩⟩
  · obtain ⟨x1, hx1, a1, a2⟩ := h.bo b x hx
    obtain ⟨x2, hx2, b1, b2⟩ := k.bo b x1 hx1
    exact ⟨x2, hx2, by omega, fun he => (b2 (by omega)).trans (a2 (by omega))⟩

/-- Slots play no part in it. -/
theorem Step.slots {g g1 : G} {S S1 : V.S} {w w1 : World} (h : Step g S w g1 S1 w1) (l l' : List (Nat × E)) : Step g { S with slots := l } w g1 { S1 with slots := l' } w1 := ⟨h.im, h.rg, h.bo⟩

theorem SlotsOk.step {g g' : G} {S S' : V.S} {nt : Nat} {a : Act} {w w' : World} (h : Step g S w g' S' w') (he : S'.slots = S.slots) (hs : SlotsOk g S nt a w) : SlotsOk g' S' nt a w' := by
  intro d e hd
  rw [he] at hd
  exact ⟨(hs d e hd).1, (hs d e hd).2.step h⟩

theorem SlotsOk.put {g : G} {S : V.S} {nt : Nat} {a : Act} {w : World} (hs : SlotsOk g S nt a w) (hz : a.tmps.size = nt) {d : Nat} (hd : d < nt) {v : Value} {e : E} (he : EOk w g S.boxes S.regs v e) :
    SlotsOk g { S with slots := V.put S.slots d e } nt (a.put (some d) v) w := by
  intro d' e' hd'
  simp only [get_put] at hd'
  split at hd'
  · rename_i h
    subst h
    cases hd'
    refine ⟨hd, ?_⟩
    have : (a.put (some d) v).tmps.getD d undef = v := by simp [Act.put, hz, hd]
    rw [this]
    exact he
  · rename_i h
    refine ⟨(hs d' e' hd').1, ?_⟩
    have : (a.put (some d) v).tmps.getD d' undef = a.tmps.getD d' undef := by
      simp [Act.put, Array.getElem?_setIfInBounds, h]
    rw [this]
    exact (hs d' e' hd').2

end Go.Proofs.Ytppfojiogappaaa.V
