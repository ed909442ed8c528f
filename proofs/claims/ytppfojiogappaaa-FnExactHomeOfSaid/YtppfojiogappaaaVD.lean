/- The types that a program's operations name; what an operation does to the abstract state, and that it does so: moves, arithmetic, loads, stores. -/
import Derived.Test.YtppfojiogappaaaVC
import Derived.Laws.BytesArg
import Derived.Lib.ConvBytes
set_option linter.unusedVariables false
set_option linter.unusedSimpArgs false
namespace Go.Proofs.Ytppfojiogappaaa.V
open Go Classical

inductive K where
  | int (k : IntKind)
  | bool
  | str
  | slice (e : Nat)
  | struct (fs : List (Nat × Nat))
  | ptr (e : Nat)
  | other

structure TD where
  kind : K
  size : Nat
  bytes : Nat
  zero : List X

def X.v0 : X → Value
  | .sc v => v
  | _ => .slice none 0 0
def X.isZ : X → Bool
  | .sc v => v.oneCell'
  | .nil _ => true
  | _ => false

def KOk (P : Program) (t : Nat) : K → Prop
  | .int k => P.underlying t = some (.int k)
  | .bool => P.underlying t = some .bool
  | .str => P.underlying t = some .string
  | .slice e => P.underlying t = some (.slice e)
  | .struct fs => ∃ arr, P.underlying t = some (.struct arr) ∧ arr.toList.map (fun f => (f.offset, f.type)) = fs
  | .ptr e => P.underlying t = some (.pointer e)
  | .other => True

structure TyOk (P : Program) (t : Nat) (d : TD) : Prop where
  kind : KOk P t d.kind
  info : ∃ i z, P.info? t = some i ∧ i.size = d.size ∧ i.bytes = d.bytes ∧ i.zero = some z ∧ z.cells.toList = d.zero.map X.v0
  zlen : d.zero.length = d.size
  zone : d.zero.all X.isZ = true

def isAggK : K → Bool
  | .struct _ => true
  | _ => false
/-- Is a type's value a row of cells? -/
def aggOf (d : TD) : Bool := isAggK d.kind

/-- Both ways of a test; neither is looked into before the test is decided. -/
def br (b : Bool) (x y : Prop) : Prop :=
  match b with
  | true => x
  | false => y
theorem br_t (x y : Prop) : br true x y = x := rfl
theorem br_f (x y : Prop) : br false x y = y := rfl
theorem br_true {x y : Prop} (h : x) : br true x y := h
theorem br_false {x y : Prop} (h : y) : br false x y := h
theorem br_if {b : Bool} {x y : Prop} (h1 : b = true → x) (h2 : b = false → y) : br b x y := by
  cases b
  · exact br_false (h2 rfl)
  · exact br_true (h1 rfl)

def S.ev (s : S) : Operand → Option E
  | .tmp t => get s.slots t
  | .const (.slice none 0 0) => some (.vals false [.nil 0])
  | .const v => some (.vals false [.sc v])
  | .func f => some (.vals false [.sc (.func (.func f) #[] #[])])
  | .global _ => none

theorem ev_ok {s : S} {g : G} {nt : Nat} {a : Act} {w : World} (hs : SlotsOk g s nt a w) {x : Operand} {e : E} (h : s.ev x = some e) : EOk w g s.boxes s.regs (a.eval x) e := by
  cases x with
  | tmp t => exact (hs t e h).2
  | const v =>
    unfold S.ev at h
    split at h
    · rename_i h2; cases h2
    · rename_i h2
      cases h2
      cases h
      exact ⟨_, rfl, rfl⟩
    · rename_i h2
      cases h2
      cases h
      exact ⟨_, rfl, rfl⟩
    · rename_i h2; cases h2
    · rename_i h2; cases h2
  | global _ => cases h
  | func f => cases h; exact ⟨_, rfl, rfl⟩

/-- A result goes into its slot. -/
def putK (nt : Nat) (o : Oper) (s : S) (e : E) (k : S → Prop) : Prop :=
  match o.dst with
  | some d => if d < nt then k { s with slots := put s.slots d e } else False
  | none => False

section
variable {P : Program} {w0 : World} {A : AA} {B : List (Nat × Nat × Nat)} {nt : Nat}

/-- The rule of an operation is right. -/
def Sound (P : Program) (w0 : World) (A : AA) (B : List (Nat × Nat × Nat)) (nt : Nat) (o : Oper) (W : S → (S → Prop) → Prop) : Prop :=
  ∀ (s : S) (a : Act) (w : World) (k : S → Prop) (next : Act → World → Prop) (Q : Exit → Act → World → Prop), Real w0 A B nt s a w → W s k →
    (∀ s' a' w', Real w0 A B nt s' a' w' → k s' → next a' w') → o.wp P a w next Q

theorem finish {o : Oper} {s s' : S} {a : Act} {w w' : World} {g g' : G} {k : S → Prop} {next : Act → World → Prop} {Q : Exit → Act → World → Prop} {v : Value} {e : E}
    (hdf : a.defers = []) (hsz : a.tmps.size = nt) (hs : SlotsOk g s nt a w) (hst : Step g s w g' s' w') (hm : Mem w0 A B g' s' w') (hsl : s'.slots = s.slots)
    (hrun : (execOp a.eval o).run P w = .ok (.value v) w') (he : EOk w' g' s'.boxes s'.regs v e) (hK : putK nt o s' e k)
    (hn : ∀ s' a' w', Real w0 A B nt s' a' w' → k s' → next a' w') : o.wp P a w next Q := by
  unfold Oper.wp
  rw [hrun]
  show next (a.put o.dst v) w'
  unfold putK at hK
  cases hd : o.dst with
  | none => rw [hd] at hK; exact hK.elim
  | some d =>
    rw [hd] at hK
    simp only at hK
    split at hK
    · rename_i hlt
      refine hn _ _ _ ⟨?_, ?_, g', ?_, (hs.step hst hsl).put hsz hlt he⟩ hK
      · simp [Act.put, hdf]
      · simp [Act.put, hsz]
      · exact ⟨hm.ext, hm.lt, hm.fr, hm.regs, hm.boxes, hm.im, hm.pl⟩
    · exact hK.elim

/-- The same where the operation writes no slot. -/
theorem finish0 {o : Oper} {s s' : S} {a : Act} {w w' : World} {g g' : G} {k : S → Prop} {next : Act → World → Prop} {Q : Exit → Act → World → Prop}
    (hdf : a.defers = []) (hsz : a.tmps.size = nt) (hs : SlotsOk g s nt a w) (hst : Step g s w g' s' w') (hm : Mem w0 A B g' s' w') (hsl : s'.slots = s.slots)
    (hrun : (execOp a.eval o).run P w = .ok .skip w') (hd : o.dst = none) (hK : k s')
    (hn : ∀ s' a' w', Real w0 A B nt s' a' w' → k s' → next a' w') : o.wp P a w next Q := by
  unfold Oper.wp
  rw [hrun]
  show next (a.put o.dst undef) w'
  rw [hd]
  exact hn _ _ _ ⟨hdf, hsz, g', hm, hs.step hst hsl⟩ hK

/-! ### moves -/
def moveW (τ : Nat → Option TD) (nt : Nat) (o : Oper) (x : Operand) (s : S) (k : S → Prop) : Prop :=
  match s.ev x with
  | some (.vals false [.nil _]) => (match τ o.type with
    | some { kind := .slice e, .. } => (match τ e with
      | some d => putK nt o s (.vals false [.nil d.size]) k
      | none => False)
    | _ => putK nt o s (.vals false [.nil 0]) k)
  | some e => putK nt o s e k
  | none => False

theorem move_sound (τ : Nat → Option TD) (o : Oper) (x : Operand) (ho : o.op = .move x ∨ o.op = .assign x) : Sound P w0 A B nt o (moveW τ nt o x) := by
  intro s a w k next Q hr hW hn
  obtain ⟨hdf, hsz, g, hm, hs⟩ := hr
  have hrun : (execOp a.eval o).run P w = .ok (.value (a.eval x)) w := by
    rcases ho with ho | ho <;> simp [execOp, ho]
  have fin : ∀ e, EOk w g s.boxes s.regs (a.eval x) e → putK nt o s e k → o.wp P a w next Q := fun e he hK =>
    finish hdf hsz hs (Step.refl g s w) hm rfl hrun he hK hn
  unfold moveW at hW
  split at hW
  · rename_i n h
    have he := ev_ok hs h
    obtain ⟨x', hx', hv⟩ := he
    cases hx'
    have hn0 : ∀ n, EOk w g s.boxes s.regs (a.eval x) (.vals false [.nil n]) := fun n => ⟨_, rfl, hv⟩
    split at hW
    · split at hW
      · exact fin _ (hn0 _) hW
      · exact hW.elim
    · exact fin _ (hn0 _) hW
  · rename_i e _ h
    exact fin e (ev_ok hs h) hW
  · exact hW.elim

def pickW (nt : Nat) (o : Oper) (c x y : Operand) (s : S) (k : S → Prop) : Prop :=
  match s.ev c with
  | some (.vals false [.sc (.bool t)]) => br t (match s.ev x with | some e => putK nt o s e k | none => False) (match s.ev y with | some e => putK nt o s e k | none => False)
  | _ => False

theorem pick_sound (o : Oper) (c x y : Operand) (ho : o.op = .pick c x y) : Sound P w0 A B nt o (pickW nt o c x y) := by
  intro s a w k next Q hr hW hn
  obtain ⟨hdf, hsz, g, hm, hs⟩ := hr
  unfold pickW at hW
  split at hW
  · rename_i t h
    obtain ⟨x', hx', hv⟩ := ev_ok hs h
    cases hx'
    have hv' : a.eval c = .bool t := hv
    have hrun : (execOp a.eval o).run P w = .ok (.value (if t then a.eval x else a.eval y)) w := by simp [execOp, ho, hv', asBool]
    cases t with
    | true =>
      have hW' : (match s.ev x with | some e => putK nt o s e k | none => False) := by rw [br_t] at hW; exact hW
      split at hW'
      · rename_i e h
        exact finish hdf hsz hs (Step.refl g s w) hm rfl hrun (ev_ok hs h) hW' hn
      · exact hW'.elim
    | false =>
      have hW' : (match s.ev y with | some e => putK nt o s e k | none => False) := by rw [br_f] at hW; exact hW
      split at hW'
      · rename_i e h
        exact finish hdf hsz hs (Step.refl g s w) hm rfl hrun (ev_ok hs h) hW' hn
      · exact hW'.elim
  · exact hW.elim

end

end Go.Proofs.Ytppfojiogappaaa.V
