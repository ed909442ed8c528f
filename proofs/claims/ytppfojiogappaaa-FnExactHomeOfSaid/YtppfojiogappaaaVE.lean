/- Operations that touch no memory: arithmetic, comparisons, conversions of numbers, parts of values; boxes and what is read and written in them. -/
import Derived.Test.YtppfojiogappaaaVD
import Derived.ChangeKeysEq
set_option linter.unusedVariables false
set_option linter.unusedSimpArgs false
namespace Go.Proofs.Ytppfojiogappaaa.V
open Go Classical

/-- A thing that nothing unfolds. -/
noncomputable def hid {α : Type} (a : α) : { b : α // b = a } := Classical.choice ⟨⟨a, rfl⟩⟩

/-- The wrap of a kind, kept from being unfolded. -/
@[irreducible] noncomputable def wrp (k : IntKind) (x : Int) : Int := (hid (fun (k : IntKind) (x : Int) => (k.wrap x : Int))).1 k x
theorem wrp_eq (k : IntKind) (x : Int) : wrp k x = (k.wrap x) := by
  unfold wrp
  rw [(hid _).2]
def bits0 (op : BinOp) (k : IntKind) (x y : Int) : Int :=
  let a := BitVec.ofInt k.bits x
  let b := BitVec.ofInt k.bits y
  match op with
  | .and => k.wrap (a &&& b).toNat
  | .or => k.wrap (a ||| b).toNat
  | .xor => k.wrap (a ^^^ b).toNat
  | _ => k.wrap (a &&& ~~~b).toNat
@[irreducible] noncomputable def bitsOf (op : BinOp) (k : IntKind) (x y : Int) : Int := (hid bits0).1 op k x y
theorem bitsOf_eq (op : BinOp) (k : IntKind) (x y : Int) : bitsOf op k x y = bits0 op k x y := by
  unfold bitsOf
  rw [(hid _).2]
@[irreducible] noncomputable def shlOf (k : IntKind) (x : Int) (y : Int) : Int := (hid (fun (k : IntKind) (x : Int) (y : Int) => (k.wrap (x * 2 ^ (min y.toNat k.bits)) : Int))).1 k x y
theorem shlOf_eq (k : IntKind) (x : Int) (y : Int) : shlOf k x y = (k.wrap (x * 2 ^ (min y.toNat k.bits))) := by
  unfold shlOf
  rw [(hid _).2]
@[irreducible] noncomputable def shrOf (k : IntKind) (x : Int) (y : Int) : Int := (hid (fun (k : IntKind) (x : Int) (y : Int) => (x.fdiv (2 ^ (min y.toNat k.bits)) : Int))).1 k x y
theorem shrOf_eq (k : IntKind) (x : Int) (y : Int) : shrOf k x y = (x.fdiv (2 ^ (min y.toNat k.bits))) := by
  unfold shrOf
  rw [(hid _).2]
@[irreducible] noncomputable def tdivOf (k : IntKind) (x : Int) (y : Int) : Int := (hid (fun (k : IntKind) (x : Int) (y : Int) => (k.wrap (x.tdiv y) : Int))).1 k x y
theorem tdivOf_eq (k : IntKind) (x : Int) (y : Int) : tdivOf k x y = (k.wrap (x.tdiv y)) := by
  unfold tdivOf
  rw [(hid _).2]
@[irreducible] noncomputable def tmodOf (x : Int) (y : Int) : Int := (hid (fun (x : Int) (y : Int) => (x.tmod y : Int))).1 x y
theorem tmodOf_eq (x : Int) (y : Int) : tmodOf x y = (x.tmod y) := by
  unfold tmodOf
  rw [(hid _).2]
@[irreducible] noncomputable def eqStr (x : ByteArray) (y : ByteArray) : Bool := (hid (fun (x : ByteArray) (y : ByteArray) => (x.toList == y.toList : Bool))).1 x y
theorem eqStr_eq (x : ByteArray) (y : ByteArray) : eqStr x y = (x.toList == y.toList) := by
  unfold eqStr
  rw [(hid _).2]
@[irreducible] noncomputable def addStr (x : ByteArray) (y : ByteArray) : ByteArray := (hid (fun (x : ByteArray) (y : ByteArray) => (x ++ y : ByteArray))).1 x y
theorem addStr_eq (x : ByteArray) (y : ByteArray) : addStr x y = (x ++ y) := by
  unfold addStr
  rw [(hid _).2]
@[irreducible] noncomputable def eqI (x : Int) (y : Int) : Bool := (hid (fun (x : Int) (y : Int) => (x == y : Bool))).1 x y
theorem eqI_eq (x : Int) (y : Int) : eqI x y = (x == y) := by
  unfold eqI
  rw [(hid _).2]
@[irreducible] noncomputable def ltI (x : Int) (y : Int) : Bool := (hid (fun (x : Int) (y : Int) => (decide (x < y) : Bool))).1 x y
theorem ltI_eq (x : Int) (y : Int) : ltI x y = (decide (x < y)) := by
  unfold ltI
  rw [(hid _).2]
@[irreducible] noncomputable def leI (x : Int) (y : Int) : Bool := (hid (fun (x : Int) (y : Int) => (decide (x ≤ y) : Bool))).1 x y
theorem leI_eq (x : Int) (y : Int) : leI x y = (decide (x ≤ y)) := by
  unfold leI
  rw [(hid _).2]
@[irreducible] noncomputable def eqB (x : Bool) (y : Bool) : Bool := (hid (fun (x : Bool) (y : Bool) => (x == y : Bool))).1 x y
theorem eqB_eq (x : Bool) (y : Bool) : eqB x y = (x == y) := by
  unfold eqB
  rw [(hid _).2]
@[irreducible] noncomputable def notB (x : Bool) : Bool := (hid (fun (x : Bool) => (!x : Bool))).1 x
theorem notB_eq (x : Bool) : notB x = (!x) := by
  unfold notB
  rw [(hid _).2]

/-- What an operation on two plain values comes to, and under which condition. -/
noncomputable def binV (τ : Nat → Option TD) (op : BinOp) (t : Nat) (x y : Value) : Option (Prop × Value) :=
  match x, y with
  | .int k a, .int k' b =>
    match op with
    | .shl => some (0 ≤ b, .int k (shlOf k a b))
    | .shr => some (0 ≤ b, .int k (shrOf k a b))
    | _ => if k = k' then
      match op with
      | .add => some (True, .int k (wrp k (a + b)))
      | .sub => some (True, .int k (wrp k (a - b)))
      | .mul => some (True, .int k (wrp k (a * b)))
      | .quo => some (b ≠ 0, .int k (tdivOf k a b))
      | .rem => some (b ≠ 0, .int k (tmodOf a b))
      | .and => some (True, .int k (bitsOf .and k a b))
      | .or => some (True, .int k (bitsOf .or k a b))
      | .xor => some (True, .int k (bitsOf .xor k a b))
      | .andNot => some (True, .int k (bitsOf .andNot k a b))
      | .eql => some (True, .bool (eqI a b))
      | .neq => some (True, .bool (notB (eqI a b)))
      | .lss => some (True, .bool (ltI a b))
      | .leq => some (True, .bool (leI a b))
      | .gtr => some (True, .bool (ltI b a))
      | .geq => some (True, .bool (leI b a))
      | _ => none
      else none
  | .bool a, .bool b => (match τ t with
    | some { kind := .bool, .. } => (match op with
      | .eql => some (True, .bool (eqB a b))
      | .neq => some (True, .bool (notB (eqB a b)))
      | _ => none)
    | _ => none)
  | .string a, .string b => (match op with
    | .add => some (((a.size + b.size : Nat) : Int) ≤ IntKind.i64.max, .string (addStr a b))
    | .eql => some (True, .bool (eqStr a b))
    | .neq => some (True, .bool (notB (eqStr a b)))
    | _ => none)
  | _, _ => none

theorem bin_run (P : Program) (τ : Nat → Option TD) (hτ : ∀ t d, τ t = some d → TyOk P t d) (a : Act) (w : World) (o : Oper) (op : BinOp) (t : Nat) (x y : Operand) (yt : Nat) (ho : o.op = .binOp op t x y yt)
    (c : Prop) (r : Value) (h : binV τ op t (a.eval x) (a.eval y) = some (c, r)) (hc : c) : (execOp a.eval o).run P w = .ok (.value r) w := by
  have e : (execOp a.eval o).run P w = ((eqGuard op t x y (a.eval x) (a.eval y)).run P w).andThen fun _ w => ((binOp op t (a.eval x) (a.eval y)).run P w).andThen fun v w => .ok (.value v) w := by
    unfold execOp
    rw [ho]
    simp [Sem.run_bind]
  rw [e]
  clear e
  generalize a.eval x = u at h ⊢
  generalize a.eval y = v at h ⊢
  unfold binV at h
  split at h
  · rename_i k p k' q
    cases op <;> simp only [reduceCtorEq, if_false] at h
    all_goals first
      | (cases h; simp [eqGuard, binOp, Op.shift, shlOf_eq, shrOf_eq, Int.not_lt.2 hc]; done)
      | (split at h
         · rename_i hk
           subst hk
           first
           | (cases h; simp [eqGuard, binOp, Op.intArith, Op.intDiv, Op.intBits, Op.intCmp, wrp_eq, tdivOf_eq, tmodOf_eq, bitsOf_eq, bits0, eqI_eq, ltI_eq, leI_eq, notB_eq, bne, hc]; done)
           | (cases h; simp [eqGuard, binOp, Op.intArith, Op.intDiv, Op.intBits, Op.intCmp, wrp_eq, tdivOf_eq, tmodOf_eq, bitsOf_eq, bits0, eqI_eq, ltI_eq, leI_eq, notB_eq, bne]; done)
           | cases h
         · cases h)
  · rename_i p q
    split at h
    · rename_i ht
      have hk : P.underlying t = some .bool := (hτ _ _ ht).kind
      cases op <;> simp only [reduceCtorEq] at h
      all_goals first
        | (cases h; simp [eqGuard, binOp, Op.equal, run_equalIn_bool w 9999 t p q hk, Op.maxDepth, eqB_eq, notB_eq]; done)
        | cases h
    · cases h
  · rename_i p q
    cases op <;> simp only [reduceCtorEq] at h
    all_goals first
      | (cases h
         have hc' : ¬ (((p.size + q.size : Nat) : Int) > IntKind.i64.max) := Int.not_lt.2 hc
         simp only [eqGuard, binOp, Op.stringOp, addStr_eq, if_neg hc']
         rfl)
      | (cases h; simp [eqGuard, binOp, Op.stringOp, eqStr_eq, notB_eq, addStr_eq]; done)
      | cases h
  · cases h

/-- Does an operation ask a condition? -/
def needsC (op : BinOp) (x : Value) : Bool :=
  match op with
  | .shl => true
  | .shr => true
  | .quo => true
  | .rem => true
  | .add => (match x with
    | .string _ => true
    | _ => false)
  | _ => false

theorem needs_no {τ : Nat → Option TD} {op : BinOp} {t : Nat} {x y : Value} {c : Prop} {r : Value} (h : binV τ op t x y = some (c, r)) (hn : needsC op x = false) : c := by
  unfold binV at h
  split at h
  · cases op <;> simp only [reduceCtorEq, if_false] at h <;> first | (cases hn; done) | (split at h <;> first | (cases h; trivial) | cases h)
  · split at h
    · cases op <;> simp only [reduceCtorEq] at h <;> first | (cases h; trivial) | cases h
    · cases h
  · cases op <;> simp only [reduceCtorEq] at h <;> first | (cases hn; done) | (cases h; trivial) | cases h
  · cases h

theorem sc_ok (w : World) (g : G) (bs : List (Nat × Box)) (rs : List (Nat × Reg)) (v : Value) : EOk w g bs rs v (.vals false [.sc v]) := ⟨_, rfl, rfl⟩

section
variable {P : Program} {w0 : World} {A : AA} {B : List (Nat × Nat × Nat)} {nt : Nat} {τ : Nat → Option TD}

def binW (τ : Nat → Option TD) (nt : Nat) (o : Oper) (op : BinOp) (t : Nat) (x y : Operand) (s : S) (k : S → Prop) : Prop :=
  match s.ev x, s.ev y with
  | some (.vals false [.sc u]), some (.vals false [.sc v]) => (match binV τ op t u v with
    | some (c, r) => (match needsC op u with
      | true => c ∧ putK nt o s (.vals false [.sc r]) k
      | false => putK nt o s (.vals false [.sc r]) k)
    | none => False)
  | _, _ => False

theorem bin_sound (hτ : ∀ t d, τ t = some d → TyOk P t d) (o : Oper) (op : BinOp) (t : Nat) (x y : Operand) (yt : Nat) (ho : o.op = .binOp op t x y yt) : Sound P w0 A B nt o (binW τ nt o op t x y) := by
  intro s a w k next Q hr hW hn
  obtain ⟨hdf, hsz, g, hm, hs⟩ := hr
  unfold binW at hW
  split at hW
  · rename_i u v h1 h2
    split at hW
    · rename_i c r hb
      obtain ⟨x1, e1, hv1⟩ := ev_ok hs h1
      obtain ⟨x2, e2, hv2⟩ := ev_ok hs h2
      cases e1
      cases e2
      have hv1' : a.eval x = u := hv1
      have hv2' : a.eval y = v := hv2
      have hW' : c ∧ putK nt o s (.vals false [.sc r]) k := by
        split at hW
        · exact hW
        · rename_i hnd
          exact ⟨needs_no hb hnd, hW⟩
      rw [← hv1', ← hv2'] at hb
      exact finish hdf hsz hs (Step.refl g s w) hm rfl (bin_run P τ hτ a w o op t x y yt ho c r hb hW'.1) (sc_ok _ _ _ _ _) hW'.2 hn
    · exact hW.elim
  · exact hW.elim

noncomputable def unV (op : UnOp) (x : Value) : Option Value :=
  match op, x with
  | .not, .bool b => some (.bool (notB b))
  | .neg, .int k n => some (.int k (wrp k (0 - n)))
  | _, _ => none

def unW (nt : Nat) (o : Oper) (op : UnOp) (x : Operand) (s : S) (k : S → Prop) : Prop :=
  match s.ev x with
  | some (.vals false [.sc u]) => (match unV op u with
    | some r => putK nt o s (.vals false [.sc r]) k
    | none => False)
  | _ => False

theorem un_sound (o : Oper) (op : UnOp) (t : Nat) (x : Operand) (ho : o.op = .unOp op t x) : Sound P w0 A B nt o (unW nt o op x) := by
  intro s a w k next Q hr hW hn
  obtain ⟨hdf, hsz, g, hm, hs⟩ := hr
  unfold unW at hW
  split at hW
  · rename_i u h1
    split at hW
    · rename_i r hb
      obtain ⟨x1, e1, hv1⟩ := ev_ok hs h1
      cases e1
      have hv1' : a.eval x = u := hv1
      refine finish hdf hsz hs (Step.refl g s w) hm rfl ?_ (sc_ok _ _ _ _ _) hW hn
      unfold unV at hb
      split at hb
      · cases hb
        simp [execOp, ho, hv1', Op.unary, notB_eq]
      · cases hb
        simp [execOp, ho, hv1', Op.unary, Op.intArith, wrp_eq]
      · cases hb
    · exact hW.elim
  · exact hW.elim

/-- Conversions between numbers; of a number to a text. -/
@[irreducible] noncomputable def runeStr (n : Int) : ByteArray := (hid (fun (n : Int) => (Utf8.encode n : ByteArray))).1 n
theorem runeStr_eq (n : Int) : runeStr n = (Utf8.encode n) := by
  unfold runeStr
  rw [(hid _).2]

def convNW (τ : Nat → Option TD) (nt : Nat) (o : Oper) (dst : Nat) (x : Operand) (s : S) (k : S → Prop) : Prop :=
  match s.ev x, τ dst with
  | some (.vals false [.sc (.int _ n)]), some { kind := .int q, .. } => putK nt o s (.vals false [.sc (.int q (wrp q n))]) k
  | some (.vals false [.sc (.int _ n)]), some { kind := .str, .. } => putK nt o s (.vals false [.sc (.string (runeStr n))]) k
  | _, _ => False

end
end Go.Proofs.Ytppfojiogappaaa.V
