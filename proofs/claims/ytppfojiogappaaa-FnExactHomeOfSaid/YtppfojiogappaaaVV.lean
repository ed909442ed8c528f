/- What a piece of code does to the abstract state, and that it does so. -/
import Derived.Test.YtppfojiogappaaaVUB
import Derived.Orders
set_option linter.unusedVariables false
set_option linter.unusedSimpArgs false
namespace Go.Proofs.Ytppfojiogappaaa.V
open Go Classical

/-- What a function's text is read with: its types; how each function it calls takes its arguments. -/
structure Env where
  τ : Nat → Option TD
  md : Nat → List Mode

def opW (P : Program) (E : Env) (nt : Nat) (o : Oper) (s : S) (k : S → Prop) : Prop :=
  match o.op with
  | .move x => moveW E.τ nt o x s k
  | .assign x => moveW E.τ nt o x s k
  | .pick c x y => pickW nt o c x y s k
  | .alloc el => allocW E.τ nt o el s k
  | .box _ x => boxW nt o x s k
  | .build t ps => buildW E.τ nt o t ps s k
  | .buildSlice t n ps => buildSliceW E.τ nt o t n ps s k
  | .load t p => loadW E.τ nt o t p s k
  | .store t p x => storeW E.τ t p x o s k
  | .nilCheck p => nilCheckW nt o p s k
  | .binOp op t x y _ => binW E.τ nt o op t x y s k
  | .unOp op _ x => unW nt o op x s k
  | .convert src dst x => convW E.τ nt o src dst x s k
  | .makeSlice t l c => makeSliceW E.τ nt o t l c s k
  | .slice t x lo hi mx => sliceW E.τ nt o t x lo hi mx s k
  | .fieldAddr t p f => fieldAddrW E.τ nt o t p f s k
  | .field t x f => fieldW E.τ nt o t x f s k
  | .indexAddr t x i => indexAddrW E.τ nt o t x i s k
  | .index t x i => indexW E.τ nt o t x i s k
  | .extract t i => extractW nt o t i s k
  | .makeFunc fn first captured => makeFuncW nt o fn first captured s k
  | .call c => (match c with
    | ⟨.builtin .len, ⟨[x]⟩, ⟨[t]⟩⟩ => lenW E.τ nt o t x s k
    | ⟨.builtin .append, ⟨[b, x]⟩, ⟨[t, t2]⟩⟩ => (match E.τ t2 with
      | some { kind := .int _, .. } => appendZW E.τ nt o t t2 b x s k
      | _ => appendW E.τ nt o t t2 b x s k)
    | ⟨.builtin .cap, ⟨[x]⟩, ⟨[t]⟩⟩ => capW E.τ nt o t x s k
    | ⟨.builtin .max, ⟨[x, y]⟩, _⟩ => minW nt o true x y s k
    | ⟨.builtin .min, ⟨[x, y]⟩, _⟩ => minW nt o false x y s k
    | ⟨.value (.func f), xs, _⟩ => callW P nt o f (E.md f) xs.toList s k
    | ⟨.value (.tmp t), xs, _⟩ => callVW P nt o E.md t xs.toList s k
    | _ => False)
  | _ => False

/-! ### a state laid out anew: nothing is said but that its parts are looked at first -/
def fN (n : Nat) (k : Nat → Prop) : Prop :=
  match n with
  | 0 => k 0
  | m + 1 => k (m + 1)
theorem fN_eq (n : Nat) (k : Nat → Prop) : fN n k = k n := by cases n <;> rfl
def fB (b : Bool) (k : Bool → Prop) : Prop :=
  match b with
  | true => k true
  | false => k false
theorem fB_eq (n : Bool) (k : Bool → Prop) : fB n k = k n := by cases n <;> rfl
def fLn (ln : Option (Nat × Nat)) (k : Option (Nat × Nat) → Prop) : Prop :=
  match ln with
  | none => k none
  | some (h, g) => fN h fun h => fN g fun g => k (some (h, g))
theorem fLn_eq (n : Option (Nat × Nat)) (k : Option (Nat × Nat) → Prop) : fLn n k = k n := by
  cases n with
  | none => rfl
  | some p => simp only [fLn, fN_eq]
def fX (x : X) (k : X → Prop) : Prop :=
  match x with
  | .sc v => k (.sc v)
  | .nil n => fN n fun n => k (.nil n)
  | .rd ln n es => fLn ln fun ln => fN n fun n => k (.rd ln n es)
  | .ref h g => fN h fun h => fN g fun g => k (.ref h g)
  | .sub h g lo hi => fN h fun h => fN g fun g => k (.sub h g lo hi)
  | .inn h g i j => fN h fun h => fN g fun g => k (.inn h g i j)
theorem fX_eq (x : X) (k : X → Prop) : fX x k = k x := by cases x <;> simp only [fX, fN_eq, fLn_eq]
def fXs : List X → (List X → Prop) → Prop
  | [], k => k []
  | x :: r, k => fX x fun x => fXs r fun r => k (x :: r)
theorem fXs_eq : ∀ (l : List X) (k : List X → Prop), fXs l k = k l
  | [], k => rfl
  | x :: r, k => by simp only [fXs, fX_eq, fXs_eq r]
def fPs : List (Bool × List X) → (List (Bool × List X) → Prop) → Prop
  | [], k => k []
  | (b, xs) :: r, k => fB b fun b => fXs xs fun xs => fPs r fun r => k ((b, xs) :: r)
theorem fPs_eq : ∀ (l : List (Bool × List X)) (k : List (Bool × List X) → Prop), fPs l k = k l
  | [], k => rfl
  | (b, xs) :: r, k => by simp only [fPs, fB_eq, fXs_eq, fPs_eq r]
def fE (e : V.E) (k : V.E → Prop) : Prop :=
  match e with
  | .vals agg xs => fB agg fun agg => fXs xs fun xs => k (.vals agg xs)
  | .bptr b g off => fN b fun b => fN g fun g => fN off fun off => k (.bptr b g off)
  | .clo f b g => fN b fun b => fN g fun g => k (.clo f b g)
  | .eptr h g i off => fN h fun h => fN g fun g => fN off fun off => k (.eptr h g i off)
  | .rptr ln row off => fLn ln fun ln => fN off fun off => k (.rptr ln row off)
  | .tup ps => fPs ps fun ps => k (.tup ps)
theorem fE_eq (e : V.E) (k : V.E → Prop) : fE e k = k e := by cases e <;> simp only [fE, fB_eq, fXs_eq, fN_eq, fLn_eq, fPs_eq]
def fSl : List (Nat × V.E) → (List (Nat × V.E) → Prop) → Prop
  | [], k => k []
  | (d, e) :: r, k => fE e fun e => fSl r fun r => k ((d, e) :: r)
theorem fSl_eq : ∀ (l : List (Nat × V.E)) (k : List (Nat × V.E) → Prop), fSl l k = k l
  | [], k => rfl
  | (d, e) :: r, k => by simp only [fSl, fE_eq, fSl_eq r]
def fBx : List (Nat × Box) → (List (Nat × Box) → Prop) → Prop
  | [], k => k []
  | (d, ⟨g, xs⟩) :: r, k => fN g fun g => fXs xs fun xs => fBx r fun r => k ((d, ⟨g, xs⟩) :: r)
theorem fBx_eq : ∀ (l : List (Nat × Box)) (k : List (Nat × Box) → Prop), fBx l k = k l
  | [], k => rfl
  | (d, ⟨g, xs⟩) :: r, k => by simp only [fBx, fN_eq, fXs_eq, fBx_eq r]
def fRg : List (Nat × Reg) → (List (Nat × Reg) → Prop) → Prop
  | [], k => k []
  | (d, ⟨l, g, iv, p, n, es⟩) :: r, k => fB l fun l => fN g fun g => fN iv fun iv => fB p fun p => fN n fun n => fRg r fun r => k ((d, ⟨l, g, iv, p, n, es⟩) :: r)
theorem fRg_eq : ∀ (l : List (Nat × Reg)) (k : List (Nat × Reg) → Prop), fRg l k = k l
  | [], k => rfl
  | (d, ⟨l, g, iv, p, n, es⟩) :: r, k => by simp only [fRg, fB_eq, fN_eq, fRg_eq r]
def fS (s : S) (k : S → Prop) : Prop :=
  match s with
  | ⟨sl, bx, rg⟩ => fSl sl fun sl => fBx bx fun bx => fRg rg fun rg => k ⟨sl, bx, rg⟩
theorem fS_eq (s : S) (k : S → Prop) : fS s k = k s := by cases s; simp only [fS, fSl_eq, fBx_eq, fRg_eq]

section
variable {P : Program} {w0 : World} {A : AA} {B : List (Nat × Nat × Nat)} {nt : Nat} {E : Env}

theorem op_sound (hτ : ∀ t d, E.τ t = some d → TyOk P t d) (o : Oper) : Sound P w0 A B nt o (opW P E nt o) := by
  intro s a w k next Q hr hW hn
  unfold opW at hW
  split at hW
  · rename_i h; exact move_sound E.τ o _ (.inl h) s a w k next Q hr hW hn
  · rename_i h; exact move_sound E.τ o _ (.inr h) s a w k next Q hr hW hn
  · rename_i h; exact pick_sound o _ _ _ h s a w k next Q hr hW hn
  · rename_i h; exact alloc_sound hτ o _ h s a w k next Q hr hW hn
  · rename_i h; exact box_sound o _ _ h s a w k next Q hr hW hn
  · rename_i h; exact build_sound hτ o _ _ h s a w k next Q hr hW hn
  · rename_i h; exact buildSlice_sound hτ o _ _ _ h s a w k next Q hr hW hn
  · rename_i h; exact load_sound hτ o _ _ h s a w k next Q hr hW hn
  · rename_i h; exact store_sound hτ o _ _ _ h s a w k next Q hr hW hn
  · rename_i h; exact nilCheck_sound o _ h s a w k next Q hr hW hn
  · rename_i h; exact bin_sound hτ o _ _ _ _ _ h s a w k next Q hr hW hn
  · rename_i h; exact un_sound o _ _ _ h s a w k next Q hr hW hn
  · rename_i h; exact conv_sound hτ o _ _ _ h s a w k next Q hr hW hn
  · rename_i h; exact makeSlice_sound hτ o _ _ _ h s a w k next Q hr hW hn
  · rename_i h; exact slice_sound hτ o _ _ _ _ _ h s a w k next Q hr hW hn
  · rename_i h; exact fieldAddr_sound hτ o _ _ _ h s a w k next Q hr hW hn
  · rename_i h; exact field_sound hτ o _ _ _ h s a w k next Q hr hW hn
  · rename_i h; exact indexAddr_sound hτ o _ _ _ h s a w k next Q hr hW hn
  · rename_i h; exact index_sound hτ o _ _ _ h s a w k next Q hr hW hn
  · rename_i h; exact extract_sound o _ _ h s a w k next Q hr hW hn
  · rename_i h; exact makeFunc_sound o _ _ _ h s a w k next Q hr hW hn
  · rename_i h
    split at hW
    · exact len_sound hτ o _ _ h s a w k next Q hr hW hn
    · split at hW
      · exact appendZ_sound hτ o _ _ _ _ h s a w k next Q hr hW hn
      · exact append_sound hτ o _ _ _ _ h s a w k next Q hr hW hn
    · exact cap_sound hτ o _ _ h s a w k next Q hr hW hn
    · exact max_sound o _ _ _ h s a w k next Q hr hW hn
    · exact min_sound o _ _ _ h s a w k next Q hr hW hn
    · exact call_sound o _ _ _ _ h s a w k next Q hr hW hn
    · exact callv_sound o _ _ _ _ h s a w k next Q hr hW hn
    · exact hW.elim
  · exact hW.elim

/-- An operation that the way taken passes over leaves nothing. -/
def skipW (nt : Nat) (o : Oper) (s : S) (k : S → Prop) : Prop :=
  match o.dst with
  | some d => if d < nt then k { s with slots := put s.slots d (.vals false [.sc undef]) } else False
  | none => k s

theorem skip_sound (o : Oper) {s : S} {a : Act} {w : World} {k : S → Prop} {next : Act → World → Prop} (hr : Real w0 A B nt s a w) (hW : skipW nt o s k) (hn : ∀ s' a' w', Real w0 A B nt s' a' w' → k s' → next a' w') :
    next (a.put o.dst undef) w := by
  obtain ⟨hdf, hsz, g, hm, hs⟩ := hr
  unfold skipW at hW
  split at hW
  · rename_i d hd
    rw [hd]
    split at hW
    · rename_i hlt
      refine hn { s with slots := put s.slots d (.vals false [.sc undef]) } _ _ ⟨?_, ?_, g, ⟨hm.ext, hm.lt, hm.fr, hm.regs, hm.boxes, hm.im, hm.pl⟩, hs.put hsz hlt (e := .vals false [.sc undef]) ⟨_, rfl, rfl⟩⟩ hW
      · simp [Act.put, hdf]
      · simp [Act.put, hsz]
    · exact hW.elim
  · rename_i hd
    rw [hd]
    exact hn s _ _ ⟨hdf, hsz, g, hm, hs⟩ hW

/-- An operation of a region, as it is wanted or not. -/
def atO (P : Program) (E : Env) (nt : Nat) (ops : Array Oper) (o : Oper) (s : S) (k : S → Prop) : Prop :=
    (match o.guard with
    | none => opW P E nt o s k
    | some (j, want) => (match (ops[j]?).bind (·.dst) with
      | some d => (match get s.slots d with
        | some (.vals false [.sc (.bool t)]) => (match want with
          | true => br t (opW P E nt o s k) (skipW nt o s k)
          | false => br t (skipW nt o s k) (opW P E nt o s k))
        | some (.vals false [.sc (.tuple _)]) => skipW nt o s k
        | _ => False)
      | none => False))
def atW (P : Program) (E : Env) (nt : Nat) (ops : Array Oper) (i : Nat) (s : S) (k : S → Prop) : Prop :=
  match ops[i]? with
  | none => k s
  | some o => atO P E nt ops o s k

theorem at_sound (hτ : ∀ t d, E.τ t = some d → TyOk P t d) (ops : Array Oper) (i : Nat) {s : S} {a : Act} {w : World} {k : S → Prop} {K : Act → World → Prop} {Q : Exit → Act → World → Prop} (hr : Real w0 A B nt s a w)
    (hW : atW P E nt ops i s k) (hn : ∀ s' a' w', Real w0 A B nt s' a' w' → k s' → K a' w') : wpOp P ops Q i K a w := by
  unfold atW at hW
  unfold wpOp
  split at hW
  · rename_i h
    rw [h]
    exact hn _ _ _ hr hW
  · rename_i o h
    rw [h]
    have run : opW P E nt o s k → o.wp P a w K Q := fun hW => op_sound hτ o s a w k K Q hr hW hn
    have skip : skipW nt o s k → K (a.put o.dst undef) w := fun hW => skip_sound o hr hW hn
    unfold atO at hW
    split at hW
    · rename_i hg
      have : Region.wanted o (yielded ops a.tmps) = true := by simp [Region.wanted, hg]
      simp only [this, if_true]
      exact .inl (run hW)
    · rename_i j want hg
      split at hW
      · rename_i d hd
        have hslot : ∀ e, get s.slots d = some e → ∃ g, EOk w g s.boxes s.regs (a.tmps.getD d undef) e ∧ a.tmps[d]? = some (a.tmps.getD d undef) := by
          intro e he
          obtain ⟨_, hsz, g, hm, hs⟩ := hr
          refine ⟨g, (hs d e he).2, ?_⟩
          have hlt : d < a.tmps.size := by rw [hsz]; exact (hs d e he).1
          simp [hlt]
        split at hW
        · rename_i t hs
          obtain ⟨g, ⟨x, e1, e2⟩, e3⟩ := hslot _ hs
          cases e1
          have e2 : a.tmps.getD d undef = .bool t := e2
          have hy : yielded ops a.tmps j = some t := by
            unfold yielded
            rw [hd]
            simp only [Option.bind_some, e3, e2]
          have hwn : Region.wanted o (yielded ops a.tmps) = (t == want) := by simp [Region.wanted, hg, hy]
          simp only [hwn]
          cases want <;> cases t <;> simp only [br_t, br_f] at hW
          · exact .inl (run hW)
          · exact skip hW
          · exact skip hW
          · exact .inl (run hW)
        · rename_i vs hs
          obtain ⟨g, ⟨x, e1, e2⟩, e3⟩ := hslot _ hs
          cases e1
          have e2 : a.tmps.getD d undef = .tuple vs := e2
          have hy : yielded ops a.tmps j = none := by
            unfold yielded
            rw [hd]
            simp only [Option.bind_some, e3, e2]
          have hwn : Region.wanted o (yielded ops a.tmps) = false := by simp [Region.wanted, hg, hy]
          simp only [hwn]
          exact skip hW
        · exact hW.elim
      · exact hW.elim

/-- The operations of a region, one after another. -/
def opsW (P : Program) (E : Env) (nt : Nat) (ops : Array Oper) (k : S → Prop) (l : List Oper) : S → Prop :=
  List.rec (motive := fun _ => S → Prop) k (fun o _ f s => atO P E nt ops o s fun s' => fS s' f) l

theorem ops_sound (hτ : ∀ t d, E.τ t = some d → TyOk P t d) (ops : Array Oper) {k : S → Prop} {Q : Exit → Act → World → Prop} (hn : ∀ s' a' w', Real w0 A B nt s' a' w' → k s' → Q .normal a' w') : ∀ (l : List Oper) (i n : Nat) {s : S} {a : Act} {w : World},
    ops.toList.drop i = l → l.length = n → Real w0 A B nt s a w → opsW P E nt ops k l s → wpOps P ops Q (List.range' i n) a w
  | [], i, n, s, a, w, hd, hl, hr, h => by
    subst hl
    exact hn _ _ _ hr h
  | o :: r, i, n, s, a, w, hd, hl, hr, h => by
    subst hl
    have ho : ops[i]? = some o := by
      have : (ops.toList.drop i)[0]? = some o := by rw [hd]; rfl
      simpa using this
    have hd' : ops.toList.drop (i + 1) = r := by
      rw [← List.drop_drop, hd]
      rfl
    show wpOps P ops Q (i :: List.range' (i + 1) r.length) a w
    rw [wpOps_cons]
    exact at_sound hτ ops i hr (by unfold atW; rw [ho]; exact h) fun s' a' w' hr' h' => ops_sound hτ ops hn r (i + 1) _ hd' rfl hr' (by rw [fS_eq] at h'; exact h')

/-! ### orders that are drawn -/
/-- Operations that ask no memory. -/
def takeV (E : Env) (o : Oper) (x : Operand) (s : S) (k : V.E → Prop) : Prop :=
  match s.ev x with
  | some (.vals false [.nil _]) => (match E.τ o.type with
    | some { kind := .slice e, .. } => (match E.τ e with
      | some d => k (.vals false [.nil d.size])
      | none => False)
    | _ => k (.vals false [.nil 0]))
  | some e => k e
  | none => False

theorem takeV_ok (E : Env) (o : Oper) (x : Operand) (ho : o.op = .move x ∨ o.op = .assign x) {s : S} {a : Act} {w : World} {g : G} (hs : SlotsOk g s nt a w) {k : V.E → Prop} (h : takeV E o x s k) :
    ∃ v e, k e ∧ EOk w g s.boxes s.regs v e ∧ ∀ w', (execOp a.eval o).run P w' = .ok (.value v) w' := by
  have hrun : ∀ w', (execOp a.eval o).run P w' = .ok (.value (a.eval x)) w' := fun w' => by
    rcases ho with ho | ho <;> simp [execOp, ho]
  unfold takeV at h
  split at h
  · rename_i n he
    have hv : ∀ m, EOk w g s.boxes s.regs (a.eval x) (.vals false [.nil m]) := fun m => by
      obtain ⟨y, e1, e2⟩ := ev_ok hs he
      cases e1
      exact ⟨_, rfl, e2⟩
    split at h
    · split at h
      · exact ⟨_, _, h, hv _, hrun⟩
      · exact h.elim
    · exact ⟨_, _, h, hv _, hrun⟩
  · rename_i e _ he
    exact ⟨_, _, h, ev_ok hs he, hrun⟩
  · exact h.elim

def takeK (E : Env) (o : Oper) (s : S) (k : V.E → Prop) : Prop :=
  match o.op with
  | .move x => takeV E o x s k
  | .assign x => takeV E o x s k
  | .nilCheck p => (match s.ev p with
    | some e => ptrK s e 0 k
    | none => False)
  | .fieldAddr t p f => (match E.τ t, s.ev p with
    | some { kind := .struct fs, .. }, some e => (match fs[f]? with
      | some (off, ft) => (match E.τ ft with
        | some df => if df.size = 0 then False else ptrK s e off k
        | none => False)
      | none => False)
    | _, _ => False)
  | .binOp op t x y _ => (match s.ev x, s.ev y with
    | some (.vals false [.sc u]), some (.vals false [.sc v]) => (match binV E.τ op t u v with
      | some (c, r) => (match needsC op u with
        | true => c ∧ k (.vals false [.sc r])
        | false => k (.vals false [.sc r]))
      | none => False)
    | _, _ => False)
  | .unOp op _ x => (match s.ev x with
    | some (.vals false [.sc u]) => (match unV op u with
      | some r => k (.vals false [.sc r])
      | none => False)
    | _ => False)
  | .extract t i => (match s.ev t with
    | some (.tup ps) => (match ps[i]? with
      | some p => k (.vals p.1 p.2)
      | none => False)
    | _ => False)
  | .convert src dst x => (match s.ev x, E.τ src, E.τ dst with
    | some (.vals false [.sc (.int _ n)]), some { kind := .int _, .. }, some { kind := .int q, .. } => k (.vals false [.sc (.int q (wrp q n))])
    | _, _, _ => False)
  | _ => False

theorem take_ok (hτ : ∀ t d, E.τ t = some d → TyOk P t d) (o : Oper) {s : S} {a : Act} {w : World} {g : G} (hs : SlotsOk g s nt a w) {k : V.E → Prop} (h : takeK E o s k) :
    ∃ v e, k e ∧ EOk w g s.boxes s.regs v e ∧ ∀ w', (execOp a.eval o).run P w' = .ok (.value v) w' := by
  unfold takeK at h
  split at h
  · rename_i x ho
    exact takeV_ok E o x (.inl ho) hs h
  · rename_i x ho
    exact takeV_ok E o x (.inr ho) hs h
  · rename_i p ho
    split at h
    · rename_i e he
      obtain ⟨b, oo, e', h1, h2, h3⟩ := ptrK_ok (ev_ok hs he) h
      exact ⟨_, _, h3, h2, fun w' => by simp [execOp, ho, h1]⟩
    · exact h.elim
  · rename_i t p f ho
    split at h
    · rename_i fs _ _ _ e ht he
      split at h
      · rename_i off ft hf
        split at h
        · rename_i df hdf'
          split at h
          · exact h.elim
          · rename_i hsz0
            obtain ⟨b, oo, e', h1, h2, h3⟩ := ptrK_ok (ev_ok hs he) h
            refine ⟨_, _, h3, h2, fun w' => ?_⟩
            obtain ⟨arr, hu, ha⟩ := (hτ _ _ ht).kind
            obtain ⟨i, z, hi, hisz, _⟩ := (hτ _ _ hdf').info
            have hfld : ∃ fl, arr[f]? = some fl ∧ fl.offset = off ∧ fl.type = ft := by
              rw [← ha] at hf
              simp only [List.getElem?_map, Array.getElem?_toList] at hf
              cases hq : arr[f]? with
              | none => rw [hq] at hf; cases hf
              | some fl => rw [hq] at hf; cases hf; exact ⟨fl, rfl, rfl, rfl⟩
            obtain ⟨fl, g1, g2, g3⟩ := hfld
            subst g2
            subst g3
            have : ¬ (i.size = 0) := by rw [hisz]; exact hsz0
            simp [execOp, ho, h1, Instr.fieldAt, run_underlying hu, g1, Instr.sureAddr, fieldPlace, sizeOf, typeInfo, hi, this, add_eq]
        · exact h.elim
      · exact h.elim
    · exact h.elim
  · rename_i op t x y yt ho
    split at h
    · rename_i u v h1 h2
      split at h
      · rename_i c r hb
        obtain ⟨x1, e1, hv1⟩ := ev_ok hs h1
        obtain ⟨x2, e2, hv2⟩ := ev_ok hs h2
        cases e1
        cases e2
        have hv1' : a.eval x = u := hv1
        have hv2' : a.eval y = v := hv2
        have hW' : c ∧ k (.vals false [.sc r]) := by
          split at h
          · exact h
          · rename_i hnd
            exact ⟨needs_no hb hnd, h⟩
        rw [← hv1', ← hv2'] at hb
        exact ⟨_, _, hW'.2, sc_ok _ _ _ _ _, fun w' => bin_run P E.τ hτ a w' o op t x y yt ho c r hb hW'.1⟩
      · exact h.elim
    · exact h.elim
  · rename_i op t x ho
    split at h
    · rename_i u h1
      split at h
      · rename_i r hb
        obtain ⟨x1, e1, hv1⟩ := ev_ok hs h1
        cases e1
        have hv1' : a.eval x = u := hv1
        refine ⟨_, _, h, sc_ok _ _ _ _ _, fun w' => ?_⟩
        unfold unV at hb
        split at hb
        · cases hb
          simp [execOp, ho, hv1', Op.unary, notB_eq]
        · cases hb
          simp [execOp, ho, hv1', Op.unary, Op.intArith, wrp_eq]
        · cases hb
      · exact h.elim
    · exact h.elim
  · rename_i t i ho
    split at h
    · rename_i ps ht
      split at h
      · rename_i p hp
        obtain ⟨vs, h1, h2, h3⟩ := ev_ok hs ht
        obtain ⟨u, hu, hv⟩ := h3 i p hp
        exact ⟨u, _, h, hv, fun w' => by simp [execOp, ho, h1, Instr.extract, hu]⟩
      · exact h.elim
    · exact h.elim
  · rename_i src dst x ho
    split at h
    · rename_i q0 n _ _ _ _ q _ _ _ hx h1 h2
      have hv : a.eval x = .int q0 n := by obtain ⟨y, e1, e2⟩ := ev_ok hs hx; cases e1; exact e2
      have hu1 : P.underlying src = some (.int _) := (hτ _ _ h1).kind
      have hu2 : P.underlying dst = some (.int q) := (hτ _ _ h2).kind
      refine ⟨_, _, h, sc_ok _ _ _ _ _, fun w' => ?_⟩
      simp [execOp, ho, hv, convert, run_underlying hu1, run_underlying hu2, Conv.intToInt, wrp_eq]
    · exact h.elim
  · exact h.elim

def isTake (E : Env) (o : Oper) : Bool :=
  match o.guard with
  | some _ => false
  | none => (match o.op with
    | .assign _ => true
    | .binOp _ _ _ _ _ => true
    | .unOp _ _ _ => true
    | .extract _ _ => true
    | .convert src dst _ => (match E.τ src, E.τ dst with
      | some { kind := .int _, .. }, some { kind := .int _, .. } => true
      | _, _ => false)
    | .move _ => true
    | .nilCheck _ => true
    | .fieldAddr _ _ _ => true
    | _ => false)

/-- An order of work for a region whose orders are drawn: what is done at once, what is read early, where any of some comes next. -/
inductive Plan where
  | done
  | take (i : Nat) (p : Plan)
  | early (i : Nat) (p : Plan)
  | or (i : Nat) (p q : Plan)
  | nil

def Plan.alts : Plan → List Nat
  | .or i _ q => i :: q.alts
  | _ => []

/-- None of these looks at what 'o' yields. -/
def lookFree (ops : Array Oper) (o : Oper) : List Nat → Bool
  | [] => true
  | j :: r => (match ops[j]?, o.dst with
    | some oj, some d => !memb (looksL ops oj) d
    | _, _ => true) && lookFree ops o r

def takeB (E : Env) (ops : Array Oper) (D done : List Nat) (i : Nat) : Bool :=
  match ops[i]? with
  | some o => isTake E o && (memb (readyL done 0 ops.toList) i && (freeL ops done i o 0 ops.toList && lookFree ops o D))
  | none => false

def noGuard (o : Oper) : Bool :=
  match o.guard with
  | some _ => false
  | none => true

def earlyB (ops : Array Oper) (D done : List Nat) (i : Nat) : Bool :=
  match ops[i]? with
  | some o => noGuard o && (memb (readyL done 0 ops.toList) i && (freeL ops done i o 0 ops.toList && lookFree ops o (i :: D)))
  | none => false

def planOk (E : Env) (ops : Array Oper) : Plan → List Nat → Bool → Nat → List Nat → Bool
  | .done, _, h, _, done => h && (readyL done 0 ops.toList == [])
  | .take i p, D, h, n, done => (match n with
    | 0 => false
    | n + 1 => h && (takeB E ops D done i && planOk E ops p D true n (i :: done)))
  | .early i p, D, h, n, done => (match n with
    | 0 => false
    | n + 1 => h && (earlyB ops D done i && planOk E ops p (i :: D) true n (i :: done)))
  | .or i p q, D, h, n, done => (match n with
    | 0 => false
    | n + 1 => (!h || (readyL done 0 ops.toList == i :: q.alts)) && (planOk E ops p D true n (i :: done) && planOk E ops q D false (n + 1) done))
  | .nil, _, h, _, _ => !h

/-- What was read early is still so. -/
def debtW (E : Env) (ops : Array Oper) (s : S) (p : Nat × Value) (R : Prop) : Prop :=
  match ops[p.1]? with
    | some o => (match o.op with
      | .load t x => loadK E.τ t x s fun e => (match e with
        | .vals false [.sc v'] => v' = p.2 ∧ R
        | _ => False)
      | _ => False)
    | none => False
def debtsW (E : Env) (ops : Array Oper) (s : S) (R : Prop) (D : List (Nat × Value)) : Prop :=
  List.rec (motive := fun _ => Prop) R (fun p _ r => debtW E ops s p r) D

@[reducible] def PT := List (Nat × Value) → S → Prop
def pDone (k : S → Prop) : PT := fun _ s => k s
def pTake (E : Env) (nt : Nat) (ops : Array Oper) (i : Nat) (f : PT) : PT := fun D s =>
  match ops[i]? with
    | some o => takeK E o s fun e => putK nt o s e fun s' => fS s' fun s' => f D s'
    | none => False
def pEarly (E : Env) (nt : Nat) (ops : Array Oper) (i : Nat) (f : PT) : PT := fun D s =>
  match ops[i]? with
    | some o => (match o.op with
      | .load t x => loadK E.τ t x s fun e => (match e with
        | .vals false [.sc v] => putK nt o s (.vals false [.sc v]) fun s' => fS s' fun s' => f ((i, v) :: D) s'
        | _ => False)
      | _ => False)
    | none => False
def pOr (P : Program) (E : Env) (nt : Nat) (ops : Array Oper) (i : Nat) (q : Plan) (f g : PT) : PT := fun D s =>
  match q with
  | .nil => atW P E nt ops i s fun s' => fS s' fun s' => debtsW E ops s' (f D s') D
  | _ => (atW P E nt ops i s fun s' => fS s' fun s' => debtsW E ops s' (f D s') D) ∧ g D s
def planW (P : Program) (E : Env) (nt : Nat) (ops : Array Oper) (k : S → Prop) (p : Plan) : PT :=
  Plan.rec (motive := fun _ => PT) (pDone k) (fun i _ f => pTake E nt ops i f) (fun i _ f => pEarly E nt ops i f) (fun i _ q f g => pOr P E nt ops i q f g) (fun _ _ => True) p

theorem planW_or {P : Program} {E : Env} {nt : Nat} {ops : Array Oper} {k : S → Prop} {i : Nat} {p q : Plan} {D : List (Nat × Value)} {s : S} (h : planW P E nt ops k (.or i p q) D s) :
    (atW P E nt ops i s fun s' => fS s' fun s' => debtsW E ops s' (planW P E nt ops k p D s') D) ∧ planW P E nt ops k q D s := by
  cases q with
  | nil => exact ⟨h, trivial⟩
  | _ => exact h

theorem lookFree_spec {ops : Array Oper} {o : Oper} : ∀ {D : List Nat}, lookFree ops o D = true → ∀ j ∈ D, ∀ oj, ops[j]? = some oj → ∀ d, o.dst = some d → d ∉ oj.looksAt ops
  | j :: r, h, j', hj, oj, ho, d, hd => by
    simp only [lookFree, Bool.and_eq_true] at h
    cases hj with
    | head =>
      have h1 := h.1
      rw [ho, hd] at h1
      simp only [Bool.not_eq_true'] at h1
      rw [looksL_eq]
      exact fun hm => by rw [memb_mem.2 hm] at h1; cases h1
    | tail _ hj => exact lookFree_spec h.2 j' hj oj ho d hd

theorem takeB_spec {E : Env} {ops : Array Oper} {listed : Array Bool} {D done : List Nat} (hd : LD ops listed done) {i : Nat} (h : takeB E ops D done i = true) : ∃ o, ops[i]? = some o ∧ i ∈ Region.ready .any ops listed ∧ Region.free .any ops listed i = true ∧ o.guard = none ∧ lookFree ops o D = true := by
  unfold takeB at h
  split at h
  · rename_i o ho
    simp only [Bool.and_eq_true] at h
    obtain ⟨h1, h2, h3, h4⟩ := h
    refine ⟨o, ho, by rw [ready_eq hd]; exact memb_mem.1 h2, by rw [free_eq hd ho]; exact h3, ?_, h4⟩
    unfold isTake at h1
    split at h1
    · cases h1
    · assumption
  · cases h
theorem earlyB_spec {ops : Array Oper} {listed : Array Bool} {D done : List Nat} (hd : LD ops listed done) {i : Nat} (h : earlyB ops D done i = true) : ∃ o, ops[i]? = some o ∧ i ∈ Region.ready .any ops listed ∧ Region.free .any ops listed i = true ∧ o.guard = none ∧ lookFree ops o (i :: D) = true := by
  unfold earlyB at h
  split at h
  · rename_i o ho
    simp only [Bool.and_eq_true] at h
    obtain ⟨h1, h2, h3, h4⟩ := h
    refine ⟨o, ho, by rw [ready_eq hd]; exact memb_mem.1 h2, by rw [free_eq hd ho]; exact h3, ?_, h4⟩
    unfold noGuard at h1
    split at h1
    · cases h1
    · assumption
  · cases h

/-- All orders, and something holds after each operation. -/
def wpAnyJ (P : Program) (ops : Array Oper) (Q : Exit → Act → World → Prop) (J : Act → World → Prop) : Nat → Array Bool → Act → World → Prop
  | 0, listed, a, w => Region.ready .any ops listed = [] ∧ Q .normal a w
  | fuel + 1, listed, a, w => (Region.ready .any ops listed = [] → Q .normal a w) ∧
    ∀ i ∈ Region.ready .any ops listed, wpOp P ops Q i (fun a w => J a w ∧ wpAnyJ P ops Q J fuel (listed.setIfInBounds i true) a w) a w

theorem wpAnyJ_mono {ops : Array Oper} {Q : Exit → Act → World → Prop} {J J' : Act → World → Prop} (hJ : ∀ a w, J a w → J' a w) : ∀ (fuel : Nat) {listed : Array Bool} {a : Act} {w : World}, wpAnyJ P ops Q J fuel listed a w → wpAnyJ P ops Q J' fuel listed a w
  | 0, _, _, _, h => h
  | fuel + 1, _, _, _, h => ⟨h.1, fun i hi => wpOp_mono (fun a w h' => ⟨hJ _ _ h'.1, wpAnyJ_mono hJ fuel h'.2⟩) (h.2 i hi)⟩
theorem wpAnyJ_any {ops : Array Oper} {Q : Exit → Act → World → Prop} {J : Act → World → Prop} : ∀ (fuel : Nat) {listed : Array Bool} {a : Act} {w : World}, wpAnyJ P ops Q J fuel listed a w → wpAny P .any ops Q fuel listed a w
  | 0, _, _, _, h => h
  | fuel + 1, _, _, _, h => ⟨h.1, fun i hi => wpOp_mono (fun a w h' => wpAnyJ_any fuel h'.2) (h.2 i hi)⟩

theorem wpOp_here {ops : Array Oper} {Q K} {i : Nat} {oi : Oper} {v : Value} {a : Act} {w : World} (hi : ops[i]? = some oi) (hg : oi.guard = none) (hrun : (execOp a.eval oi).run P w = .ok (.value v) w) (h : K (a.put oi.dst v) w) : wpOp P ops Q i K a w := by
  unfold wpOp
  rw [hi]
  have : Region.wanted oi (yielded ops a.tmps) = true := by simp [Region.wanted, hg]
  simp only [this, if_true, Oper.wp, hrun, Oper.upon]
  exact .inl h

theorem hall_ne {ops : Array Oper} {listed : Array Bool} {i : Nat} {oj : Oper} (hr : i ∈ Region.ready .any ops listed) (hall : ∀ e ∈ oj.after, Region.binds .any e = true → listed.getD e.on false = true) : ∀ e ∈ oj.after, Region.binds .any e = true → e.on ≠ i := fun e he hb heq => by
  have h1 := hall e he hb
  have h0 := (mem_ready.1 hr).1
  rw [heq] at h1
  rcases Nat.lt_or_ge i listed.size with h' | h'
  · simp [h'] at h0 h1; rw [h0] at h1; cases h1
  · simp [Array.getElem?_eq_none h'] at h1

def Free (ops : Array Oper) (listed : Array Bool) (i : Nat) (oi : Oper) : Prop :=
  ∀ j oj, ops[j]? = some oj → j ≠ i → listed.getD j true = false → (∀ e ∈ oj.after, Region.binds .any e = true → e.on ≠ i) → oi.apart ops oj = true
theorem Free.put {ops : Array Oper} {listed : Array Bool} {i j : Nat} {oi : Oper} (h : Free ops listed i oi) (hjun : listed.getD j true = false) : Free ops (listed.setIfInBounds j true) i oi := fun k ok hk hki hun hno => by
  refine h k ok hk hki ?_ hno
  by_cases hjk : j = k
  · subst hjk; exact hjun
  · rw [getD_set_ne true hjk] at hun; exact hun

/-- What yields the same whatever the world is may come first. -/
theorem anyJ_take {ops : Array Oper} {Q : Exit → Act → World → Prop} {J : Act → World → Prop} {i : Nat} {oi : Oper} {v : Value} (hi : ops[i]? = some oi) (hsel : ∀ (j : Nat) (o : Oper) cs b, ops[j]? = some o → o.op ≠ .select cs b)
    (hQ : ∀ c a w, Q (.panic c) (a.put oi.dst v) w → Q (.panic c) a w) (hp : ∀ a w, J (a.put oi.dst v) w ↔ J a w) : ∀ (fuel : Nat) {listed : Array Bool} {a : Act} {w : World}, Free ops listed i oi →
      i ∈ Region.ready .any ops listed → J a w → Yields P ops oi v a → wpAnyJ P ops Q J fuel (listed.setIfInBounds i true) (a.put oi.dst v) w → wpAnyJ P ops Q J (fuel + 1) listed a w
  | 0, listed, a, w, _, hr, hJ, hy, H => by
    refine ⟨fun h => (by rw [h] at hr; cases hr), fun j hj => ?_⟩
    by_cases hji : j = i
    · subst hji; exact hy.wpOp hi ⟨(hp _ _).2 hJ, H⟩
    · have := ready_mono hj hji
      rw [H.1] at this
      cases this
  | fuel + 1, listed, a, w, hfree, hr, hJ, hy, H => by
    refine ⟨fun h => (by rw [h] at hr; cases hr), fun j hj => ?_⟩
    by_cases hji : j = i
    · subst hji; exact hy.wpOp hi ⟨(hp _ _).2 hJ, H⟩
    · have h1 := H.2 j (ready_mono hj hji)
      obtain ⟨hjun, oj, hoj, hall⟩ := mem_ready.1 hj
      have h2 := wpOp_put hoj (hfree j oj hoj hji hjun (hall_ne hr hall)) (fun cs b => hsel i oi cs b hi) (fun cs b => hsel j oj cs b hoj) hQ hy h1
      refine wpOp_mono (fun a' w' h3 => ⟨(hp _ _).1 h3.2.1, anyJ_take hi hsel hQ hp fuel (hfree.put hjun) (ready_mono hr (Ne.symm hji)) ((hp _ _).1 h3.2.1) h3.1 ?_⟩) h2
      rw [Array.setIfInBounds_comm _ _ hji]
      exact h3.2.2

/-- What yields the same as long as something holds may come first, where that holds after each operation. -/
theorem anyJ_early {ops : Array Oper} {Q : Exit → Act → World → Prop} {J : Act → World → Prop} {i : Nat} {oi : Oper} {v : Value} (hi : ops[i]? = some oi) (hsel : ∀ (j : Nat) (o : Oper) cs b, ops[j]? = some o → o.op ≠ .select cs b)
    (hQ : ∀ c a w, Q (.panic c) (a.put oi.dst v) w → Q (.panic c) a w) (hg : oi.guard = none) (hp : ∀ a w, J (a.put oi.dst v) w ↔ J a w) (hself : ∀ a : Act, execOp (a.put oi.dst v).eval oi = execOp a.eval oi) : ∀ (fuel : Nat) {listed : Array Bool} {a : Act} {w : World}, Free ops listed i oi →
      i ∈ Region.ready .any ops listed → J a w → (execOp a.eval oi).run P w = .ok (.value v) w →
      wpAnyJ P ops Q (fun a w => J a w ∧ (execOp a.eval oi).run P w = .ok (.value v) w) fuel (listed.setIfInBounds i true) (a.put oi.dst v) w → wpAnyJ P ops Q J (fuel + 1) listed a w
  | 0, listed, a, w, _, hr, hJ, hy, H => by
    refine ⟨fun h => (by rw [h] at hr; cases hr), fun j hj => ?_⟩
    by_cases hji : j = i
    · subst hji; exact wpOp_here hi hg hy ⟨(hp _ _).2 hJ, H⟩
    · have := ready_mono hj hji
      rw [H.1] at this
      cases this
  | fuel + 1, listed, a, w, hfree, hr, hJ, hy, H => by
    refine ⟨fun h => (by rw [h] at hr; cases hr), fun j hj => ?_⟩
    by_cases hji : j = i
    · subst hji; exact wpOp_here hi hg hy ⟨(hp _ _).2 hJ, wpAnyJ_mono (fun _ _ h => h.1) _ H⟩
    · have h1 := H.2 j (ready_mono hj hji)
      obtain ⟨hjun, oj, hoj, hall⟩ := mem_ready.1 hj
      have hap := hfree j oj hoj hji hjun (hall_ne hr hall)
      have hap' : ({ oi with op := .assign (.const v), guard := none } : Oper).apart ops oj = true := by
        obtain ⟨q1, q2, q3⟩ := Oper.apart_spec hap
        unfold Oper.apart
        cases hd : oi.dst with
        | none => cases hd2 : oj.dst <;> simp [Oper.looksAt, Op.operands]
        | some d =>
          have e1 := q1 d hd
          have e2 := q2 d hd
          cases hd2 : oj.dst with
          | none => simp [Oper.looksAt, Op.operands] at e1 ⊢; exact e1
          | some d2 =>
            rw [hd2] at e2
            simp [Oper.looksAt, Op.operands] at e1 e2 ⊢
            exact ⟨e1, e2⟩
      have hyf : ∀ a', Yields P ops ({ oi with op := .assign (.const v), guard := none } : Oper) v a' := fun a' => .inl ⟨by simp [Region.wanted], fun w => by simp [execOp, Act.eval]⟩
      have h2 := wpOp_put (oi := { oi with op := .assign (.const v), guard := none }) hoj hap' (fun cs b h => by cases h) (fun cs b => hsel j oj cs b hoj) hQ (hyf a) h1
      refine wpOp_mono (fun a' w' h3 => ?_) h2
      have h4 : J a' w' := (hp _ _).1 h3.2.1.1
      have h5 : (execOp a'.eval oi).run P w' = .ok (.value v) w' := by
        have := h3.2.1.2
        rw [hself] at this
        exact this
      refine ⟨h4, anyJ_early hi hsel hQ hg hp hself fuel (hfree.put hjun) (ready_mono hr (Ne.symm hji)) h4 h5 ?_⟩
      rw [Array.setIfInBounds_comm _ _ hji]
      exact h3.2.2

/-- What was read early, as the machine has it. -/
def Debts (P : Program) (ops : Array Oper) (D : List (Nat × Value)) (a : Act) (w : World) : Prop :=
  ∀ p ∈ D, ∃ o t x, ops[p.1]? = some o ∧ o.op = .load t x ∧ (execOp a.eval o).run P w = .ok (.value p.2) w

theorem Debts.put {ops : Array Oper} {o : Oper} {D : List (Nat × Value)} (h : lookFree ops o (D.map (·.1)) = true) (v : Value) (a : Act) (w : World) : Debts P ops D (a.put o.dst v) w ↔ Debts P ops D a w := by
  have key : ∀ p ∈ D, ∀ o' t x, ops[p.1]? = some o' → o'.op = .load t x → execOp (a.put o.dst v).eval o' = execOp a.eval o' := fun p hp o' t x h1 h2 =>
    execOp_put o' (fun cs b e => by rw [h2] at e; cases e) a o.dst v (lookFree_spec h p.1 (List.mem_map_of_mem hp) o' h1)
  constructor
  · intro hd p hp
    obtain ⟨o', t, x, h1, h2, h3⟩ := hd p hp
    exact ⟨o', t, x, h1, h2, by rw [← key p hp o' t x h1 h2]; exact h3⟩
  · intro hd p hp
    obtain ⟨o', t, x, h1, h2, h3⟩ := hd p hp
    exact ⟨o', t, x, h1, h2, by rw [key p hp o' t x h1 h2]; exact h3⟩

theorem sc_val {w : World} {g : G} {bs : List (Nat × Box)} {rs : List (Nat × Reg)} {u v : Value} (h : EOk w g bs rs u (.vals false [.sc v])) : u = v := by
  obtain ⟨x, e1, e2⟩ := h
  cases e1
  exact e2

theorem debts_ok (hτ : ∀ t d, E.τ t = some d → TyOk P t d) {ops : Array Oper} {s : S} {a : Act} {w : World} {R : Prop} (hr : Real w0 A B nt s a w) : ∀ {D : List (Nat × Value)}, debtsW E ops s R D → Debts P ops D a w ∧ R
  | [], h => ⟨fun p hp => (by cases hp), h⟩
  | (i, v) :: r, h => by
    replace h : debtW E ops s (i, v) (debtsW E ops s R r) := h
    unfold debtW at h
    simp only at h
    split at h
    · rename_i o ho
      split at h
      · rename_i t x hop
        obtain ⟨hdf, hsz, g, hm, hs⟩ := hr
        obtain ⟨e, u, h1, h2, h3⟩ := load_ok hτ o t x hop hm hs h
        split at h1
        · rename_i v'
          obtain ⟨h4, h5⟩ := h1
          subst h4
          obtain ⟨i1, i2⟩ := debts_ok hτ ⟨hdf, hsz, g, hm, hs⟩ h5
          rw [sc_val h3] at h2
          refine ⟨fun p hp => ?_, i2⟩
          cases hp with
          | head => exact ⟨o, t, x, ho, hop, h2⟩
          | tail _ hp => exact i1 p hp
        · exact h1.elim
      · exact h.elim
    · exact h.elim

theorem ready_lt {ops : Array Oper} {listed : Array Bool} {i : Nat} (h : i ∈ Region.ready .any ops listed) : i < ops.size := by
  unfold Region.ready at h
  exact List.mem_range.1 (List.mem_filter.1 h).1

theorem plan_sound (hτ : ∀ t d, E.τ t = some d → TyOk P t d) (ops : Array Oper) (hsel : Region.noSelect ops = true) {k : S → Prop} {Q : Exit → Act → World → Prop} (hQ : ∀ c a w, ¬ Q (.panic c) a w)
    (hn : ∀ s' a' w', Real w0 A B nt s' a' w' → k s' → Q .normal a' w') : ∀ (p : Plan) (D : List (Nat × Value)) {listed : Array Bool} {done : List Nat} {s : S} {a : Act} {w : World} (fuel : Nat), LD ops listed done → Real w0 A B nt s a w → Debts P ops D a w →
      (planOk E ops p (D.map (·.1)) true fuel done = true → planW P E nt ops k p D s → wpAnyJ P ops Q (Debts P ops D) fuel listed a w) ∧
      (planOk E ops p (D.map (·.1)) false (fuel + 1) done = true → planW P E nt ops k p D s → ∀ i ∈ p.alts, i < ops.size → wpOp P ops Q i (fun a w => Debts P ops D a w ∧ wpAnyJ P ops Q (Debts P ops D) fuel (listed.setIfInBounds i true) a w) a w)
  | .done, D, listed, done, s, a, w, fuel, hd, hr, hD => by
    refine ⟨fun hp h => ?_, fun hp h i hi => (by cases hi)⟩
    simp only [planOk, Bool.true_and, beq_iff_eq] at hp
    have hrd : Region.ready .any ops listed = [] := by rw [ready_eq hd]; exact hp
    have hq := hn _ _ _ hr h
    cases fuel with
    | zero => exact ⟨hrd, hq⟩
    | succ n => exact ⟨fun _ => hq, by rw [hrd]; exact fun i hi => by cases hi⟩
  | .nil, D, listed, done, s, a, w, fuel, hd, hr, hD => by
    refine ⟨fun hp h => ?_, fun hp h i hi => (by cases hi)⟩
    simp [planOk] at hp
  | .take i p, D, listed, done, s, a, w, fuel, hd, hr, hD => by
    refine ⟨fun hp h => ?_, fun hp h i hi => (by cases hi)⟩
    cases fuel with
    | zero => simp [planOk] at hp
    | succ n =>
      simp only [planOk, Bool.true_and, Bool.and_eq_true] at hp
      obtain ⟨hp1, hp2⟩ := hp
      obtain ⟨o, ho, p1, p2, p3, p4⟩ := takeB_spec hd hp1
      have hlt : i < ops.size := ready_lt p1
      replace h : pTake E nt ops i (planW P E nt ops k p) D s := h
      unfold pTake at h
      simp only [ho] at h
      obtain ⟨hdf, hsz, g, hm, hs⟩ := hr
      obtain ⟨v, e2, h1, h2, h3⟩ := take_ok hτ o hs h
      refine anyJ_take ho (Region.noSelect_spec hsel) (fun c a w hq => absurd hq (hQ c _ w)) (Debts.put p4 v) n (Region.free_spec ho p2) p1 hD (.inl ⟨by simp [Region.wanted, p3], h3⟩) ?_
      have hD' := (Debts.put (P := P) p4 v a w).2 hD
      unfold putK at h1
      split at h1
      · rename_i d hdst
        split at h1
        · rename_i hlt'
          rw [hdst] at hD' ⊢
          refine (plan_sound hτ ops hsel hQ hn p D n (s := { s with slots := put s.slots d e2 }) (hd.put hlt) ⟨?_, ?_, g, ⟨hm.ext, hm.lt, hm.fr, hm.regs, hm.boxes, hm.im, hm.pl⟩, hs.put hsz hlt' h2⟩ hD').1 hp2 (by rw [fS_eq] at h1; exact h1)
          · simp [Act.put, hdf]
          · simp [Act.put, hsz]
        · exact h1.elim
      · exact h1.elim
  | .early i p, D, listed, done, s, a, w, fuel, hd, hr, hD => by
    refine ⟨fun hp h => ?_, fun hp h i hi => (by cases hi)⟩
    cases fuel with
    | zero => simp [planOk] at hp
    | succ n =>
      simp only [planOk, Bool.true_and, Bool.and_eq_true] at hp
      obtain ⟨hp1, hp2⟩ := hp
      obtain ⟨o, ho, p1, p2, p3, p4⟩ := earlyB_spec hd hp1
      have hlt : i < ops.size := ready_lt p1
      replace h : pEarly E nt ops i (planW P E nt ops k p) D s := h
      unfold pEarly at h
      simp only [ho] at h
      split at h
      · rename_i t x hop
        obtain ⟨hdf, hsz, g, hm, hs⟩ := hr
        obtain ⟨e, u, h1, h2, h3⟩ := load_ok hτ o t x hop hm hs h
        split at h1
        · rename_i v
          have huv := sc_val h3
          subst huv
          have hself : ∀ a : Act, execOp (a.put o.dst u).eval o = execOp a.eval o := fun a =>
            execOp_put o (fun cs b e => by rw [hop] at e; cases e) a o.dst u (lookFree_spec p4 i (List.mem_cons_self ..) o ho)
          have p4' : lookFree ops o (D.map (·.1)) = true := by
            simp only [lookFree, Bool.and_eq_true] at p4
            exact p4.2
          refine anyJ_early ho (Region.noSelect_spec hsel) (fun c a w hq => absurd hq (hQ c _ w)) p3 (Debts.put p4' u) hself n (Region.free_spec ho p2) p1 hD h2 ?_
          have hD' : Debts P ops ((i, u) :: D) (a.put o.dst u) w := by
            refine (Debts.put (D := (i, u) :: D) p4 u a w).2 fun q hq => ?_
            cases hq with
            | head => exact ⟨o, t, x, ho, hop, h2⟩
            | tail _ hq => exact hD q hq
          have hmono : ∀ (a : Act) (w : World), Debts P ops ((i, u) :: D) a w → Debts P ops D a w ∧ (execOp a.eval o).run P w = .ok (.value u) w := by
            intro a w hJ
            refine ⟨fun q hq => hJ q (List.mem_cons_of_mem _ hq), ?_⟩
            obtain ⟨o', t', x', e1, e2, e3⟩ := hJ (i, u) (List.mem_cons_self ..)
            rw [ho] at e1
            cases e1
            exact e3
          refine wpAnyJ_mono hmono n ?_
          unfold putK at h1
          split at h1
          · rename_i d hdst
            split at h1
            · rename_i hlt'
              rw [hdst] at hD' ⊢
              refine (plan_sound hτ ops hsel hQ hn p ((i, u) :: D) n (s := { s with slots := put s.slots d (.vals false [.sc u]) }) (hd.put hlt) ⟨?_, ?_, g, ⟨hm.ext, hm.lt, hm.fr, hm.regs, hm.boxes, hm.im, hm.pl⟩, hs.put hsz hlt' h3⟩ hD').1 hp2 (by rw [fS_eq] at h1; exact h1)
              · simp [Act.put, hdf]
              · simp [Act.put, hsz]
            · exact h1.elim
          · exact h1.elim
        · exact h1.elim
      · exact h.elim
  | .or i p q, D, listed, done, s, a, w, fuel, hd, hr, hD => by
    have key : ∀ n, planOk E ops p (D.map (·.1)) true n (i :: done) = true → planOk E ops q (D.map (·.1)) false (n + 1) done = true → planW P E nt ops k (.or i p q) D s → ∀ j ∈ i :: q.alts, j < ops.size → wpOp P ops Q j (fun a w => Debts P ops D a w ∧ wpAnyJ P ops Q (Debts P ops D) n (listed.setIfInBounds j true) a w) a w := by
      intro n h1 h2 h j hj hlt
      obtain ⟨h3, h4⟩ := planW_or h
      cases hj with
      | head =>
        refine at_sound hτ ops i hr h3 fun s' a' w' hr' h' => ?_
        rw [fS_eq] at h'
        obtain ⟨h5, h6⟩ := debts_ok hτ hr' h'
        exact ⟨h5, (plan_sound hτ ops hsel hQ hn p D n (hd.put hlt) hr' h5).1 h1 h6⟩
      | tail _ hj => exact (plan_sound hτ ops hsel hQ hn q D n hd hr hD).2 h2 h4 j hj hlt
    refine ⟨fun hp h => ?_, fun hp h j hj hlt => ?_⟩
    · cases fuel with
      | zero => simp [planOk] at hp
      | succ n =>
        simp only [planOk, Bool.not_true, Bool.false_or, Bool.and_eq_true, beq_iff_eq] at hp
        obtain ⟨hp1, hp2, hp3⟩ := hp
        have hrd : Region.ready .any ops listed = i :: q.alts := by rw [ready_eq hd]; exact hp1
        refine ⟨fun h0 => (by rw [hrd] at h0; cases h0), fun j hj => ?_⟩
        rw [hrd] at hj
        exact key n hp2 hp3 h j hj (ready_lt (listed := listed) (by rw [hrd]; exact hj))
    · simp only [planOk, Bool.not_false, Bool.true_or, Bool.true_and, Bool.and_eq_true] at hp
      exact key fuel hp.1 hp.2 h j hj hlt

end
end Go.Proofs.Ytppfojiogappaaa.V
