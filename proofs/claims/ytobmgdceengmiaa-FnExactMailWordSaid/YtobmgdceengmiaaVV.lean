/- What a piece of code does to the abstract state, and that it does so. -/
import Derived.Test.YtobmgdceengmiaaVU
import Derived.Orders
set_option linter.unusedVariables false
set_option linter.unusedSimpArgs false
namespace Go.Proofs.Ytobmgdceengmiaa.V
open Go Classical

/-- What a function's text is read with: its types; how each function it calls takes its arguments. -/
structure Env where
  τ : Nat → Option TD
  md : Nat → List Mode

def opW (P : Program) (E : Env) (nt : Nat) (o : Oper) (s : S) (k : S → Prop) : Prop :=
  match o.op with
  | .move x => moveW E.τ nt o x s k
  | .assign x => moveW E.τ nt o x s k
  | .pick c x y => pickW nt o c x y s k
  | .alloc el => allocW E.τ nt o el s k
  | .box _ x => boxW nt o x s k
  | .build t ps => buildW E.τ nt o t ps s k
  | .buildSlice t n ps => buildSliceW E.τ nt o t n ps s k
  | .load t p => loadW E.τ nt o t p s k
  | .store t p x => storeW E.τ t p x o s k
  | .nilCheck p => nilCheckW nt o p s k
  | .binOp op t x y _ => binW E.τ nt o op t x y s k
  | .unOp op _ x => unW nt o op x s k
  | .convert src dst x => convW E.τ nt o src dst x s k
  | .makeSlice t l c => makeSliceW E.τ nt o t l c s k
  | .slice t x lo hi mx => sliceW E.τ nt o t x lo hi mx s k
  | .fieldAddr t p f => fieldAddrW E.τ nt o t p f s k
  | .field t x f => fieldW E.τ nt o t x f s k
  | .indexAddr t x i => indexAddrW E.τ nt o t x i s k
  | .index t x i => indexW E.τ nt o t x i s k
  | .extract t i => extractW nt o t i s k
  | .call c => (match c with
    | ⟨.builtin .len, ⟨[x]⟩, ⟨[t]⟩⟩ => lenW E.τ nt o t x s k
    | ⟨.builtin .append, ⟨[b, x]⟩, ⟨[t, t2]⟩⟩ => (match E.τ t2 with
      | some { kind := .int _, .. } => appendZW E.τ nt o t t2 b x s k
      | _ => appendW E.τ nt o t t2 b x s k)
    | ⟨.builtin .cap, ⟨[x]⟩, ⟨[t]⟩⟩ => capW E.τ nt o t x s k
    | ⟨.builtin .max, ⟨[x, y]⟩, _⟩ => minW nt o true x y s k
    | ⟨.builtin .min, ⟨[x, y]⟩, _⟩ => minW nt o false x y s k
    | ⟨.value (.func f), xs, _⟩ => callW P nt o f (E.md f) xs.toList s k
    | _ => False)
  | _ => False

/-! ### a state laid out anew: nothing is said but that its parts are looked at first -/
def fN (n : Nat) (k : Nat → Prop) : Prop :=
  match n with
  | 0 => k 0
  | m + 1 => k (m + 1)
theorem fN_eq (n : Nat) (k : Nat → Prop) : fN n k = k n := by cases n <;> rfl
def fB (b : Bool) (k : Bool → Prop) : Prop :=
  match b with
  | true => k true
  | false => k false
theorem fB_eq (n : Bool) (k : Bool → Prop) : fB n k = k n := by cases n <;> rfl
def fLn (ln : Option (Nat × Nat)) (k : Option (Nat × Nat) → Prop) : Prop :=
  match ln with
  | none => k none
  | some (h, g) => fN h fun h => fN g fun g => k (some (h, g))
theorem fLn_eq (n : Option (Nat × Nat)) (k : Option (Nat × Nat) → Prop) : fLn n k = k n := by
  cases n with
  | none => rfl
  | some p => simp only [fLn, fN_eq]
def fX (x : X) (k : X → Prop) : Prop :=
  match x with
  | .sc v => k (.sc v)
  | .nil n => fN n fun n => k (.nil n)
  | .rd ln n es => fLn ln fun ln => fN n fun n => k (.rd ln n es)
  | .ref h g => fN h fun h => fN g fun g => k (.ref h g)
  | .sub h g lo hi => fN h fun h => fN g fun g => k (.sub h g lo hi)
  | .inn h g i j => fN h fun h => fN g fun g => k (.inn h g i j)
theorem fX_eq (x : X) (k : X → Prop) : fX x k = k x := by cases x <;> simp only [fX, fN_eq, fLn_eq]
def fXs : List X → (List X → Prop) → Prop
  | [], k => k []
  | x :: r, k => fX x fun x => fXs r fun r => k (x :: r)
theorem fXs_eq : ∀ (l : List X) (k : List X → Prop), fXs l k = k l
  | [], k => rfl
  | x :: r, k => by simp only [fXs, fX_eq, fXs_eq r]
def fPs : List (Bool × List X) → (List (Bool × List X) → Prop) → Prop
  | [], k => k []
  | (b, xs) :: r, k => fB b fun b => fXs xs fun xs => fPs r fun r => k ((b, xs) :: r)
theorem fPs_eq : ∀ (l : List (Bool × List X)) (k : List (Bool × List X) → Prop), fPs l k = k l
  | [], k => rfl
  | (b, xs) :: r, k => by simp only [fPs, fB_eq, fXs_eq, fPs_eq r]
def fE (e : V.E) (k : V.E → Prop) : Prop :=
  match e with
  | .vals agg xs => fB agg fun agg => fXs xs fun xs => k (.vals agg xs)
  | .bptr b g off => fN b fun b => fN g fun g => fN off fun off => k (.bptr b g off)
  | .eptr h g i off => fN h fun h => fN g fun g => fN off fun off => k (.eptr h g i off)
  | .rptr ln row off => fLn ln fun ln => fN off fun off => k (.rptr ln row off)
  | .tup ps => fPs ps fun ps => k (.tup ps)
theorem fE_eq (e : V.E) (k : V.E → Prop) : fE e k = k e := by cases e <;> simp only [fE, fB_eq, fXs_eq, fN_eq, fLn_eq, fPs_eq]
def fSl : List (Nat × V.E) → (List (Nat × V.E) → Prop) → Prop
  | [], k => k []
  | (d, e) :: r, k => fE e fun e => fSl r fun r => k ((d, e) :: r)
theorem fSl_eq : ∀ (l : List (Nat × V.E)) (k : List (Nat × V.E) → Prop), fSl l k = k l
  | [], k => rfl
  | (d, e) :: r, k => by simp only [fSl, fE_eq, fSl_eq r]
def fBx : List (Nat × Box) → (List (Nat × Box) → Prop) → Prop
  | [], k => k []
  | (d, ⟨g, xs⟩) :: r, k => fN g fun g => fXs xs fun xs => fBx r fun r => k ((d, ⟨g, xs⟩) :: r)
theorem fBx_eq : ∀ (l : List (Nat × Box)) (k : List (Nat × Box) → Prop), fBx l k = k l
  | [], k => rfl
  | (d, ⟨g, xs⟩) :: r, k => by simp only [fBx, fN_eq, fXs_eq, fBx_eq r]
def fRg : List (Nat × Reg) → (List (Nat × Reg) → Prop) → Prop
  | [], k => k []
  | (d, ⟨l, g, iv, p, n, es⟩) :: r, k => fB l fun l => fN g fun g => fN iv fun iv => fB p fun p => fN n fun n => fRg r fun r => k ((d, ⟨l, g, iv, p, n, es⟩) :: r)
theorem fRg_eq : ∀ (l : List (Nat × Reg)) (k : List (Nat × Reg) → Prop), fRg l k = k l
  | [], k => rfl
  | (d, ⟨l, g, iv, p, n, es⟩) :: r, k => by simp only [fRg, fB_eq, fN_eq, fRg_eq r]
def fS (s : S) (k : S → Prop) : Prop :=
  match s with
  | ⟨sl, bx, rg⟩ => fSl sl fun sl => fBx bx fun bx => fRg rg fun rg => k ⟨sl, bx, rg⟩
theorem fS_eq (s : S) (k : S → Prop) : fS s k = k s := by cases s; simp only [fS, fSl_eq, fBx_eq, fRg_eq]

section
variable {P : Program} {w0 : World} {A : AA} {B : List (Nat × Nat × Nat)} {nt : Nat} {E : Env}

theorem op_sound (hτ : ∀ t d, E.τ t = some d → TyOk P t d) (o : Oper) : Sound P w0 A B nt o (opW P E nt o) := by
  intro s a w k next Q hr hW hn
  unfold opW at hW
  split at hW
  · rename_i h; exact move_sound E.τ o _ (.inl h) s a w k next Q hr hW hn
  · rename_i h; exact move_sound E.τ o _ (.inr h) s a w k next Q hr hW hn
  · rename_i h; exact pick_sound o _ _ _ h s a w k next Q hr hW hn
  · rename_i h; exact alloc_sound hτ o _ h s a w k next Q hr hW hn
  · rename_i h; exact box_sound o _ _ h s a w k next Q hr hW hn
  · rename_i h; exact build_sound hτ o _ _ h s a w k next Q hr hW hn
  · rename_i h; exact buildSlice_sound hτ o _ _ _ h s a w k next Q hr hW hn
  · rename_i h; exact load_sound hτ o _ _ h s a w k next Q hr hW hn
  · rename_i h; exact store_sound hτ o _ _ _ h s a w k next Q hr hW hn
  · rename_i h; exact nilCheck_sound o _ h s a w k next Q hr hW hn
  · rename_i h; exact bin_sound hτ o _ _ _ _ _ h s a w k next Q hr hW hn
  · rename_i h; exact un_sound o _ _ _ h s a w k next Q hr hW hn
  · rename_i h; exact conv_sound hτ o _ _ _ h s a w k next Q hr hW hn
  · rename_i h; exact makeSlice_sound hτ o _ _ _ h s a w k next Q hr hW hn
  · rename_i h; exact slice_sound hτ o _ _ _ _ _ h s a w k next Q hr hW hn
  · rename_i h; exact fieldAddr_sound hτ o _ _ _ h s a w k next Q hr hW hn
  · rename_i h; exact field_sound hτ o _ _ _ h s a w k next Q hr hW hn
  · rename_i h; exact indexAddr_sound hτ o _ _ _ h s a w k next Q hr hW hn
  · rename_i h; exact index_sound hτ o _ _ _ h s a w k next Q hr hW hn
  · rename_i h; exact extract_sound o _ _ h s a w k next Q hr hW hn
  · rename_i h
    split at hW
    · exact len_sound hτ o _ _ h s a w k next Q hr hW hn
    · split at hW
      · exact appendZ_sound hτ o _ _ _ _ h s a w k next Q hr hW hn
      · exact append_sound hτ o _ _ _ _ h s a w k next Q hr hW hn
    · exact cap_sound hτ o _ _ h s a w k next Q hr hW hn
    · exact max_sound o _ _ _ h s a w k next Q hr hW hn
    · exact min_sound o _ _ _ h s a w k next Q hr hW hn
    · exact call_sound o _ _ _ _ h s a w k next Q hr hW hn
    · exact hW.elim
  · exact hW.elim

/-- An operation that the way taken passes over leaves nothing. -/
def skipW (nt : Nat) (o : Oper) (s : S) (k : S → Prop) : Prop :=
  match o.dst with
  | some d => if d < nt then k { s with slots := put s.slots d (.vals false [.sc undef]) } else False
  | none => k s

theorem skip_sound (o : Oper) {s : S} {a : Act} {w : World} {k : S → Prop} {next : Act → World → Prop} (hr : Real w0 A B nt s a w) (hW : skipW nt o s k) (hn : ∀ s' a' w', Real w0 A B nt s' a' w' → k s' → next a' w') :
    next (a.put o.dst undef) w := by
  obtain ⟨hdf, hsz, g, hm, hs⟩ := hr
  unfold skipW at hW
  split at hW
  · rename_i d hd
    rw [hd]
    split at hW
    · rename_i hlt
      refine hn { s with slots := put s.slots d (.vals false [.sc undef]) } _ _ ⟨?_, ?_, g, ⟨hm.ext, hm.lt, hm.fr, hm.regs, hm.boxes, hm.im, hm.pl⟩, hs.put hsz hlt (e := .vals false [.sc undef]) ⟨_, rfl, rfl⟩⟩ hW
      · simp [Act.put, hdf]
      · simp [Act.put, hsz]
    · exact hW.elim
  · rename_i hd
    rw [hd]
    exact hn s _ _ ⟨hdf, hsz, g, hm, hs⟩ hW

/-- An operation of a region, as it is wanted or not. -/
def atO (P : Program) (E : Env) (nt : Nat) (ops : Array Oper) (o : Oper) (s : S) (k : S → Prop) : Prop :=
    (match o.guard with
    | none => opW P E nt o s k
    | some (j, want) => (match (ops[j]?).bind (·.dst) with
      | some d => (match get s.slots d with
        | some (.vals false [.sc (.bool t)]) => (match want with
          | true => br t (opW P E nt o s k) (skipW nt o s k)
          | false => br t (skipW nt o s k) (opW P E nt o s k))
        | some (.vals false [.sc (.tuple _)]) => skipW nt o s k
        | _ => False)
      | none => False))
def atW (P : Program) (E : Env) (nt : Nat) (ops : Array Oper) (i : Nat) (s : S) (k : S → Prop) : Prop :=
  match ops[i]? with
  | none => k s
  | some o => atO P E nt ops o s k

theorem at_sound (hτ : ∀ t d, E.τ t = some d → TyOk P t d) (ops : Array Oper) (i : Nat) {s : S} {a : Act} {w : World} {k : S → Prop} {K : Act → World → Prop} {Q : Exit → Act → World → Prop} (hr : Real w0 A B nt s a w)
    (hW : atW P E nt ops i s k) (hn : ∀ s' a' w', Real w0 A B nt s' a' w' → k s' → K a' w') : wpOp P ops Q i K a w := by
  unfold atW at hW
  unfold wpOp
  split at hW
  · rename_i h
    rw [h]
    exact hn _ _ _ hr hW
  · rename_i o h
    rw [h]
    have run : opW P E nt o s k → o.wp P a w K Q := fun hW => op_sound hτ o s a w k K Q hr hW hn
    have skip : skipW nt o s k → K (a.put o.dst undef) w := fun hW => skip_sound o hr hW hn
    unfold atO at hW
    split at hW
    · rename_i hg
      have : Region.wanted o (yielded ops a.tmps) = true := by simp [Region.wanted, hg]
      simp only [this, if_true]
      exact .inl (run hW)
    · rename_i j want hg
      split at hW
      · rename_i d hd
        have hslot : ∀ e, get s.slots d = some e → ∃ g, EOk w g s.boxes s.regs (a.tmps.getD d undef) e ∧ a.tmps[d]? = some (a.tmps.getD d undef) := by
          intro e he
          obtain ⟨_, hsz, g, hm, hs⟩ := hr
          refine ⟨g, (hs d e he).2, ?_⟩
          have hlt : d < a.tmps.size := by rw [hsz]; exact (hs d e he).1
          simp [hlt]
        split at hW
        · rename_i t hs
          obtain ⟨g, ⟨x, e1, e2⟩, e3⟩ := hslot _ hs
          cases e1
          have e2 : a.tmps.getD d undef = .bool t := e2
          have hy : yielded ops a.tmps j = some t := by
            unfold yielded
            rw [hd]
            simp only [Option.bind_some, e3, e2]
          have hwn : Region.wanted o (yielded ops a.tmps) = (t == want) := by simp [Region.wanted, hg, hy]
          simp only [hwn]
          cases want <;> cases t <;> simp only [br_t, br_f] at hW
          · exact .inl (run hW)
          · exact skip hW
          · exact skip hW
          · exact .inl (run hW)
        · rename_i vs hs
          obtain ⟨g, ⟨x, e1, e2⟩, e3⟩ := hslot _ hs
          cases e1
          have e2 : a.tmps.getD d undef = .tuple vs := e2
          have hy : yielded ops a.tmps j = none := by
            unfold yielded
            rw [hd]
            simp only [Option.bind_some, e3, e2]
          have hwn : Region.wanted o (yielded ops a.tmps) = false := by simp [Region.wanted, hg, hy]
          simp only [hwn]
          exact skip hW
        · exact hW.elim
      · exact hW.elim

/-- The operations of a region, one after another. -/
def opsW (P : Program) (E : Env) (nt : Nat) (ops : Array Oper) (k : S → Prop) : List Oper → S → Prop
  | [], s => k s
  | o :: r, s => atO P E nt ops o s fun s' => fS s' fun s' => opsW P E nt ops k r s'

theorem ops_sound (hτ : ∀ t d, E.τ t = some d → TyOk P t d) (ops : Array Oper) {k : S → Prop} {Q : Exit → Act → World → Prop} (hn : ∀ s' a' w', Real w0 A B nt s' a' w' → k s' → Q .normal a' w') : ∀ (l : List Oper) (i n : Nat) {s : S} {a : Act} {w : World},
    ops.toList.drop i = l → l.length = n → Real w0 A B nt s a w → opsW P E nt ops k l s → wpOps P ops Q (List.range' i n) a w
  | [], i, n, s, a, w, hd, hl, hr, h => by
    subst hl
    exact hn _ _ _ hr h
  | o :: r, i, n, s, a, w, hd, hl, hr, h => by
    subst hl
    have ho : ops[i]? = some o := by
      have : (ops.toList.drop i)[0]? = some o := by rw [hd]; rfl
      simpa using this
    have hd' : ops.toList.drop (i + 1) = r := by
      rw [← List.drop_drop, hd]
      rfl
    show wpOps P ops Q (i :: List.range' (i + 1) r.length) a w
    rw [wpOps_cons]
    exact at_sound hτ ops i hr (by unfold atW; rw [ho]; exact h) fun s' a' w' hr' h' => ops_sound hτ ops hn r (i + 1) _ hd' rfl hr' (by rw [fS_eq] at h'; exact h')

/-! ### orders that are drawn -/
/-- Operations that ask no memory. -/
def takeK (E : Env) (o : Oper) (s : S) (k : V.E → Prop) : Prop :=
  match o.op with
  | .move x => (match s.ev x with
    | some (.vals false [.nil _]) => False
    | some e => k e
    | none => False)
  | .nilCheck p => (match s.ev p with
    | some e => ptrK s e 0 k
    | none => False)
  | .fieldAddr t p f => (match E.τ t, s.ev p with
    | some { kind := .struct fs, .. }, some e => (match fs[f]? with
      | some (off, ft) => (match E.τ ft with
        | some df => if df.size = 0 then False else ptrK s e off k
        | none => False)
      | none => False)
    | _, _ => False)
  | _ => False

theorem take_ok (hτ : ∀ t d, E.τ t = some d → TyOk P t d) (o : Oper) {s : S} {a : Act} {w : World} {g : G} (hs : SlotsOk g s nt a w) {k : V.E → Prop} (h : takeK E o s k) :
    ∃ v e, k e ∧ EOk w g s.boxes s.regs v e ∧ ∀ w', (execOp a.eval o).run P w' = .ok (.value v) w' := by
  unfold takeK at h
  split at h
  · rename_i x ho
    split at h
    · exact h.elim
    · rename_i e _ he
      exact ⟨_, _, h, ev_ok hs he, fun w' => by simp [execOp, ho]⟩
    · exact h.elim
  · rename_i p ho
    split at h
    · rename_i e he
      obtain ⟨b, oo, e', h1, h2, h3⟩ := ptrK_ok (ev_ok hs he) h
      exact ⟨_, _, h3, h2, fun w' => by simp [execOp, ho, h1]⟩
    · exact h.elim
  · rename_i t p f ho
    split at h
    · rename_i fs _ _ _ e ht he
      split at h
      · rename_i off ft hf
        split at h
        · rename_i df hdf'
          split at h
          · exact h.elim
          · rename_i hsz0
            obtain ⟨b, oo, e', h1, h2, h3⟩ := ptrK_ok (ev_ok hs he) h
            refine ⟨_, _, h3, h2, fun w' => ?_⟩
            obtain ⟨arr, hu, ha⟩ := (hτ _ _ ht).kind
            obtain ⟨i, z, hi, hisz, _⟩ := (hτ _ _ hdf').info
            have hfld : ∃ fl, arr[f]? = some fl ∧ fl.offset = off ∧ fl.type = ft := by
              rw [← ha] at hf
              simp only [List.getElem?_map, Array.getElem?_toList] at hf
              cases hq : arr[f]? with
              | none => rw [hq] at hf; cases hf
              | some fl => rw [hq] at hf; cases hf; exact ⟨fl, rfl, rfl, rfl⟩
            obtain ⟨fl, g1, g2, g3⟩ := hfld
            subst g2
            subst g3
            have : ¬ (i.size = 0) := by rw [hisz]; exact hsz0
            simp [execOp, ho, h1, Instr.fieldAt, run_underlying hu, g1, Instr.sureAddr, fieldPlace, sizeOf, typeInfo, hi, this, add_eq]
        · exact h.elim
      · exact h.elim
    · exact h.elim
  · exact h.elim

def isTake (o : Oper) : Bool :=
  match o.guard with
  | some _ => false
  | none => (match o.op with
    | .move _ => true
    | .nilCheck _ => true
    | .fieldAddr _ _ _ => true
    | _ => false)

def pickTake (ops : Array Oper) (listed : Array Bool) : List Nat → Option Nat
  | [] => none
  | i :: r => match ops[i]? with
    | some o => (match isTake o with
      | true => (match Region.free .any ops listed i with
        | true => some i
        | false => pickTake ops listed r)
      | false => pickTake ops listed r)
    | none => pickTake ops listed r

def allW (f : Nat → Prop) : List Nat → Prop
  | [] => True
  | [i] => f i
  | i :: r => f i ∧ allW f r

theorem allW_mem {f : Nat → Prop} : ∀ {l : List Nat}, allW f l → ∀ i ∈ l, f i
  | [i], h, j, hj => by rw [List.mem_singleton.1 hj]; exact h
  | i :: i2 :: r, h, j, hj => by
    have h' : f i ∧ allW f (i2 :: r) := h
    cases hj with
    | head => exact h'.1
    | tail _ hj => exact allW_mem h'.2 j hj

def anyW (P : Program) (E : Env) (nt : Nat) (ops : Array Oper) (k : S → Prop) : Nat → Array Bool → S → Prop
  | 0, listed, s => (match Region.ready .any ops listed with
    | [] => k s
    | _ => False)
  | fuel + 1, listed, s => (match Region.ready .any ops listed with
    | [] => k s
    | r :: rs => (match pickTake ops listed (r :: rs) with
      | some i => (match ops[i]? with
        | some o => takeK E o s fun e => putK nt o s e fun s' => fS s' fun s' => anyW P E nt ops k fuel (listed.setIfInBounds i true) s'
        | none => False)
      | none => allW (fun i => atW P E nt ops i s fun s' => fS s' fun s' => anyW P E nt ops k fuel (listed.setIfInBounds i true) s') (r :: rs)))

theorem pickTake_spec {ops : Array Oper} {listed : Array Bool} : ∀ {l : List Nat} {i : Nat}, pickTake ops listed l = some i → i ∈ l ∧ Region.free .any ops listed i = true ∧ ∀ o, ops[i]? = some o → o.guard = none
  | j :: r, i, h => by
    simp only [pickTake] at h
    split at h
    · rename_i o ho
      split at h
      · rename_i ht
        split at h
        · rename_i hf
          cases h
          refine ⟨List.mem_cons_self .., hf, fun o' ho' => ?_⟩
          rw [ho] at ho'
          cases ho'
          unfold isTake at ht
          split at ht
          · cases ht
          · assumption
        · have := pickTake_spec h
          exact ⟨List.mem_cons_of_mem _ this.1, this.2⟩
      · have := pickTake_spec h
        exact ⟨List.mem_cons_of_mem _ this.1, this.2⟩
    · have := pickTake_spec h
      exact ⟨List.mem_cons_of_mem _ this.1, this.2⟩

theorem any_sound (hτ : ∀ t d, E.τ t = some d → TyOk P t d) (ops : Array Oper) (hsel : Region.noSelect ops = true) {k : S → Prop} {Q : Exit → Act → World → Prop} (hQ : ∀ c a w, ¬ Q (.panic c) a w)
    (hn : ∀ s' a' w', Real w0 A B nt s' a' w' → k s' → Q .normal a' w') : ∀ (fuel : Nat) {listed : Array Bool} {s : S} {a : Act} {w : World},
    Real w0 A B nt s a w → anyW P E nt ops k fuel listed s → wpAny P .any ops Q fuel listed a w
  | 0, listed, s, a, w, hr, h => by
    simp only [anyW] at h
    split at h
    · rename_i e
      exact ⟨e, hn _ _ _ hr h⟩
    · exact h.elim
  | fuel + 1, listed, s, a, w, hr, h => by
    simp only [anyW] at h
    split at h
    · rename_i e
      exact wpAny_done e (hn _ _ _ hr h) _
    · rename_i r rs e
      split at h
      · rename_i i hp
        obtain ⟨p1, p2, p3⟩ := pickTake_spec hp
        split at h
        · rename_i o ho
          obtain ⟨hdf, hsz, g, hm, hs⟩ := hr
          obtain ⟨v, e2, h1, h2, h3⟩ := take_ok hτ o hs h
          refine wpAny_take ho hsel p2 (by rw [e]; simpa using p1) (fun c a w hq => absurd hq (hQ c _ w)) (.inl ⟨by simp [Region.wanted, p3 o ho], h3⟩) ?_
          unfold putK at h1
          split at h1
          · rename_i d hd
            split at h1
            · rename_i hlt
              rw [hd]
              refine any_sound hτ ops hsel hQ hn fuel (s := { s with slots := put s.slots d e2 }) ⟨?_, ?_, g, ⟨hm.ext, hm.lt, hm.fr, hm.regs, hm.boxes, hm.im, hm.pl⟩, hs.put hsz hlt h2⟩ (by rw [fS_eq] at h1; exact h1)
              · simp [Act.put, hdf]
              · simp [Act.put, hsz]
            · exact h1.elim
          · exact h1.elim
        · exact h.elim
      · refine wpAny_all e (by simp) fun i hi => ?_
        exact at_sound hτ ops i hr (allW_mem h i hi) fun s' a' w' hr' h' => any_sound hτ ops hsel hQ hn fuel hr' (by rw [fS_eq] at h'; exact h')

end
end Go.Proofs.Ytobmgdceengmiaa.V
