/- What a function is known to do (FnV): arguments by what they stand for, results likewise; what a call hands over. -/
import Derived.Test.YtppfojiogappaaaVR
set_option linter.unusedVariables false
set_option linter.unusedSimpArgs false
namespace Go.Proofs.Ytppfojiogappaaa.V
open Go Classical

inductive Mode where
  | rd
  | own
  | mptr
  | clo
  | rptr
  | nilm

/-- An argument: read; handed over; a variable that may be changed; a place that is read. -/
inductive AV where
  | rdv (agg : Bool) (cs : List C)
  | own (n : Nat) (es : List (List C))
  | mptr (wr : Option Nat) (cs : List C)
  | rptr (row : List C)
  | nilv (n : Nat)

inductive RX where
  | rd (c : C)
  | own (pure : Bool) (n : Nat) (es : List (List C))
  | box (cs : List C)
structure RV where
  agg : Bool
  xs : List RX

def MemRow (w : World) (I : Nat → Prop) (p : Nat × Nat) (cs : List C) : Prop :=
  ∃ bcs e, w.heap[p.1]? = some (.cells bcs e (0, 0)) ∧ p.2 + cs.length ≤ bcs.size ∧ ∀ (j : Nat) (c : C), cs[j]? = some c → ∃ u, bcs[p.2 + j]? = some u ∧ u.oneCell' = true ∧ Rd w I u c

def ArgOk (w : World) (I F : Nat → Prop) (v : Value) : AV → Prop
  | .rdv false cs => ∃ c, cs = [c] ∧ Rd w I v c
  | .rdv true cs => ∃ us, v = .agg us ∧ us.size = cs.length ∧ ∀ (j : Nat) (c : C), cs[j]? = some c → ∃ u, us[j]? = some u ∧ Rd w I u c
  | .own n es => Own w I F v (.sl true n es)
  | .mptr wr cs => ∃ p : Nat × Nat, v = ptV wr p.1 p.2 ∧ F p.1 ∧ MemRow w I p cs
  | .rptr row => ∃ b o, v = .pointer (some ⟨b, o, none⟩) ∧ I b ∧ ∀ (j : Nat) (c : C), row[j]? = some c → ∃ u, w.cell? ⟨b, o + j, none⟩ = some u ∧ Rd w I u c
  | .nilv _ => v = .slice none 0 0

def ArgsOk (w : World) (I : Nat → Prop) : List AV → List Value → List (Nat → Prop) → Prop
  | [], [], [] => True
  | a :: as, v :: vs, F :: Fs => ArgOk w I F v a ∧ ArgsOk w I as vs Fs
  | _, _, _ => False

def Apart : List (Nat → Prop) → Prop
  | [] => True
  | F :: Fs => (∀ x, F x → ∀ F' ∈ Fs, ¬ F' x) ∧ Apart Fs

def aOf : List AV → List (Nat → Prop) → Nat → Prop
  | .own _ _ :: as, F :: Fs, x => F x ∨ aOf as Fs x
  | _ :: as, _ :: Fs, x => aOf as Fs x
  | _, _, _ => False

def bOf : List AV → List Value → List (Nat × Nat × Nat)
  | .mptr wr cs :: as, v :: vs => (match unP wr v with
    | some p => (p.1, p.2, cs.length) :: bOf as vs
    | none => bOf as vs)
  | _ :: as, _ :: vs => bOf as vs
  | _, _ => []

def OutsOk (w : World) (I : Nat → Prop) : List AV → List Value → List (List C) → Prop
  | .mptr wr cs :: as, v :: vs, o :: outs => (o.length = cs.length ∧ ∃ p : Nat × Nat, v = ptV wr p.1 p.2 ∧ MemRow w I p o) ∧ OutsOk w I as vs outs
  | .mptr _ _ :: _, _, _ => False
  | _ :: as, _ :: vs, outs => OutsOk w I as vs outs
  | [], _, [] => True
  | _, _, _ => False

def RxOk (w : World) (I F : Nat → Prop) (u : Value) : RX → Prop
  | .rd c => Rd w I u c
  | .own pure n es => Own w (if pure then fun _ => False else I) F u (.sl true n es)
  | .box cs => ∃ p : Nat × Nat, u = .pointer (some ⟨p.1, p.2, none⟩) ∧ F p.1 ∧ MemRow w I p cs

def RvOk (w : World) (I : Nat → Prop) (F : Nat → Nat → Prop) (v : Value) (r : RV) : Prop :=
  match r.agg with
  | false => ∃ x, r.xs = [x] ∧ RxOk w I (F 0) v x
  | true => ∃ us, v = .agg us ∧ us.size = r.xs.length ∧ ∀ (j : Nat) (x : RX), r.xs[j]? = some x → ∃ u, us[j]? = some u ∧ RxOk w I (F j) u x

def RetOk (rs : List RV) (us : Array Value) (v : Value) : Prop := us.size = rs.length ∧ v = if h : us.size = 1 then us[0] else .tuple us

/-- What holds when a function comes back. -/
structure Back (w : World) (I A : Nat → Prop) (B : List (Nat × Nat × Nat)) (as : List AV) (vs : List Value) (w' : World) (v : Value) (rs : List RV) (outs : List (List C)) : Prop where
  ext : Ext w ⟨A, fun _ => False, fun _ => False, fun _ => (0, 0)⟩ B w'
  res : ∃ (us : Array Value) (I' : Nat → Prop) (G : Nat → Nat → Nat → Prop), RetOk rs us v ∧
    (∀ (k : Nat) (r : RV), rs[k]? = some r → ∃ u, us[k]? = some u ∧ RvOk w' I' (G k) u r) ∧ OutsOk w' I' as vs outs ∧
    (∀ x, I' x → x < w'.heap.size ∧ (I x ∨ A x ∨ w.heap.size ≤ x)) ∧
    (∀ k j x, G k j x → x < w'.heap.size ∧ (A x ∨ w.heap.size ≤ x) ∧ ¬ I' x) ∧
    (∀ k j k' j' x, G k j x → G k' j' x → k = k' ∧ j = j')

/-- The function 'f' called with such arguments comes back with such results. -/
@[irreducible] def FnV (P : Program) (f : Nat) (as : List AV) (post : List RV → List (List C) → Prop) : Prop :=
  (∃ fn c, P.funcs[f]? = some fn ∧ (fn.name == "runtime.NumGoroutine") = false ∧ fn.body = some c) ∧ ∀ (w : World) (I : Nat → Prop) (Fs : List (Nat → Prop)) (vs : List Value), ArgsOk w I as vs Fs → Apart Fs → (∀ F ∈ Fs, ∀ x, F x → ¬ I x ∧ x < w.heap.size) → (∀ x, I x → x < w.heap.size) →
    Calls P f vs.toArray w fun e w' => ∃ v rs outs, e = .returned v ∧ post rs outs ∧ Back w I (aOf as Fs) (bOf as vs) as vs w' v rs outs

theorem FnV_eq (P : Program) (f : Nat) (as : List AV) (post : List RV → List (List C) → Prop) : FnV P f as post = ((∃ fn c, P.funcs[f]? = some fn ∧ (fn.name == "runtime.NumGoroutine") = false ∧ fn.body = some c) ∧ ∀ (w : World) (I : Nat → Prop) (Fs : List (Nat → Prop)) (vs : List Value), ArgsOk w I as vs Fs → Apart Fs → (∀ F ∈ Fs, ∀ x, F x → ¬ I x ∧ x < w.heap.size) → (∀ x, I x → x < w.heap.size) →
    Calls P f vs.toArray w fun e w' => ∃ v rs outs, e = .returned v ∧ post rs outs ∧ Back w I (aOf as Fs) (bOf as vs) as vs w' v rs outs) := by unfold FnV; rfl

theorem FnV.mono {P : Program} {f : Nat} {as : List AV} {post post' : List RV → List (List C) → Prop} (h : FnV P f as post) (hp : ∀ rs outs, post rs outs → post' rs outs) : FnV P f as post' := by
  rw [FnV_eq] at h ⊢
  exact ⟨h.1, fun w I Fs vs h1 h2 h3 h4 => (h.2 w I Fs vs h1 h2 h3 h4).mono fun e w' ⟨v, rs, outs, a, b, c⟩ => ⟨v, rs, outs, a, hp _ _ b, c⟩⟩

/-! ### what the caller hands over -/
def xC (s : S) (x : X) (k : List (Nat × Nat) → C → Prop) : Prop :=
  match x with
  | .sc v => k [] (.sc v)
  | .nil n => k [] (.sl true n [])
  | .rd none n es => k [] (.sl true n es)
  | .rd (some (h, iv)) n es => if lnLive s (some (h, iv)) then k [(h, iv)] (.sl true n es) else False
  | .ref h g => (match regAt s h g with
    | some r => k [(h, r.iv)] (.sl true r.n r.es)
    | none => False)
  | .sub h g lo hi => (match regAt s h g with
    | some r => k [(h, r.iv)] (.sl true r.n ((r.es.take hi).drop lo))
    | none => False)
  | .inn h iv i j => (match regIv s h iv with
    | some r => ∃ row n es, r.es[i]? = some row ∧ row[j]? = some (.sl true n es) ∧ k [(h, iv)] (.sl true n es)
    | none => False)

def xCs (s : S) : List X → (List (Nat × Nat) → List C → Prop) → Prop
  | [], k => k [] []
  | x :: r, k => xC s x fun l c => xCs s r fun l' cs => k (l ++ l') (c :: cs)

def argE (s : S) (m : Mode) (oe : Option E) (k : List (Nat × Nat) → List Nat → List Nat → AV → Prop) : Prop :=
  match m with
  | .rd => (match oe with
    | some (.vals agg xs) => xCs s xs fun l cs => k l [] [] (.rdv agg cs)
    | _ => False)
  | .own => (match oe with
    | some (.vals false [.nil n]) => k [] [] [] (.own n [])
    | some (.vals false [.ref h g]) => (match regAt s h g with
      | some r => k [] [h] [] (.own r.n r.es)
      | none => False)
    | some (.vals false [.sub h g lo hi]) => (match regAt s h g with
      | some r => k [] [h] [] (.own r.n ((r.es.take hi).drop lo))
      | none => False)
    | _ => False)
  | .mptr => (match oe with
    | some (.bptr b g 0) => (match boxAt s b g with
      | some xs => xCs s xs fun l cs => k l [] [b] (.mptr none cs)
      | none => False)
    | _ => False)
  | .clo => (match oe with
    | some (.clo f b g) => (match boxAt s b g with
      | some xs => xCs s xs fun l cs => k l [] [b] (.mptr (some f) cs)
      | none => False)
    | _ => False)
  | .rptr => (match oe with
    | some (.rptr none row 0) => k [] [] [] (.rptr row)
    | some (.rptr (some (h, iv)) row 0) => if lnLive s (some (h, iv)) then k [(h, iv)] [] [] (.rptr row) else False
    | some (.eptr h g i 0) => (match regAt s h g with
      | some r => ∃ row, r.es[i]? = some row ∧ k [(h, r.iv)] [] [] (.rptr row)
      | none => False)
    | _ => False)
  | .nilm => (match oe with
    | some (.vals false [.nil n]) => k [] [] [] (.nilv n)
    | _ => False)

def argsE (s : S) : List Mode → List (Option E) → (List (Nat × Nat) → List Nat → List Nat → List AV → Prop) → Prop
  | [], [], k => k [] [] [] []
  | m :: ms, x :: xs, k => argE s m x fun l o b a => argsE s ms xs fun l' o' b' as => k (l ++ l') (o ++ o') (b ++ b') (a :: as)
  | _, _, _ => False
def argsW (s : S) (ms : List Mode) (xs : List Operand) (k : List (Nat × Nat) → List Nat → List Nat → List AV → Prop) : Prop := argsE s ms (xs.map s.ev) k

/-- Values as they are told. -/
def EsOk (w : World) (g : G) (s : S) : List (Option E) → List Value → Prop
  | [], [] => True
  | oe :: es, v :: vs => (∀ e, oe = some e → EOk w g s.boxes s.regs v e) ∧ EsOk w g s es vs
  | _, _ => False

/-- What the callee may read. -/
def IL (g : G) (l : List (Nat × Nat)) : Nat → Prop := fun x => g.ow x = .imm ∨ ∃ p ∈ l, g.ow x = .reg p.1

def LiveL (s : S) (l : List (Nat × Nat)) : Prop := ∀ p ∈ l, ∃ r, get s.regs p.1 = some r ∧ r.live = true ∧ r.iv = p.2

section
variable {w0 : World} {A : AA} {B : List (Nat × Nat × Nat)}

theorem IL_app_left {g : G} {l l' : List (Nat × Nat)} {x : Nat} (h : IL g l x) : IL g (l ++ l') x := h.imp id fun ⟨p, hp, e⟩ => ⟨p, List.mem_append.2 (.inl hp), e⟩
theorem IL_app_right {g : G} {l l' : List (Nat × Nat)} {x : Nat} (h : IL g l' x) : IL g (l ++ l') x := h.imp id fun ⟨p, hp, e⟩ => ⟨p, List.mem_append.2 (.inr hp), e⟩
theorem LiveL.app {s : S} {l l' : List (Nat × Nat)} (h : LiveL s l) (h' : LiveL s l') : LiveL s (l ++ l') := fun p hp => (List.mem_append.1 hp).elim (h p) (h' p)

theorem own_IL {g : G} {s : S} {w : World} (hm : Mem w0 A B g s w) {h : Nat} {r : Reg} (hr : get s.regs h = some r) (hl : r.live = true) :
    Rd w (IL g [(h, r.iv)]) (g.val h) (.sl true r.n r.es) := by
  refine (hm.regs h r hr hl).rdOf.frame ?_ (fun _ _ => rfl)
  rintro b (hb | hb)
  · split at hb
    · exact hb.elim
    · exact .inl hb
  · exact .inr ⟨_, List.mem_singleton.2 rfl, hb⟩

theorem ln_IL {g : G} {s : S} {h iv : Nat} {φ : (Nat → Prop) → Prop} (hx : LnOk g s.regs (some (h, iv)) φ) (hl : lnLive s (some (h, iv)) = true) (hφ : ∀ I I' : Nat → Prop, (∀ x, I x → I' x) → φ I → φ I') :
    LiveL s [(h, iv)] ∧ φ (IL g [(h, iv)]) := by
  obtain ⟨r, h1, h2, h3⟩ := lnLive_some hl
  obtain ⟨r', h4, h5, h6⟩ := hx
  rw [h1] at h4
  cases h4
  refine ⟨fun p hp => ?_, hφ _ _ (fun x hx => hx.elim .inl fun h => .inr ⟨_, List.mem_singleton.2 rfl, h⟩) (h6 h2 h3.symm)⟩
  rw [List.mem_singleton.1 hp]
  exact ⟨r, h1, h2, h3⟩

theorem xC_ok {g : G} {s : S} {w : World} (hm : Mem w0 A B g s w) {u : Value} {x : X} {k : List (Nat × Nat) → C → Prop} (hx : XOk w g s.regs u x) (h : xC s x k) :
    ∃ l c, k l c ∧ LiveL s l ∧ Rd w (IL g l) u c := by
  have one : ∀ {h : Nat} {r : Reg}, get s.regs h = some r → r.live = true → LiveL s [(h, r.iv)] := fun h1 h2 p hp => by
    rw [List.mem_singleton.1 hp]
    exact ⟨_, h1, h2, rfl⟩
  unfold xC at h
  split at h
  · refine ⟨_, _, h, fun p hp => (by cases hp), ?_⟩
    rw [show u = _ from hx]
    exact .sc _
  · refine ⟨_, _, h, fun p hp => (by cases hp), ?_⟩
    rw [show u = _ from hx]
    exact .nil _ _ _ _
  · rename_i n es
    have hx' : Rd w g.I u (.sl true n es) := hx
    exact ⟨_, _, h, fun p hp => (by cases hp), hx'.frame (fun b hb => .inl hb) fun _ _ => rfl⟩
  · rename_i hh iv n es
    split at h
    · rename_i hl
      obtain ⟨h1, h2⟩ := ln_IL (φ := fun I => Rd w I u (.sl true n es)) hx hl fun I I' hI hr => hr.frame hI fun _ _ => rfl
      exact ⟨_, _, h, h1, h2⟩
    · exact h.elim
  · rename_i c gn
    split at h
    · rename_i r hr
      obtain ⟨h1, h2, h3⟩ := regAt_some hr
      obtain ⟨r', h4, h5, h6⟩ := hx
      rw [h1] at h4
      cases h4
      rw [h6 h2 h3.symm]
      exact ⟨_, _, h, one h1 h2, own_IL hm h1 h2⟩
    · exact h.elim
  · rename_i c gn lo hi
    split at h
    · rename_i r hr
      obtain ⟨h1, h2, h3⟩ := regAt_some hr
      obtain ⟨r', h4, h5, h6⟩ := hx
      rw [h1] at h4
      cases h4
      obtain ⟨h7, h8, h9⟩ := h6 h2 h3.symm
      exact ⟨_, _, h, one h1 h2, sub_rd (own_IL hm h1 h2) h7 h8 h9⟩
    · exact h.elim
  · rename_i c iv i j
    split at h
    · rename_i r hr
      obtain ⟨h1, h2, h3⟩ := regIv_some hr
      obtain ⟨r', h4, h5, h6⟩ := hx
      rw [h1] at h4
      cases h4
      obtain ⟨row, n, es, h7, h8, h9⟩ := h
      obtain ⟨b, o, len, cap, e1, e2, e3, e4, e5⟩ := h6 h2 h3.symm
      obtain ⟨b', o', cap', q1, _, q2, q3⟩ := (own_IL hm h1 h2).elem h7
      rw [e1] at q1
      cases q1
      obtain ⟨u', q4, _, q5⟩ := q3 j _ h8
      rw [e5] at q4
      cases q4
      refine ⟨_, _, h9, ?_, ?_⟩
      · rw [← h3]; exact one h1 h2
      · rw [← h3]; exact q5
    · exact h.elim

theorem xCs_ok {g : G} {s : S} {w : World} (hm : Mem w0 A B g s w) : ∀ (xs : List X) (us : Nat → Value) (k : List (Nat × Nat) → List C → Prop), (∀ (j : Nat) (x : X), xs[j]? = some x → XOk w g s.regs (us j) x) → xCs s xs k →
    ∃ l cs, k l cs ∧ LiveL s l ∧ cs.length = xs.length ∧ ∀ (j : Nat) (c : C), cs[j]? = some c → Rd w (IL g l) (us j) c
  | [], us, k, hx, h => ⟨[], [], h, fun p hp => (by cases hp), rfl, fun j c hj => (by simp at hj)⟩
  | x :: r, us, k, hx, h => by
    obtain ⟨l, c, h1, h2, h3⟩ := xC_ok hm (hx 0 x rfl) h
    obtain ⟨l', cs, h4, h5, h6, h7⟩ := xCs_ok hm r (fun j => us (j + 1)) _ (fun j x hj => hx (j + 1) x hj) h1
    refine ⟨_, _, h4, h2.app h5, by simp [h6], fun j c' hj => ?_⟩
    cases j with
    | zero =>
      cases hj
      exact h3.frame (fun x hx => IL_app_left hx) fun _ _ => rfl
    | succ j => exact (h7 j c' hj).frame (fun x hx => IL_app_right hx) fun _ _ => rfl

/-- Whose the handed blocks are. -/
def Who (g : G) (O Bx : List Nat) (x : Nat) : Prop := (∃ h ∈ O, g.ow x = .reg h) ∨ ∃ b ∈ Bx, g.ow x = .box b ∧ x = (g.loc b).1

theorem vals_at {w : World} {g : G} {regs : List (Nat × Reg)} {v : Value} {agg : Bool} {xs : List X} (h : ValsOk w g regs v agg xs) :
    ∃ us : Nat → Value, (∀ (j : Nat) (x : X), xs[j]? = some x → XOk w g regs (us j) x) ∧ (agg = false → ∃ x, xs = [x] ∧ v = us 0) ∧ (agg = true → ∃ a, v = .agg a ∧ a.size = xs.length ∧ ∀ j, j < xs.length → a[j]? = some (us j)) := by
  cases agg with
  | false =>
    obtain ⟨x, e, h⟩ := h
    subst e
    refine ⟨fun _ => v, fun j y hj => ?_, fun _ => ⟨x, rfl, rfl⟩, fun e => by cases e⟩
    cases j with
    | zero => cases hj; exact h
    | succ j => simp at hj
  | true =>
    obtain ⟨us, e, h1, h2⟩ := h
    refine ⟨fun j => us.getD j undef, fun j x hj => ?_, fun e => (by cases e), fun _ => ⟨us, e, h1, fun j hj => ?_⟩⟩
    · obtain ⟨u, hu, ho⟩ := h2 j x hj
      have : us.getD j undef = u := by simp [Array.getD_eq_getD_getElem?, hu]
      show XOk w g regs (us.getD j undef) x
      rw [this]
      exact ho
    · have : j < us.size := by omega
      simp [this]

theorem arg_ok {g : G} {s : S} {w : World} (hm : Mem w0 A B g s w) {m : Mode} {oe : Option E} {v : Value} (hE : ∀ e, oe = some e → EOk w g s.boxes s.regs v e) {k : List (Nat × Nat) → List Nat → List Nat → AV → Prop} (h : argE s m oe k) :
    ∃ l O Bx av F, k l O Bx av ∧ LiveL s l ∧ (∀ I : Nat → Prop, (∀ y, IL g l y → I y) → ArgOk w I F (v) av) ∧ (∀ y, F y → Who g O Bx y) ∧
      (∀ y, aOf [av] [F] y → ∃ h ∈ O, g.ow y = .reg h) ∧ (∀ b ∈ Bx, ∃ y, get s.boxes b = some y) ∧
      ((∃ wr cs b y, av = .mptr wr cs ∧ Bx = [b] ∧ get s.boxes b = some y ∧ cs.length = y.cells.length ∧ v = ptV wr (g.loc b).1 (g.loc b).2) ∨ ((∀ wr cs, av ≠ .mptr wr cs) ∧ Bx = [])) := by
  unfold argE at h
  split at h
  · split at h
    · rename_i agg xs
      have hv := hE _ rfl
      obtain ⟨us, h1, h2, h3⟩ := vals_at (agg := agg) (xs := xs) hv
      obtain ⟨l, cs, h4, h5, h6, h7⟩ := xCs_ok hm xs us _ h1 h
      refine ⟨l, [], [], _, fun _ => False, h4, h5, fun I hI => ?_, fun _ h => h.elim, fun y h => (by simp [aOf] at h), fun b hb => (by cases hb), .inr ⟨fun wr cs e => (by cases e), rfl⟩⟩
      cases agg with
      | false =>
        obtain ⟨x0, e1, e2⟩ := h2 rfl
        subst e1
        cases cs with
        | nil => simp at h6
        | cons c r =>
          have : r = [] := by simpa using h6
          subst this
          refine ⟨c, rfl, ?_⟩
          rw [e2]
          exact (h7 0 c rfl).frame hI fun _ _ => rfl
      | true =>
        obtain ⟨us', e1, e2, e3⟩ := h3 rfl
        refine ⟨us', e1, by rw [e2, h6], fun j c hj => ⟨us j, e3 j ?_, (h7 j c hj).frame hI fun _ _ => rfl⟩⟩
        rw [← h6]
        exact (List.getElem?_eq_some_iff.1 hj).1
    · exact h.elim
  · split at h
    · rename_i n
      obtain ⟨x', e, hv⟩ := hE _ rfl
      cases e
      have hv : v = .slice none 0 0 := hv
      refine ⟨_, _, _, _, fun _ => False, h, fun p hp => (by cases hp), fun I hI => ?_, fun _ h => h.elim, fun y h => (by simp [aOf] at h), fun b hb => (by cases hb), .inr ⟨fun wr cs e => (by cases e), rfl⟩⟩
      rw [hv]
      exact .nil _ _
    · rename_i c gn
      split at h
      · rename_i r hr
        obtain ⟨x', e, hv⟩ := hE _ rfl
        cases e
        obtain ⟨h1, h2, h3⟩ := regAt_some hr
        obtain ⟨r', h4, h5, h6⟩ := hv
        rw [h1] at h4
        cases h4
        refine ⟨_, _, _, _, g.F c, h, fun p hp => (by cases hp), fun I hI => ?_, fun y hy => .inl ⟨c, List.mem_singleton.2 rfl, hy⟩, fun y hy => ⟨c, List.mem_singleton.2 rfl, ?_⟩, fun b hb => (by cases hb),
          .inr ⟨fun wr cs e => (by cases e), rfl⟩⟩
        · rw [h6 h2 h3.symm]
          refine (hm.regs c r h1 h2).frame (fun y hy => ?_) (fun _ h => h) (fun _ _ => rfl) (fun _ _ => rfl)
          split at hy
          · exact hy.elim
          · exact hI y (.inl hy)
        · simpa [aOf, G.F] using hy
      · exact h.elim
    · rename_i c gn lo hi
      split at h
      · rename_i r hr
        obtain ⟨x', e, hv⟩ := hE _ rfl
        cases e
        obtain ⟨h1, h2, h3⟩ := regAt_some hr
        obtain ⟨r', h4, h5, h6⟩ := hv
        rw [h1] at h4
        cases h4
        obtain ⟨h7, h8, h9⟩ := h6 h2 h3.symm
        refine ⟨_, _, _, _, g.F c, h, fun p hp => (by cases hp), fun I hI => ?_, fun y hy => .inl ⟨c, List.mem_singleton.2 rfl, hy⟩, fun y hy => ⟨c, List.mem_singleton.2 rfl, ?_⟩, fun b hb => (by cases hb),
          .inr ⟨fun wr cs e => (by cases e), rfl⟩⟩
        · refine Own.sub ((hm.regs c r h1 h2).frame (fun y hy => ?_) (fun _ h => h) (fun _ _ => rfl) (fun _ _ => rfl)) h7 h8 h9
          split at hy
          · exact hy.elim
          · exact hI y (.inl hy)
        · simpa [aOf, G.F] using hy
      · exact h.elim
    · exact h.elim
  · split at h
    · rename_i b gn
      split at h
      · rename_i xs hb
        obtain ⟨y, h1, h2, h3⟩ := boxAt_some hb
        obtain ⟨y', h4, h5, h6⟩ := hE _ rfl
        rw [h1] at h4
        cases h4
        have hv := h6 h2.symm
        obtain ⟨b1, b2, bcs, e, b3, b4, b5⟩ := hm.boxes b y h1
        rw [h3] at b4 b5
        obtain ⟨l, cs, h8, h9, h10, h11⟩ := xCs_ok hm xs (fun j => bcs.getD ((g.loc b).2 + j) undef) _ (fun j x hj => by
          obtain ⟨u, hu, _, ho⟩ := b5 j x hj
          have : bcs.getD ((g.loc b).2 + j) undef = u := by simp [Array.getD_eq_getD_getElem?, hu]
          rw [this]
          exact ho) h
        refine ⟨_, _, _, _, fun y => y = (g.loc b).1, h8, h9, fun I hI => ⟨g.loc b, by simpa [ptV] using hv, rfl, bcs, e, b3, by omega, fun j c hj => ?_⟩, fun y hy => .inr ⟨b, List.mem_singleton.2 rfl, by rw [hy]; exact b1, hy⟩,
          fun y hy => (by simp [aOf] at hy), fun b' hb' => (by rw [List.mem_singleton.1 hb']; exact ⟨y, h1⟩), .inl ⟨none, cs, b, y, rfl, rfl, h1, by rw [h10, h3], by simpa [ptV] using hv⟩⟩
        have hj' : j < xs.length := by rw [← h10]; exact (List.getElem?_eq_some_iff.1 hj).1
        obtain ⟨u, hu, h1', _⟩ := b5 j xs[j] (List.getElem?_eq_getElem hj')
        refine ⟨u, hu, h1', ?_⟩
        have h12 := (h11 j c hj).frame hI fun _ _ => rfl
        have : bcs.getD ((g.loc b).2 + j) undef = u := by simp [Array.getD_eq_getD_getElem?, hu]
        rw [this] at h12
        exact h12
      · exact h.elim
    · exact h.elim
  · split at h
    · rename_i f b gn
      split at h
      · rename_i xs hb
        obtain ⟨y, h1, h2, h3⟩ := boxAt_some hb
        obtain ⟨y', h4, h5, h6⟩ := hE _ rfl
        rw [h1] at h4
        cases h4
        have hv := h6 h2.symm
        obtain ⟨b1, b2, bcs, e, b3, b4, b5⟩ := hm.boxes b y h1
        rw [h3] at b4 b5
        obtain ⟨l, cs, h8, h9, h10, h11⟩ := xCs_ok hm xs (fun j => bcs.getD ((g.loc b).2 + j) undef) _ (fun j x hj => by
          obtain ⟨u, hu, _, ho⟩ := b5 j x hj
          have : bcs.getD ((g.loc b).2 + j) undef = u := by simp [Array.getD_eq_getD_getElem?, hu]
          rw [this]
          exact ho) h
        refine ⟨_, _, _, _, fun y => y = (g.loc b).1, h8, h9, fun I hI => ⟨g.loc b, hv, rfl, bcs, e, b3, by omega, fun j c hj => ?_⟩, fun y hy => .inr ⟨b, List.mem_singleton.2 rfl, by rw [hy]; exact b1, hy⟩,
          fun y hy => (by simp [aOf] at hy), fun b' hb' => (by rw [List.mem_singleton.1 hb']; exact ⟨y, h1⟩), .inl ⟨some f, cs, b, y, rfl, rfl, h1, by rw [h10, h3], hv⟩⟩
        have hj' : j < xs.length := by rw [← h10]; exact (List.getElem?_eq_some_iff.1 hj).1
        obtain ⟨u, hu, h1', _⟩ := b5 j xs[j] (List.getElem?_eq_getElem hj')
        refine ⟨u, hu, h1', ?_⟩
        have h12 := (h11 j c hj).frame hI fun _ _ => rfl
        have : bcs.getD ((g.loc b).2 + j) undef = u := by simp [Array.getD_eq_getD_getElem?, hu]
        rw [this] at h12
        exact h12
      · exact h.elim
    · exact h.elim
  · split at h
    · rename_i row
      have hv := hE _ rfl
      obtain ⟨b, o, e1, e2, e3⟩ := hv
      refine ⟨_, _, _, _, fun _ => False, h, fun p hp => (by cases hp), fun I hI => ⟨b, o, by simpa using e1, hI b (.inl e2), fun j c hj => ?_⟩, fun _ h => h.elim, fun y h => (by simp [aOf] at h), fun b hb => (by cases hb),
        .inr ⟨fun wr cs e => (by cases e), rfl⟩⟩
      obtain ⟨u, hu, hr⟩ := e3 j c hj
      exact ⟨u, hu, hr.frame (fun y hy => hI y (.inl hy)) fun _ _ => rfl⟩
    · rename_i hh iv row
      split at h
      · rename_i hl
        obtain ⟨h1, b, o, e1, e2, e3⟩ := ln_IL (φ := fun I => ∃ b o, v = .pointer (some ⟨b, o + 0, none⟩) ∧ I b ∧ ∀ (j : Nat) (c : C), row[j]? = some c → ∃ u, w.cell? ⟨b, o + j, none⟩ = some u ∧ Rd w I u c) (hE _ rfl) hl
          (fun I I' hI ⟨b, o, e1, e2, e3⟩ => ⟨b, o, e1, hI b e2, fun j c hj => let ⟨u, hu, hr⟩ := e3 j c hj; ⟨u, hu, hr.frame hI fun _ _ => rfl⟩⟩)
        refine ⟨_, _, _, _, fun _ => False, h, h1, fun I hI => ⟨b, o, by simpa using e1, hI b e2, fun j c hj => ?_⟩, fun _ h => h.elim, fun y h => (by simp [aOf] at h), fun b hb => (by cases hb),
          .inr ⟨fun wr cs e => (by cases e), rfl⟩⟩
        obtain ⟨u, hu, hr⟩ := e3 j c hj
        exact ⟨u, hu, hr.frame hI fun _ _ => rfl⟩
      · exact h.elim
    · rename_i c gn i
      split at h
      · rename_i r hr
        obtain ⟨row, hrow, h⟩ := h
        obtain ⟨h1, h2, h3⟩ := regAt_some hr
        obtain ⟨r', h4, h5, h6⟩ := hE _ rfl
        rw [h1] at h4
        cases h4
        obtain ⟨b, o, len, cap, e1, e2, e3⟩ := h6 h2 h3.symm
        obtain ⟨b', o', cap', q1, q2, q3, q4⟩ := (own_IL hm h1 h2).elem hrow
        rw [e1] at q1
        cases q1
        refine ⟨_, _, _, _, fun _ => False, h, fun p hp => (by rw [List.mem_singleton.1 hp]; exact ⟨_, h1, h2, rfl⟩), fun I hI => ⟨b, o + i * r.n, by simpa using e3, hI b q2, fun j cc hj => ?_⟩, fun _ h => h.elim,
          fun y h => (by simp [aOf] at h), fun b hb => (by cases hb), .inr ⟨fun wr cs e => (by cases e), rfl⟩⟩
        obtain ⟨u, hu, _, hr'⟩ := q4 j cc hj
        exact ⟨u, hu, hr'.frame hI fun _ _ => rfl⟩
      · exact h.elim
    · exact h.elim
  · split at h
    · rename_i n
      obtain ⟨x', e, hv⟩ := hE _ rfl
      cases e
      exact ⟨_, _, _, _, fun _ => False, h, fun p hp => (by cases hp), fun I hI => hv, fun _ h => h.elim, fun y h => (by simp [aOf] at h), fun b hb => (by cases hb), .inr ⟨fun wr cs e => (by cases e), rfl⟩⟩
    · exact h.elim

end
end Go.Proofs.Ytppfojiogappaaa.V
