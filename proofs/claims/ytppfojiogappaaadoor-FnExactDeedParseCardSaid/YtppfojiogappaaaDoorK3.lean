/- Part 3 of what the row leans on: M3, M3. -/
import Derived.Test.YtppfojiogappaaaDoorK2
import Derived.Laws.IdiomRangeMap
import Derived.MapKept
import Derived.Orders
set_option linter.unusedVariables false

set_option linter.unusedSimpArgs false

namespace Go.Proofs.YtppfojiogappaaaDoor.V

open Go Classical

inductive Mode where
  | rd
  | own
  | mptr
  | clo
  | rptr
  | nilm
  | pp (fl : List Bool)
  | ov (fl : List Bool)
  | mv (fl : List Bool)
  | mi

inductive AV where
  | rdv (agg : Bool) (cs : List C)
  | own (n : Nat) (es : List (List C))
  | mptr (wr : Option Nat) (cs : List C)
  | rptr (row : List C)
  | nilv (n : Nat)
  | ov (agg : Bool) (cs : List C)
  | mv (agg : Bool) (cs : List C)

inductive RX where
  | rd (c : C)
  | own (pure : Bool) (n : Nat) (es : List (List C))
  | box (cs : List C)

structure RV where
  agg : Bool
  xs : List RX

def POk (w : World) (I F : Nat → Prop) (u : Value) (c : C) : Prop :=
  match c with
  | .sl true n es => Own w (fun _ => False) F u (.sl true n es)
  | c => Rd w I u c

def uC : C → C
  | .sl _ n es => .sl false n es
  | c => c

theorem POk.rd {w : World} {I F : Nat → Prop} {u : Value} {c : C} (h : Rd w I u c) : POk w I F u (uC c) := by
  cases c with
  | sc v => exact h
  | any => exact h
  | sl own n es => exact h.flag

theorem POk.frame {w w' : World} {I I' F F' : Nat → Prop} {u : Value} {c : C} (h : POk w I F u c) (hi : ∀ b, I b → I' b) (hf : ∀ b, F b → F' b) (haI : ∀ b, I b → w'.heap[b]? = w.heap[b]?) (haF : ∀ b, F b → w'.heap[b]? = w.heap[b]?) : POk w' I' F' u c := by
  cases c with
  | sc v => exact Rd.frame (c := .sc v) h hi haI
  | any => exact Rd.frame (c := .any) h hi haI
  | sl own n es =>
    cases own with
    | true => exact Own.frame (c := .sl true n es) h (fun _ h => h) hf (fun _ h => h.elim) haF
    | false => exact Rd.frame (c := .sl false n es) h hi haI

def Inj (fs : Nat → Nat → Prop) : Prop := ∀ j j' x, fs j x → fs j' x → j = j'

def MemRow (w : World) (I : Nat → Prop) (fs : Nat → Nat → Prop) (p : Nat × Nat) (cs : List C) : Prop :=
  ∃ bcs e, w.heap[p.1]? = some (.cells bcs e (0, 0)) ∧ p.2 + cs.length ≤ bcs.size ∧ ∀ (j : Nat) (c : C), cs[j]? = some c → ∃ u, bcs[p.2 + j]? = some u ∧ u.oneCell' = true ∧ POk w I (fs j) u c

def cellV (v : Value) (agg : Bool) (j : Nat) : Value :=
  match agg, v with
  | true, .agg us => us.getD j undef
  | _, v => v

def ValRow (w : World) (I : Nat → Prop) (fs : Nat → Nat → Prop) (v : Value) (agg : Bool) (cs : List C) : Prop :=
  (match agg with
  | false => cs.length = 1
  | true => ∃ us, v = .agg us ∧ us.size = cs.length) ∧ ∀ (j : Nat) (c : C), cs[j]? = some c → POk w I (fs j) (cellV v agg j) c

def ArgOk (w : World) (I F : Nat → Prop) (v : Value) : AV → Prop
  | .rdv false cs => ∃ c, cs = [c] ∧ Rd w I v c
  | .rdv true cs => ∃ us, v = .agg us ∧ us.size = cs.length ∧ ∀ (j : Nat) (c : C), cs[j]? = some c → ∃ u, us[j]? = some u ∧ Rd w I u c
  | .own n es => Own w I F v (.sl true n es)
  | .mptr wr cs => ∃ (p : Nat × Nat) (fs : Nat → Nat → Prop), v = ptV wr p.1 p.2 ∧ F p.1 ∧ (∀ j x, fs j x → F x ∧ x ≠ p.1) ∧ Inj fs ∧ MemRow w I fs p cs
  | .rptr row => ∃ b o, v = .pointer (some ⟨b, o, none⟩) ∧ I b ∧ ∀ (j : Nat) (c : C), row[j]? = some c → ∃ u, w.cell? ⟨b, o + j, none⟩ = some u ∧ Rd w I u c
  | .nilv _ => v = .slice none 0 0
  | .ov agg cs => ∃ fs : Nat → Nat → Prop, (∀ j x, fs j x → F x) ∧ Inj fs ∧ ValRow w I fs v agg cs
  | .mv agg cs => ∃ fs : Nat → Nat → Prop, (∀ j x, fs j x → F x) ∧ Inj fs ∧ ValRow w I fs v agg cs

def ArgsOk (w : World) (I : Nat → Prop) : List AV → List Value → List (Nat → Prop) → Prop
  | [], [], [] => True
  | a :: as, v :: vs, F :: Fs => ArgOk w I F v a ∧ ArgsOk w I as vs Fs
  | _, _, _ => False

def Apart : List (Nat → Prop) → Prop
  | [] => True
  | F :: Fs => (∀ x, F x → ∀ F' ∈ Fs, ¬ F' x) ∧ Apart Fs

def aOne (a : AV) (v : Value) (F : Nat → Prop) (x : Nat) : Prop :=
  match a with
  | .own _ _ => F x
  | .ov _ _ => F x
  | .mv _ _ => F x
  | .mptr wr _ => F x ∧ ∀ p, unP wr v = some p → x ≠ p.1
  | _ => False

def aOf : List AV → List Value → List (Nat → Prop) → Nat → Prop
  | a :: as, v :: vs, F :: Fs, x => aOne a v F x ∨ aOf as vs Fs x
  | _, _, _, _ => False

def bOf : List AV → List Value → List (Nat × Nat × Nat)
  | .mptr wr cs :: as, v :: vs => (match unP wr v with
    | some p => (p.1, p.2, cs.length) :: bOf as vs
    | none => bOf as vs)
  | _ :: as, _ :: vs => bOf as vs
  | _, _ => []

def outK (a : AV) : Bool :=
  match a with
  | .mptr _ _ => true
  | .mv _ _ => true
  | _ => false

def OutOk (w : World) (I : Nat → Prop) (fs : Nat → Nat → Prop) (a : AV) (v : Value) (o : List C) : Prop :=
  match a with
  | .mptr wr cs => o.length = cs.length ∧ ∃ p : Nat × Nat, v = ptV wr p.1 p.2 ∧ MemRow w I fs p o
  | .mv agg cs => o.length = cs.length ∧ ∀ (j : Nat) (n : Nat) (es : List (List C)), cs[j]? = some (.sl true n es) → ∃ es', o[j]? = some (.sl true n es') ∧ Own w (fun _ => False) (fs j) (cellV v agg j) (.sl true n es')
  | _ => False

def OutsOk (w : World) (I : Nat → Prop) : List AV → List Value → (Nat → Nat → Nat → Prop) → List (List C) → Prop
  | a :: as, v :: vs, H, outs => (match outK a with
    | true => (match outs with
      | o :: os => OutOk w I (H 0) a v o ∧ OutsOk w I as vs (fun m => H (m + 1)) os
      | [] => False)
    | false => OutsOk w I as vs H outs)
  | [], _, _, [] => True
  | _, _, _, _ => False

def RxOk (w : World) (I F : Nat → Prop) (u : Value) : RX → Prop
  | .rd c => Rd w I u c
  | .own pure n es => Own w (if pure then fun _ => False else I) F u (.sl true n es)
  | .box cs => ∃ p : Nat × Nat, u = .pointer (some ⟨p.1, p.2, none⟩) ∧ F p.1 ∧ MemRow w I (fun _ _ => False) p cs

def RvOk (w : World) (I : Nat → Prop) (F : Nat → Nat → Prop) (v : Value) (r : RV) : Prop :=
  match r.agg with
  | false => ∃ x, r.xs = [x] ∧ RxOk w I (F 0) v x
  | true => ∃ us, v = .agg us ∧ us.size = r.xs.length ∧ ∀ (j : Nat) (x : RX), r.xs[j]? = some x → ∃ u, us[j]? = some u ∧ RxOk w I (F j) u x

def RetOk (rs : List RV) (us : Array Value) (v : Value) : Prop := us.size = rs.length ∧ v = if h : us.size = 1 then us[0] else .tuple us

structure Back (w : World) (I A : Nat → Prop) (B : List (Nat × Nat × Nat)) (as : List AV) (vs : List Value) (w' : World) (v : Value) (rs : List RV) (outs : List (List C)) : Prop where
  ext : Ext w ⟨A, fun _ => False, fun _ => False, fun _ => (0, 0), fun _ => False, fun _ => undef⟩ B w'
  res : ∃ (us : Array Value) (I' : Nat → Prop) (G : Bool → Nat → Nat → Nat → Prop), RetOk rs us v ∧
    (∀ (k : Nat) (r : RV), rs[k]? = some r → ∃ u, us[k]? = some u ∧ RvOk w' I' (G false k) u r) ∧ OutsOk w' I' as vs (G true) outs ∧
    (∀ x, I' x → x < w'.heap.size ∧ (I x ∨ A x ∨ w.heap.size ≤ x)) ∧
    (∀ b k j x, G b k j x → x < w'.heap.size ∧ (A x ∨ w.heap.size ≤ x) ∧ ¬ I' x) ∧
    (∀ b k j b' k' j' x, G b k j x → G b' k' j' x → b = b' ∧ k = k' ∧ j = j')

@[irreducible] def FnV (P : Program) (f : Nat) (as : List AV) (post : List RV → List (List C) → Prop) : Prop :=
  (∃ fn c, P.funcs[f]? = some fn ∧ (fn.name == "runtime.NumGoroutine") = false ∧ fn.body = some c) ∧ ∀ (w : World) (I : Nat → Prop) (Fs : List (Nat → Prop)) (vs : List Value), ArgsOk w I as vs Fs → Apart Fs → (∀ F ∈ Fs, ∀ x, F x → ¬ I x ∧ x < w.heap.size) → (∀ x, I x → x < w.heap.size) →
    Calls P f vs.toArray w fun e w' => ∃ v rs outs, e = .returned v ∧ post rs outs ∧ Back w I (aOf as vs Fs) (bOf as vs) as vs w' v rs outs

theorem FnV_eq (P : Program) (f : Nat) (as : List AV) (post : List RV → List (List C) → Prop) : FnV P f as post = ((∃ fn c, P.funcs[f]? = some fn ∧ (fn.name == "runtime.NumGoroutine") = false ∧ fn.body = some c) ∧ ∀ (w : World) (I : Nat → Prop) (Fs : List (Nat → Prop)) (vs : List Value), ArgsOk w I as vs Fs → Apart Fs → (∀ F ∈ Fs, ∀ x, F x → ¬ I x ∧ x < w.heap.size) → (∀ x, I x → x < w.heap.size) →
    Calls P f vs.toArray w fun e w' => ∃ v rs outs, e = .returned v ∧ post rs outs ∧ Back w I (aOf as vs Fs) (bOf as vs) as vs w' v rs outs) := by unfold FnV; rfl

theorem FnV.mono {P : Program} {f : Nat} {as : List AV} {post post' : List RV → List (List C) → Prop} (h : FnV P f as post) (hp : ∀ rs outs, post rs outs → post' rs outs) : FnV P f as post' := by
  rw [FnV_eq] at h ⊢
  exact ⟨h.1, fun w I Fs vs h1 h2 h3 h4 => (h.2 w I Fs vs h1 h2 h3 h4).mono fun e w' ⟨v, rs, outs, a, b, c⟩ => ⟨v, rs, outs, a, hp _ _ b, c⟩⟩

def xC (s : S) (x : X) (k : List (Nat × Nat) → C → Prop) : Prop :=
  match x with
  | .sc v => k [] (.sc v)
  | .nil n => k [] (.sl true n [])
  | .rd none n es => k [] (.sl true n es)
  | .rd (some (h, iv)) n es => if lnLive s (some (h, iv)) then k [(h, iv)] (.sl true n es) else False
  | .ref h g => (match regAt s h g with
    | some r => k [(h, r.iv)] (.sl true r.n r.es)
    | none => False)
  | .sub h g lo hi => (match regAt s h g with
    | some r => k [(h, r.iv)] (.sl true r.n ((r.es.take hi).drop lo))
    | none => False)
  | .inn h iv i j => (match regIv s h iv with
    | some r => ∃ row n es, r.es[i]? = some row ∧ row[j]? = some (.sl true n es) ∧ k [(h, iv)] (.sl true n es)
    | none => False)
  | .fx _ n es => k [] (.sl true n es)

def xCs (s : S) : List X → (List (Nat × Nat) → List C → Prop) → Prop
  | [], k => k [] []
  | x :: r, k => xC s x fun l c => xCs s r fun l' cs => k (l ++ l') (c :: cs)

def oX (s : S) (x : X) (k : List Nat → C → Prop) : Prop :=
  match x with
  | .ref h g => (match regAt s h g with
    | some r => (match r.pure with
      | true => k [h] (.sl true r.n r.es)
      | false => False)
    | none => False)
  | .sub h g lo hi => (match regAt s h g with
    | some r => (match r.pure with
      | true => k [h] (.sl true r.n ((r.es.take hi).drop lo))
      | false => False)
    | none => False)
  | .nil n => k [] (.sl true n [])
  | _ => False

def aXs (s : S) : List Bool → List X → (List (Nat × Nat) → List Nat → List C → Prop) → Prop
  | [], [], k => k [] [] []
  | true :: fl, x :: xs, k => oX s x fun o c => aXs s fl xs fun l o' cs => k l (o ++ o') (c :: cs)
  | false :: fl, x :: xs, k => xC s x fun l c => aXs s fl xs fun l' o cs => k (l ++ l') o (uC c :: cs)
  | _, _, _ => False

def noFl : List X → List Bool
  | [] => []
  | _ :: r => false :: noFl r

def nmXs : Nat → List X → List Nat
  | _, [] => []
  | d, x :: r => (match x with
    | .ref h _ => h
    | .sub h _ _ _ => h
    | _ => d) :: nmXs (d + 1) r

def ownT : List Bool → List X → List (Option (Nat × Nat))
  | true :: fl, x :: r => (match x with
    | .ref h g => some (h, g)
    | _ => none) :: ownT fl r
  | false :: fl, _ :: r => none :: ownT fl r
  | _, _ => []

def noSub : List Bool → List X → Bool
  | true :: fl, x :: r => (match x with
    | .sub _ _ _ _ => false
    | _ => noSub fl r)
  | false :: fl, _ :: r => noSub fl r
  | _, _ => true

inductive Tg where
  | box (b off : Nat) (hs : List Nat)
  | val (ts : List (Option (Nat × Nat)))

def argE (s : S) (m : Mode) (oe : Option E) (k : List (Nat × Nat) → List Nat → List Tg → AV → Prop) : Prop :=
  match m with
  | .rd => (match oe with
    | some (.vals agg xs) => xCs s xs fun l cs => k l [] [] (.rdv agg cs)
    | _ => False)
  | .own => (match oe with
    | some (.vals false [.nil n]) => k [] [] [] (.own n [])
    | some (.vals false [.ref h g]) => (match regAt s h g with
      | some r => k [] [h] [] (.own r.n r.es)
      | none => False)
    | some (.vals false [.sub h g lo hi]) => (match regAt s h g with
      | some r => k [] [h] [] (.own r.n ((r.es.take hi).drop lo))
      | none => False)
    | _ => False)
  | .mptr => (match oe with
    | some (.bptr b g 0) => (match boxAt s b g with
      | some xs => aXs s (noFl xs) xs fun l o cs => k l o [.box b 0 (nmXs (5000000 + 1000 * b) xs)] (.mptr none cs)
      | none => False)
    | _ => False)
  | .clo => (match oe with
    | some (.clo f b g) => (match boxAt s b g with
      | some xs => aXs s (noFl xs) xs fun l o cs => k l o [.box b 0 (nmXs (5000000 + 1000 * b) xs)] (.mptr (some f) cs)
      | none => False)
    | _ => False)
  | .pp fl => (match oe with
    | some (.bptr b g off) => (match boxAt s b g with
      | some ys => if off + fl.length ≤ ys.length then aXs s fl ((ys.drop off).take fl.length) fun l o cs => k l o [.box b off (nmXs (5000000 + 1000 * b + off) ((ys.drop off).take fl.length))] (.mptr none cs) else False
      | none => False)
    | _ => False)
  | .rptr => (match oe with
    | some (.rptr none row 0) => k [] [] [] (.rptr row)
    | some (.rptr (some (h, iv)) row 0) => if lnLive s (some (h, iv)) then k [(h, iv)] [] [] (.rptr row) else False
    | some (.eptr h g i 0) => (match regAt s h g with
      | some r => ∃ row, r.es[i]? = some row ∧ k [(h, r.iv)] [] [] (.rptr row)
      | none => False)
    | _ => False)
  | .nilm => (match oe with
    | some (.vals false [.nil n]) => k [] [] [] (.nilv n)
    | _ => False)
  | .ov fl => (match oe with
    | some (.vals agg xs) => aXs s fl xs fun l o cs => k l o [] (.ov agg cs)
    | _ => False)
  | .mv fl => (match oe with
    | some (.vals agg xs) => (match noSub fl xs with
      | true => aXs s fl xs fun l o cs => k l o [.val (ownT fl xs)] (.mv agg cs)
      | false => False)
    | _ => False)
  | .mi => False

def argsE (s : S) : List Mode → List (Option E) → (List (Nat × Nat) → List Nat → List Tg → List AV → Prop) → Prop
  | [], [], k => k [] [] [] []
  | m :: ms, x :: xs, k => argE s m x fun l o b a => argsE s ms xs fun l' o' b' as => k (l ++ l') (o ++ o') (b ++ b') (a :: as)
  | _, _, _ => False

def EsOk (w : World) (g : G) (s : S) : List (Option E) → List Value → Prop
  | [], [] => True
  | oe :: es, v :: vs => (∀ e, oe = some e → EOk w g s.boxes s.regs v e) ∧ EsOk w g s es vs
  | _, _ => False

def IL (g : G) (l : List (Nat × Nat)) : Nat → Prop := fun x => g.ow x = .imm ∨ ∃ p ∈ l, g.ow x = .reg p.1

def LiveL (s : S) (l : List (Nat × Nat)) : Prop := ∀ p ∈ l, ∃ r, get s.regs p.1 = some r ∧ r.live = true ∧ r.iv = p.2

section

variable {w0 : World} {A : AA} {B : List (Nat × Nat × Nat)}

theorem IL_app_left {g : G} {l l' : List (Nat × Nat)} {x : Nat} (h : IL g l x) : IL g (l ++ l') x := h.imp id fun ⟨p, hp, e⟩ => ⟨p, List.mem_append.2 (.inl hp), e⟩

theorem IL_app_right {g : G} {l l' : List (Nat × Nat)} {x : Nat} (h : IL g l' x) : IL g (l ++ l') x := h.imp id fun ⟨p, hp, e⟩ => ⟨p, List.mem_append.2 (.inr hp), e⟩

theorem LiveL.app {s : S} {l l' : List (Nat × Nat)} (h : LiveL s l) (h' : LiveL s l') : LiveL s (l ++ l') := fun p hp => (List.mem_append.1 hp).elim (h p) (h' p)

theorem own_IL {g : G} {s : S} {w : World} (hm : Mem w0 A B g s w) {h : Nat} {r : Reg} (hr : get s.regs h = some r) (hl : r.live = true) :
    Rd w (IL g [(h, r.iv)]) (g.val h) (.sl true r.n r.es) := by
  refine (hm.regs h r hr hl).rdOf.frame ?_ (fun _ _ => rfl)
  rintro b (hb | hb)
  · split at hb
    · exact hb.elim
    · exact .inl hb
  · exact .inr ⟨_, List.mem_singleton.2 rfl, hb⟩

theorem ln_IL {g : G} {s : S} {h iv : Nat} {φ : (Nat → Prop) → Prop} (hx : LnOk g s.regs (some (h, iv)) φ) (hl : lnLive s (some (h, iv)) = true) (hφ : ∀ I I' : Nat → Prop, (∀ x, I x → I' x) → φ I → φ I') :
    LiveL s [(h, iv)] ∧ φ (IL g [(h, iv)]) := by
  obtain ⟨r, h1, h2, h3⟩ := lnLive_some hl
  obtain ⟨r', h4, h5, h6⟩ := hx
  rw [h1] at h4
  cases h4
  refine ⟨fun p hp => ?_, hφ _ _ (fun x hx => hx.elim .inl fun h => .inr ⟨_, List.mem_singleton.2 rfl, h⟩) (h6 h2 h3.symm)⟩
  rw [List.mem_singleton.1 hp]
  exact ⟨r, h1, h2, h3⟩

theorem xC_ok {g : G} {s : S} {w : World} (hm : Mem w0 A B g s w) {u : Value} {x : X} {k : List (Nat × Nat) → C → Prop} (hx : XOk w g s.regs u x) (h : xC s x k) :
    ∃ l c, k l c ∧ LiveL s l ∧ Rd w (IL g l) u c := by
  have one : ∀ {h : Nat} {r : Reg}, get s.regs h = some r → r.live = true → LiveL s [(h, r.iv)] := fun h1 h2 p hp => by
    rw [List.mem_singleton.1 hp]
    exact ⟨_, h1, h2, rfl⟩
  unfold xC at h
  split at h
  · refine ⟨_, _, h, fun p hp => (by cases hp), ?_⟩
    rw [show u = _ from hx]
    exact .sc _
  · refine ⟨_, _, h, fun p hp => (by cases hp), ?_⟩
    rw [show u = _ from hx]
    exact .nil _ _ _ _
  · rename_i n es
    have hx' : Rd w g.I u (.sl true n es) := hx
    exact ⟨_, _, h, fun p hp => (by cases hp), hx'.frame (fun b hb => .inl hb) fun _ _ => rfl⟩
  · rename_i hh iv n es
    split at h
    · rename_i hl
      obtain ⟨h1, h2⟩ := ln_IL (φ := fun I => Rd w I u (.sl true n es)) hx hl fun I I' hI hr => hr.frame hI fun _ _ => rfl
      exact ⟨_, _, h, h1, h2⟩
    · exact h.elim
  · rename_i c gn
    split at h
    · rename_i r hr
      obtain ⟨h1, h2, h3⟩ := regAt_some hr
      obtain ⟨r', h4, h5, h6⟩ := hx
      rw [h1] at h4
      cases h4
      rw [h6 h2 h3.symm]
      exact ⟨_, _, h, one h1 h2, own_IL hm h1 h2⟩
    · exact h.elim
  · rename_i c gn lo hi
    split at h
    · rename_i r hr
      obtain ⟨h1, h2, h3⟩ := regAt_some hr
      obtain ⟨r', h4, h5, h6⟩ := hx
      rw [h1] at h4
      cases h4
      obtain ⟨h7, h8, h9⟩ := h6 h2 h3.symm
      exact ⟨_, _, h, one h1 h2, sub_rd (own_IL hm h1 h2) h7 h8 h9⟩
    · exact h.elim
  · rename_i c iv i j
    split at h
    · rename_i r hr
      obtain ⟨h1, h2, h3⟩ := regIv_some hr
      obtain ⟨r', h4, h5, h6⟩ := hx
      rw [h1] at h4
      cases h4
      obtain ⟨row, n, es, h7, h8, h9⟩ := h
      obtain ⟨b, o, len, cap, e1, e2, e3, e4, e5⟩ := h6 h2 h3.symm
      obtain ⟨b', o', cap', q1, _, q2, q3⟩ := (own_IL hm h1 h2).elem h7
      rw [e1] at q1
      cases q1
      obtain ⟨u', q4, _, q5⟩ := q3 j _ h8
      rw [e5] at q4
      cases q4
      refine ⟨_, _, h9, ?_, ?_⟩
      · rw [← h3]; exact one h1 h2
      · rw [← h3]; exact q5
    · exact h.elim
  · exact ⟨_, _, h, fun p hp => (by cases hp), hx.2.frame (fun b hb => .inl hb) fun _ _ => rfl⟩

theorem xCs_ok {g : G} {s : S} {w : World} (hm : Mem w0 A B g s w) : ∀ (xs : List X) (us : Nat → Value) (k : List (Nat × Nat) → List C → Prop), (∀ (j : Nat) (x : X), xs[j]? = some x → XOk w g s.regs (us j) x) → xCs s xs k →
    ∃ l cs, k l cs ∧ LiveL s l ∧ cs.length = xs.length ∧ ∀ (j : Nat) (c : C), cs[j]? = some c → Rd w (IL g l) (us j) c
  | [], us, k, hx, h => ⟨[], [], h, fun p hp => (by cases hp), rfl, fun j c hj => (by simp at hj)⟩
  | x :: r, us, k, hx, h => by
    obtain ⟨l, c, h1, h2, h3⟩ := xC_ok hm (hx 0 x rfl) h
    obtain ⟨l', cs, h4, h5, h6, h7⟩ := xCs_ok hm r (fun j => us (j + 1)) _ (fun j x hj => hx (j + 1) x hj) h1
    refine ⟨_, _, h4, h2.app h5, by simp [h6], fun j c' hj => ?_⟩
    cases j with
    | zero =>
      cases hj
      exact h3.frame (fun x hx => IL_app_left hx) fun _ _ => rfl
    | succ j => exact (h7 j c' hj).frame (fun x hx => IL_app_right hx) fun _ _ => rfl

def tBoxes : List Tg → List Nat
  | [] => []
  | .box b _ _ :: r => b :: tBoxes r
  | .val _ :: r => tBoxes r

def Who (g : G) (O Bx : List Nat) (x : Nat) : Prop := (∃ h ∈ O, g.ow x = .reg h) ∨ ∃ b ∈ Bx, g.ow x = .box b ∧ x = (g.loc b).1

def noDup : List Nat → Bool
  | [] => true
  | a :: r => if memb r a then false else noDup r

theorem memb_mem {l : List Nat} {a : Nat} : memb l a = true ↔ a ∈ l := by
  induction l with
  | nil => simp [memb]
  | cons b r ih =>
    simp only [memb]
    by_cases h : b = a
    · simp [h]
    · simp [h, ih, Ne.symm h]

theorem noDup_app {l l' : List Nat} (h : noDup (l ++ l') = true) : noDup l' = true ∧ ∀ a, a ∈ l → ¬ a ∈ l' := by
  induction l with
  | nil => exact ⟨h, fun a ha => (by cases ha)⟩
  | cons b r ih =>
    have h' : (if memb (r ++ l') b then false else noDup (r ++ l')) = true := h
    split at h'
    · cases h'
    · rename_i hm
      obtain ⟨h1, h2⟩ := ih h'
      refine ⟨h1, fun a ha => ?_⟩
      cases ha with
      | head => exact fun hl => hm (memb_mem.2 (List.mem_append.2 (.inr hl)))
      | tail _ ha => exact h2 a ha

theorem noDup_left : ∀ {a b : List Nat}, noDup (a ++ b) = true → noDup a = true
  | [], b, _ => rfl
  | c :: t, b, hh => by
    have hh' : (if memb (t ++ b) c then false else noDup (t ++ b)) = true := hh
    split at hh'
    · cases hh'
    · rename_i hmm
      show (if memb t c then false else noDup t) = true
      rw [if_neg fun hx => hmm (memb_mem.2 (List.mem_append.2 (.inl (memb_mem.1 hx))))]
      exact noDup_left hh'

theorem vals_at {w : World} {g : G} {regs : List (Nat × Reg)} {v : Value} {agg : Bool} {xs : List X} (h : ValsOk w g regs v agg xs) :
    ∃ us : Nat → Value, (∀ (j : Nat) (x : X), xs[j]? = some x → XOk w g regs (us j) x) ∧ (agg = false → ∃ x, xs = [x] ∧ v = us 0) ∧ (agg = true → ∃ a, v = .agg a ∧ a.size = xs.length ∧ ∀ j, j < xs.length → a[j]? = some (us j)) := by
  cases agg with
  | false =>
    obtain ⟨x, e, h⟩ := h
    subst e
    refine ⟨fun _ => v, fun j y hj => ?_, fun _ => ⟨x, rfl, rfl⟩, fun e => by cases e⟩
    cases j with
    | zero => cases hj; exact h
    | succ j => simp at hj
  | true =>
    obtain ⟨us, e, h1, h2⟩ := h
    refine ⟨fun j => us.getD j undef, fun j x hj => ?_, fun e => (by cases e), fun _ => ⟨us, e, h1, fun j hj => ?_⟩⟩
    · obtain ⟨u, hu, ho⟩ := h2 j x hj
      have : us.getD j undef = u := by simp [Array.getD_eq_getD_getElem?, hu]
      show XOk w g regs (us.getD j undef) x
      rw [this]
      exact ho
    · have : j < us.size := by omega
      simp [this]

theorem oX_ok {g : G} {s : S} {w : World} (hm : Mem w0 A B g s w) {u : Value} {x : X} {k : List Nat → C → Prop} (hx : XOk w g s.regs u x) (h : oX s x k) :
    ∃ O c, k O c ∧ ∃ F : Nat → Prop, (∀ y, F y → ∃ h ∈ O, g.ow y = .reg h) ∧ (∀ I : Nat → Prop, POk w I F u c) ∧ ∀ (h gn : Nat), x = X.ref h gn → ∃ r, regAt s h gn = some r ∧ c = C.sl true r.n r.es ∧ h ∈ O := by
  have pure : ∀ {c : Nat} {r : Reg}, get s.regs c = some r → r.live = true → r.pure = true → Own w (fun _ => False) (g.F c) (g.val c) (.sl true r.n r.es) := fun h1 h2 h3 => by
    have := hm.regs _ _ h1 h2
    rw [h3] at this
    exact this
  unfold oX at h
  split at h
  · rename_i c gn
    split at h
    · rename_i r hr
      split at h
      · rename_i hp
        obtain ⟨h1, h2, h3⟩ := regAt_some hr
        obtain ⟨r', h4, h5, h6⟩ := hx
        rw [h1] at h4
        cases h4
        refine ⟨_, _, h, g.F c, fun y hy => ⟨c, List.mem_singleton.2 rfl, hy⟩, fun I => ?_, fun h' gn' e => ?_⟩
        · rw [h6 h2 h3.symm]
          exact pure h1 h2 hp
        · cases e
          exact ⟨r, hr, rfl, List.mem_singleton.2 rfl⟩
      · exact h.elim
    · exact h.elim
  · rename_i c gn lo hi
    split at h
    · rename_i r hr
      split at h
      · rename_i hp
        obtain ⟨h1, h2, h3⟩ := regAt_some hr
        obtain ⟨r', h4, h5, h6⟩ := hx
        rw [h1] at h4
        cases h4
        obtain ⟨h7, h8, h9⟩ := h6 h2 h3.symm
        refine ⟨_, _, h, g.F c, fun y hy => ⟨c, List.mem_singleton.2 rfl, hy⟩, fun I => ?_, fun h' gn' e => by cases e⟩
        exact Own.sub (pure h1 h2 hp) h7 h8 h9
      · exact h.elim
    · exact h.elim
  · rename_i n
    refine ⟨_, _, h, fun _ => False, fun y hy => hy.elim, fun I => ?_, fun h' gn' e => by cases e⟩
    have hu : u = .slice none 0 0 := hx
    rw [hu]
    exact Own.nil _ _
  · exact h.elim

theorem aXs_ok {g : G} {s : S} {w : World} (hm : Mem w0 A B g s w) : ∀ {fl : List Bool} {xs : List X} {us : Nat → Value} {k : List (Nat × Nat) → List Nat → List C → Prop}, (∀ (j : Nat) (x : X), xs[j]? = some x → XOk w g s.regs (us j) x) → aXs s fl xs k →
    ∃ l O cs, ∃ fs : Nat → Nat → Prop, k l O cs ∧ LiveL s l ∧ cs.length = xs.length ∧ (∀ j y, fs j y → ∃ h ∈ O, g.ow y = .reg h) ∧ (noDup O = true → Inj fs) ∧
      (∀ I : Nat → Prop, (∀ y, IL g l y → I y) → ∀ (j : Nat) (c : C), cs[j]? = some c → POk w I (fs j) (us j) c) ∧
      ∀ (j h gn : Nat), xs[j]? = some (X.ref h gn) → fl[j]? = some true → ∃ r, regAt s h gn = some r ∧ cs[j]? = some (C.sl true r.n r.es) ∧ h ∈ O
  | [], [], us, k, hx, h => ⟨[], [], [], fun _ _ => False, h, fun p hp => (by cases hp), rfl, fun _ _ h => h.elim, fun _ _ _ _ h => h.elim, fun I hI j c hj => (by simp at hj), fun j h gn hj => (by simp at hj)⟩
  | true :: fl, x :: xs, us, k, hx, h => by
    obtain ⟨O, c, h1, F, h2, h3, h3'⟩ := oX_ok hm (hx 0 x rfl) h
    obtain ⟨l, O', cs, fs, i1, i2, i3, i4, i5, i6, i7⟩ := aXs_ok hm (us := fun j => us (j + 1)) (fun j x hj => hx (j + 1) x hj) h1
    refine ⟨l, _, _, fun j => match j with | 0 => F | j + 1 => fs j, i1, i2, by simp [i3], fun j y hy => ?_, fun hd => ?_, fun I hI j d hj => ?_, fun j a gn hj hf => ?_⟩
    · cases j with
      | zero => obtain ⟨a, ha, e⟩ := h2 y hy; exact ⟨a, List.mem_append.2 (.inl ha), e⟩
      | succ j => obtain ⟨a, ha, e⟩ := i4 j y hy; exact ⟨a, List.mem_append.2 (.inr ha), e⟩
    · obtain ⟨d1, d2⟩ := noDup_app hd
      have cross : ∀ j y, F y → fs j y → False := fun j y hy hy' => by
        obtain ⟨a, ha, e⟩ := h2 y hy
        obtain ⟨a', ha', e'⟩ := i4 j y hy'
        rw [e] at e'
        cases e'
        exact d2 _ ha ha'
      intro j j' y hj hj'
      cases j with
      | zero =>
        cases j' with
        | zero => rfl
        | succ j' => exact (cross j' y hj hj').elim
      | succ j =>
        cases j' with
        | zero => exact (cross j y hj' hj).elim
        | succ j' => rw [i5 d1 j j' y hj hj']
    · cases j with
      | zero => cases hj; exact h3 I
      | succ j => exact i6 I hI j d hj
    · cases j with
      | zero =>
        cases hj
        obtain ⟨r, q1, q2, q3⟩ := h3' a gn rfl
        exact ⟨r, q1, by rw [q2]; rfl, List.mem_append.2 (.inl q3)⟩
      | succ j =>
        obtain ⟨r, q1, q2, q3⟩ := i7 j a gn hj hf
        exact ⟨r, q1, q2, List.mem_append.2 (.inr q3)⟩
  | false :: fl, x :: xs, us, k, hx, h => by
    obtain ⟨l, c, h1, h2, h3⟩ := xC_ok hm (hx 0 x rfl) h
    obtain ⟨l', O', cs, fs, i1, i2, i3, i4, i5, i6, i7⟩ := aXs_ok hm (us := fun j => us (j + 1)) (fun j x hj => hx (j + 1) x hj) h1
    refine ⟨_, _, _, fun j => match j with | 0 => fun _ => False | j + 1 => fs j, i1, h2.app i2, by simp [i3], fun j y hy => ?_, fun hd => ?_, fun I hI j d hj => ?_, fun j a gn hj hf => ?_⟩
    · cases j with
      | zero => exact hy.elim
      | succ j => exact i4 j y hy
    · intro j j' y hj hj'
      cases j with
      | zero => exact hj.elim
      | succ j =>
        cases j' with
        | zero => exact hj'.elim
        | succ j' => rw [i5 hd j j' y hj hj']
    · cases j with
      | zero => cases hj; exact POk.rd (h3.frame (fun b hb => hI b (IL_app_left hb)) fun _ _ => rfl)
      | succ j => exact i6 I (fun b hb => hI b (IL_app_right hb)) j d hj
    · cases j with
      | zero => cases hf
      | succ j => exact i7 j a gn hj hf
  | [], _ :: _, _, _, _, h => h.elim
  | true :: _, [], _, _, _, h => h.elim
  | false :: _, [], _, _, _, h => h.elim

theorem vals_cellV {w : World} {g : G} {regs : List (Nat × Reg)} {v : Value} {agg : Bool} {xs : List X} (h : ValsOk w g regs v agg xs) :
    (∀ (j : Nat) (x : X), xs[j]? = some x → XOk w g regs (cellV v agg j) x) ∧ (match agg with
    | false => xs.length = 1
    | true => ∃ us, v = .agg us ∧ us.size = xs.length) := by
  cases agg with
  | false =>
    obtain ⟨x, e, h⟩ := h
    subst e
    refine ⟨fun j y hj => ?_, rfl⟩
    cases j with
    | zero => cases hj; exact h
    | succ j => simp at hj
  | true =>
    obtain ⟨us, e, h1, h2⟩ := h
    subst e
    refine ⟨fun j x hj => ?_, us, rfl, h1⟩
    obtain ⟨u, hu, ho⟩ := h2 j x hj
    have : cellV (.agg us) true j = u := by simp [cellV, Array.getD_eq_getD_getElem?, hu]
    rw [this]
    exact ho

theorem ownT_at : ∀ {fl : List Bool} {xs : List X} {j : Nat} {h gn : Nat}, (ownT fl xs)[j]? = some (some (h, gn)) → xs[j]? = some (X.ref h gn) ∧ fl[j]? = some true
  | true :: fl, x :: r, j, h, gn, e => by
    cases j with
    | zero =>
      cases x with
      | ref a b => simp only [ownT, List.getElem?_cons_zero, Option.some.injEq, Prod.mk.injEq] at e; exact ⟨by rw [e.1, e.2]; rfl, rfl⟩
      | _ => simp [ownT] at e
    | succ j =>
      have e' : (ownT fl r)[j]? = some (some (h, gn)) := by cases x <;> simpa [ownT] using e
      exact ownT_at (fl := fl) e'
  | false :: fl, x :: r, j, h, gn, e => by
    cases j with
    | zero => simp [ownT] at e
    | succ j =>
      have e' : (ownT fl r)[j]? = some (some (h, gn)) := by simpa [ownT] using e
      exact ownT_at (fl := fl) e'
  | [], _, _, _, _, e => by simp [ownT] at e
  | true :: _, [], _, _, _, e => by simp [ownT] at e
  | false :: _, [], _, _, _, e => by simp [ownT] at e

theorem ownT_len : ∀ {fl : List Bool} {xs : List X} {s : S} {k : List (Nat × Nat) → List Nat → List C → Prop}, aXs s fl xs k → (ownT fl xs).length = xs.length
  | [], [], s, k, h => rfl
  | true :: fl, x :: r, s, k, h => by
    have : ∃ k', aXs s fl r k' := by
      unfold aXs oX at h
      split at h
      · split at h
        · split at h
          · exact ⟨_, h⟩
          · exact h.elim
        · exact h.elim
      · split at h
        · split at h
          · exact ⟨_, h⟩
          · exact h.elim
        · exact h.elim
      · exact ⟨_, h⟩
      · exact h.elim
    obtain ⟨k', h'⟩ := this
    cases x <;> simp [ownT, ownT_len h']
  | false :: fl, x :: r, s, k, h => by
    have : ∃ k', aXs s fl r k' := by
      unfold aXs xC at h
      split at h <;> first | exact ⟨_, h⟩ | skip
      · split at h
        · exact ⟨_, h⟩
        · exact h.elim
      · split at h
        · exact ⟨_, h⟩
        · exact h.elim
      · split at h
        · exact ⟨_, h⟩
        · exact h.elim
      · split at h
        · obtain ⟨_, _, _, _, _, h⟩ := h; exact ⟨_, h⟩
        · exact h.elim
    obtain ⟨k', h'⟩ := this
    simp [ownT, ownT_len h']
  | [], _ :: _, _, _, h => h.elim
  | true :: _, [], _, _, h => h.elim
  | false :: _, [], _, _, h => h.elim

theorem nmXs_len : ∀ (d : Nat) (xs : List X), (nmXs d xs).length = xs.length
  | _, [] => rfl
  | d, x :: r => by simp [nmXs, nmXs_len (d + 1) r]

def TgOf (w : World) (g : G) (s : S) (v : Value) (av : AV) : List Tg → Prop
  | [] => outK av = false ∧ ∀ wr cs, av ≠ .mptr wr cs
  | [.box b off hs] => ∃ wr cs y, av = .mptr wr cs ∧ get s.boxes b = some y ∧ off + cs.length ≤ y.cells.length ∧ hs.length = cs.length ∧ v = ptV wr (g.loc b).1 ((g.loc b).2 + off)
  | [.val ts] => ∃ agg cs, av = .mv agg cs ∧ ts.length = cs.length ∧ ∀ (j h gn : Nat), ts[j]? = some (some (h, gn)) → ∃ r, get s.regs h = some r ∧ r.live = true ∧ r.gen = gn ∧ cellV v agg j = g.val h ∧ ∃ es, cs[j]? = some (.sl true r.n es)
  | _ => False

theorem box_arg {g : G} {s : S} {w : World} (hm : Mem w0 A B g s w) {wr : Option Nat} {v : Value} {b gn off : Nat} {fl : List Bool} {ys : List X} (hb : boxAt s b gn = some ys) (hv : ∀ y, get s.boxes b = some y → y.gen = gn → v = ptV wr (g.loc b).1 ((g.loc b).2 + off)) {xs : List X} (hxs : xs = (ys.drop off).take fl.length) (hoff : off + fl.length ≤ ys.length)
    {hs : List Nat} (hl : hs.length = xs.length) {k : List (Nat × Nat) → List Nat → List Tg → AV → Prop} (h : aXs s fl xs fun l o cs => k l o [.box b off hs] (.mptr wr cs)) :
    ∃ l O T av F, k l O T av ∧ LiveL s l ∧ (noDup O = true → ∀ I : Nat → Prop, (∀ y, IL g l y → I y) → ArgOk w I F v av) ∧ (∀ y, F y → Who g O (tBoxes T) y) ∧
      (∀ y, aOne av v F y → ∃ h ∈ O, g.ow y = .reg h) ∧ TgOf w g s v av T := by
  obtain ⟨y, h1, h2, h3⟩ := boxAt_some hb
  have hv := hv y h1 h2
  obtain ⟨b1, b2, bcs, e, b3, b4, b5⟩ := hm.boxes b y h1
  have hfl : off + xs.length ≤ ys.length := by rw [hxs]; simp; omega
  have hxj : ∀ j x, xs[j]? = some x → ys[off + j]? = some x := fun j x hj => by
    rw [hxs, List.getElem?_take] at hj
    split at hj
    · rw [List.getElem?_drop] at hj; exact hj
    · cases hj
  rw [h3] at b4 b5
  obtain ⟨l, O, cs, fs, h8, h9, h10, h11, h12, h13, _⟩ := aXs_ok hm (us := fun j => bcs.getD ((g.loc b).2 + off + j) undef) (fun j x hj => by
    obtain ⟨u, hu, _, ho⟩ := b5 (off + j) x (hxj j x hj)
    rw [← Nat.add_assoc] at hu
    have : bcs.getD ((g.loc b).2 + off + j) undef = u := by simp [Array.getD_eq_getD_getElem?, hu]
    rw [this]
    exact ho) h
  have hno : ∀ j x, fs j x → x ≠ (g.loc b).1 := fun j x hx e => by
    obtain ⟨c, _, e'⟩ := h11 j x hx
    rw [e, b1] at e'
    cases e'
  refine ⟨l, O, _, _, fun x => x = (g.loc b).1 ∨ ∃ j, fs j x, h8, h9, fun hd I hI => ⟨((g.loc b).1, (g.loc b).2 + off), fs, hv, .inl rfl, fun j x hx => ⟨.inr ⟨j, hx⟩, hno j x hx⟩, h12 hd, bcs, e, b3, ?_, fun j c hj => ?_⟩, fun x hx => ?_, fun x hx => ?_, ?_⟩
  · show (g.loc b).2 + off + cs.length ≤ bcs.size
    omega
  · have hj' : j < xs.length := by rw [← h10]; exact (List.getElem?_eq_some_iff.1 hj).1
    obtain ⟨u, hu, h1', _⟩ := b5 (off + j) _ (hxj j xs[j] (List.getElem?_eq_getElem hj'))
    rw [← Nat.add_assoc] at hu
    refine ⟨u, hu, h1', ?_⟩
    have h14 := h13 I hI j c hj
    have : bcs.getD ((g.loc b).2 + off + j) undef = u := by simp [Array.getD_eq_getD_getElem?, hu]
    rw [this] at h14
    exact h14
  · rcases hx with rfl | ⟨j, hx⟩
    · exact .inr ⟨b, List.mem_singleton.2 rfl, b1, rfl⟩
    · exact .inl (h11 j x hx)
  · obtain ⟨hF, hp⟩ := hx
    rcases hF with rfl | ⟨j, hx⟩
    · exact absurd rfl (hp ((g.loc b).1, (g.loc b).2 + off) (by rw [hv]; exact unP_ptV ..))
    · exact h11 j x hx
  · exact ⟨wr, cs, y, rfl, h1, by rw [h3]; omega, by rw [hl, h10], hv⟩

theorem noFl_len : ∀ (xs : List X), (noFl xs).length = xs.length
  | [] => rfl
  | _ :: r => by simp [noFl, noFl_len r]

theorem arg_ok {g : G} {s : S} {w : World} (hm : Mem w0 A B g s w) {m : Mode} {oe : Option E} {v : Value} (hE : ∀ e, oe = some e → EOk w g s.boxes s.regs v e) {k : List (Nat × Nat) → List Nat → List Tg → AV → Prop} (h : argE s m oe k) :
    ∃ l O T av F, k l O T av ∧ LiveL s l ∧ (noDup O = true → ∀ I : Nat → Prop, (∀ y, IL g l y → I y) → ArgOk w I F v av) ∧ (∀ y, F y → Who g O (tBoxes T) y) ∧
      (∀ y, aOne av v F y → ∃ h ∈ O, g.ow y = .reg h) ∧ TgOf w g s v av T := by
  have tgNo : ∀ {av : AV}, outK av = false → TgOf w g s v av [] := fun {av} e => ⟨e, fun wr cs e' => by rw [e'] at e; cases e⟩
  unfold argE at h
  split at h
  · split at h
    · rename_i agg xs
      have hv := hE _ rfl
      obtain ⟨us, h1, h2, h3⟩ := vals_at (agg := agg) (xs := xs) hv
      obtain ⟨l, cs, h4, h5, h6, h7⟩ := xCs_ok hm xs us _ h1 h
      refine ⟨l, [], [], _, fun _ => False, h4, h5, fun _ I hI => ?_, fun _ h => h.elim, fun y h => h.elim, tgNo rfl⟩
      cases agg with
      | false =>
        obtain ⟨x0, e1, e2⟩ := h2 rfl
        subst e1
        cases cs with
        | nil => simp at h6
        | cons c r =>
          have : r = [] := by simpa using h6
          subst this
          refine ⟨c, rfl, ?_⟩
          rw [e2]
          exact (h7 0 c rfl).frame hI fun _ _ => rfl
      | true =>
        obtain ⟨us', e1, e2, e3⟩ := h3 rfl
        refine ⟨us', e1, by rw [e2, h6], fun j c hj => ⟨us j, e3 j ?_, (h7 j c hj).frame hI fun _ _ => rfl⟩⟩
        rw [← h6]
        exact (List.getElem?_eq_some_iff.1 hj).1
    · exact h.elim
  · split at h
    · rename_i n
      obtain ⟨x', e, hv⟩ := hE _ rfl
      cases e
      have hv : v = .slice none 0 0 := hv
      refine ⟨_, _, _, _, fun _ => False, h, fun p hp => (by cases hp), fun _ I hI => ?_, fun _ h => h.elim, fun y h => h.elim, tgNo rfl⟩
      rw [hv]
      exact .nil _ _
    · rename_i c gn
      split at h
      · rename_i r hr
        obtain ⟨x', e, hv⟩ := hE _ rfl
        cases e
        obtain ⟨h1, h2, h3⟩ := regAt_some hr
        obtain ⟨r', h4, h5, h6⟩ := hv
        rw [h1] at h4
        cases h4
        refine ⟨_, _, _, _, g.F c, h, fun p hp => (by cases hp), fun _ I hI => ?_, fun y hy => .inl ⟨c, List.mem_singleton.2 rfl, hy⟩, fun y hy => ⟨c, List.mem_singleton.2 rfl, hy⟩, tgNo rfl⟩
        rw [h6 h2 h3.symm]
        refine (hm.regs c r h1 h2).frame (fun y hy => ?_) (fun _ h => h) (fun _ _ => rfl) (fun _ _ => rfl)
        split at hy
        · exact hy.elim
        · exact hI y (.inl hy)
      · exact h.elim
    · rename_i c gn lo hi
      split at h
      · rename_i r hr
        obtain ⟨x', e, hv⟩ := hE _ rfl
        cases e
        obtain ⟨h1, h2, h3⟩ := regAt_some hr
        obtain ⟨r', h4, h5, h6⟩ := hv
        rw [h1] at h4
        cases h4
        obtain ⟨h7, h8, h9⟩ := h6 h2 h3.symm
        refine ⟨_, _, _, _, g.F c, h, fun p hp => (by cases hp), fun _ I hI => ?_, fun y hy => .inl ⟨c, List.mem_singleton.2 rfl, hy⟩, fun y hy => ⟨c, List.mem_singleton.2 rfl, hy⟩, tgNo rfl⟩
        refine Own.sub ((hm.regs c r h1 h2).frame (fun y hy => ?_) (fun _ h => h) (fun _ _ => rfl) (fun _ _ => rfl)) h7 h8 h9
        split at hy
        · exact hy.elim
        · exact hI y (.inl hy)
      · exact h.elim
    · exact h.elim
  · split at h
    · rename_i b gn
      split at h
      · rename_i xs hb
        refine box_arg hm (off := 0) hb (fun y h1 h2 => ?_) (by rw [noFl_len]; simp) (by rw [noFl_len]; omega) (nmXs_len _ _) h
        obtain ⟨y', h4, h5, h6⟩ := hE _ rfl
        rw [h1] at h4
        cases h4
        simpa [ptV] using h6 h2.symm
      · exact h.elim
    · exact h.elim
  · split at h
    · rename_i f b gn
      split at h
      · rename_i xs hb
        refine box_arg hm (off := 0) hb (fun y h1 h2 => ?_) (by rw [noFl_len]; simp) (by rw [noFl_len]; omega) (nmXs_len _ _) h
        obtain ⟨y', h4, h5, h6⟩ := hE _ rfl
        rw [h1] at h4
        cases h4
        exact h6 h2.symm
      · exact h.elim
    · exact h.elim
  · split at h
    · rename_i fl _ b gn off
      split at h
      · rename_i ys hb
        split at h
        · rename_i hoff
          refine box_arg hm hb (fun y h1 h2 => ?_) rfl hoff (nmXs_len _ _) h
          obtain ⟨y', h4, h5, h6⟩ := hE _ rfl
          rw [h1] at h4
          cases h4
          exact h6 h2.symm
        · exact h.elim
      · exact h.elim
    · exact h.elim
  · split at h
    · rename_i row
      have hv := hE _ rfl
      obtain ⟨b, o, e1, e2, e3⟩ := hv
      refine ⟨_, _, _, _, fun _ => False, h, fun p hp => (by cases hp), fun _ I hI => ⟨b, o, by simpa using e1, hI b (.inl e2), fun j c hj => ?_⟩, fun _ h => h.elim, fun y h => h.elim, tgNo rfl⟩
      obtain ⟨u, hu, hr⟩ := e3 j c hj
      exact ⟨u, hu, hr.frame (fun y hy => hI y (.inl hy)) fun _ _ => rfl⟩
    · rename_i hh iv row
      split at h
      · rename_i hl
        obtain ⟨h1, b, o, e1, e2, e3⟩ := ln_IL (φ := fun I => ∃ b o, v = .pointer (some ⟨b, o + 0, none⟩) ∧ I b ∧ ∀ (j : Nat) (c : C), row[j]? = some c → ∃ u, w.cell? ⟨b, o + j, none⟩ = some u ∧ Rd w I u c) (hE _ rfl) hl
          (fun I I' hI ⟨b, o, e1, e2, e3⟩ => ⟨b, o, e1, hI b e2, fun j c hj => let ⟨u, hu, hr⟩ := e3 j c hj; ⟨u, hu, hr.frame hI fun _ _ => rfl⟩⟩)
        refine ⟨_, _, _, _, fun _ => False, h, h1, fun _ I hI => ⟨b, o, by simpa using e1, hI b e2, fun j c hj => ?_⟩, fun _ h => h.elim, fun y h => h.elim, tgNo rfl⟩
        obtain ⟨u, hu, hr⟩ := e3 j c hj
        exact ⟨u, hu, hr.frame hI fun _ _ => rfl⟩
      · exact h.elim
    · rename_i c gn i
      split at h
      · rename_i r hr
        obtain ⟨row, hrow, h⟩ := h
        obtain ⟨h1, h2, h3⟩ := regAt_some hr
        obtain ⟨r', h4, h5, h6⟩ := hE _ rfl
        rw [h1] at h4
        cases h4
        obtain ⟨b, o, len, cap, e1, e2, e3⟩ := h6 h2 h3.symm
        obtain ⟨b', o', cap', q1, q2, q3, q4⟩ := (own_IL hm h1 h2).elem hrow
        rw [e1] at q1
        cases q1
        refine ⟨_, _, _, _, fun _ => False, h, fun p hp => (by rw [List.mem_singleton.1 hp]; exact ⟨_, h1, h2, rfl⟩), fun _ I hI => ⟨b, o + i * r.n, by simpa using e3, hI b q2, fun j cc hj => ?_⟩, fun _ h => h.elim,
          fun y h => h.elim, tgNo rfl⟩
        obtain ⟨u, hu, _, hr'⟩ := q4 j cc hj
        exact ⟨u, hu, hr'.frame hI fun _ _ => rfl⟩
      · exact h.elim
    · exact h.elim
  · split at h
    · rename_i n
      obtain ⟨x', e, hv⟩ := hE _ rfl
      cases e
      exact ⟨_, _, _, _, fun _ => False, h, fun p hp => (by cases hp), fun _ I hI => hv, fun _ h => h.elim, fun y h => h.elim, tgNo rfl⟩
    · exact h.elim
  · split at h
    · rename_i fl _ agg xs
      obtain ⟨h1, h2⟩ := vals_cellV (agg := agg) (xs := xs) (hE _ rfl)
      obtain ⟨l, O, cs, fs, i1, i2, i3, i4, i5, i6, i7⟩ := aXs_ok hm h1 h
      refine ⟨l, O, [], _, fun x => ∃ j, fs j x, i1, i2, fun hd I hI => ⟨fs, fun j x hx => ⟨j, hx⟩, i5 hd, ?_, i6 I hI⟩, fun y ⟨j, hy⟩ => .inl (i4 j y hy), fun y ⟨j, hy⟩ => i4 j y hy, tgNo rfl⟩
      cases agg with
      | false => exact i3.trans h2
      | true => obtain ⟨us, q1, q2⟩ := h2; exact ⟨us, q1, q2.trans i3.symm⟩
    · exact h.elim
  · split at h
    · rename_i fl _ agg xs
      split at h
      · obtain ⟨h1, h2⟩ := vals_cellV (agg := agg) (xs := xs) (hE _ rfl)
        have hlen := ownT_len h
        obtain ⟨l, O, cs, fs, i1, i2, i3, i4, i5, i6, i7⟩ := aXs_ok hm h1 h
        refine ⟨l, O, _, _, fun x => ∃ j, fs j x, i1, i2, fun hd I hI => ⟨fs, fun j x hx => ⟨j, hx⟩, i5 hd, ?_, i6 I hI⟩, fun y ⟨j, hy⟩ => .inl (i4 j y hy), fun y ⟨j, hy⟩ => i4 j y hy, agg, cs, rfl, by rw [hlen, i3], fun j c gn hj => ?_⟩
        · cases agg with
          | false => exact i3.trans h2
          | true => obtain ⟨us, q1, q2⟩ := h2; exact ⟨us, q1, q2.trans i3.symm⟩
        · obtain ⟨e1, e2⟩ := ownT_at hj
          obtain ⟨r, q1, q2, q3⟩ := i7 j c gn e1 e2
          obtain ⟨q4, q5, q6⟩ := regAt_some q1
          obtain ⟨r', q7, q8, q9⟩ := h1 j _ e1
          rw [q4] at q7
          cases q7
          exact ⟨r, q4, q5, q6, q9 q5 q6.symm, r.es, q2⟩
      · exact h.elim
    · exact h.elim
  · exact h.elim

end

end Go.Proofs.YtppfojiogappaaaDoor.V

set_option linter.unusedVariables false

set_option linter.unusedSimpArgs false

namespace Go.Proofs.YtppfojiogappaaaDoor.V

open Go Classical

def TgOk (w : World) (I : Nat → Prop) (g : G) (s : S) (H : Nat → Nat → Prop) (t : Tg) (o : List C) : Prop :=
  match t with
  | .box b off hs => ∃ y, get s.boxes b = some y ∧ off + o.length ≤ y.cells.length ∧ hs.length = o.length ∧ MemRow w I H ((g.loc b).1, (g.loc b).2 + off) o
  | .val tl => ∀ (j h gn : Nat), tl[j]? = some (some (h, gn)) → ∃ r es, get s.regs h = some r ∧ r.live = true ∧ r.gen = gn ∧ o[j]? = some (.sl true r.n es) ∧ Own w (fun _ => False) (H j) (g.val h) (.sl true r.n es)

def TgsOk (w : World) (I : Nat → Prop) (g : G) (s : S) : List Tg → (Nat → Nat → Nat → Prop) → List (List C) → Prop
  | [], _, [] => True
  | t :: ts, H, o :: os => TgOk w I g s (H 0) t o ∧ TgsOk w I g s ts (fun m => H (m + 1)) os
  | _, _, _ => False

theorem tBoxes_app : ∀ (a b : List Tg), tBoxes (a ++ b) = tBoxes a ++ tBoxes b
  | [], _ => rfl
  | .box b _ _ :: r, l => by simp [tBoxes, tBoxes_app r l]
  | .val _ :: r, l => by simp [tBoxes, tBoxes_app r l]

theorem tBoxes_mem : ∀ {T : List Tg} {b off : Nat} {hs : List Nat}, Tg.box b off hs ∈ T → b ∈ tBoxes T
  | t :: r, b, off, hs, h => by
    cases h with
    | head => exact List.mem_cons_self ..
    | tail _ h =>
      cases t with
      | box b' o' h' => exact List.mem_cons_of_mem _ (tBoxes_mem h)
      | val ts => exact tBoxes_mem (T := r) h

theorem tBoxes_inv : ∀ {T : List Tg} {b : Nat}, b ∈ tBoxes T → ∃ off hs, Tg.box b off hs ∈ T
  | t :: r, b, h => by
    cases t with
    | box b' o' h' =>
      cases h with
      | head => exact ⟨_, _, List.mem_cons_self ..⟩
      | tail _ h => obtain ⟨off, hs, q⟩ := tBoxes_inv h; exact ⟨off, hs, List.mem_cons_of_mem _ q⟩
    | val ts => obtain ⟨off, hs, q⟩ := tBoxes_inv (T := r) h; exact ⟨off, hs, List.mem_cons_of_mem _ q⟩

theorem tBoxes_one : ∀ {T : List Tg} {b o1 o2 : Nat} {h1 h2 : List Nat}, noDup (tBoxes T) = true → Tg.box b o1 h1 ∈ T → Tg.box b o2 h2 ∈ T → o1 = o2 ∧ h1 = h2
  | t :: r, b, o1, o2, h1, h2, hd, m1, m2 => by
    have tl : noDup (tBoxes r) = true := by
      cases t with
      | box b' o' h' =>
        have hd' : (if memb (tBoxes r) b' then false else noDup (tBoxes r)) = true := hd
        split at hd'
        · cases hd'
        · exact hd'
      | val ts => exact hd
    have hno : ∀ {o h}, t = Tg.box b o h → ∀ {o' h'}, Tg.box b o' h' ∈ r → False := fun e _ _ hm => by
      subst e
      have hd' : (if memb (tBoxes r) b then false else noDup (tBoxes r)) = true := hd
      rw [if_pos (memb_mem.2 (tBoxes_mem hm))] at hd'
      cases hd'
    cases m1 with
    | head =>
      cases m2 with
      | head => exact ⟨rfl, rfl⟩
      | tail _ m2 => exact (hno rfl m2).elim
    | tail _ m1 =>
      cases m2 with
      | head => exact (hno rfl m1).elim
      | tail _ m2 => exact tBoxes_one tl m1 m2

section

variable {w0 : World} {A : AA} {B : List (Nat × Nat × Nat)}

theorem tg_out {w w' : World} {g : G} {s : S} {v : Value} {av : AV} {t : Tg} (h : TgOf w g s v av [t]) {I' : Nat → Prop} {H : Nat → Nat → Prop} {o : List C} (ho : OutOk w' I' H av v o) : TgOk w' I' g s H t o := by
  cases t with
  | box b off hs =>
    obtain ⟨wr, cs, y, rfl, h1, h2, h3, h4⟩ := h
    obtain ⟨q1, p, q2, q3⟩ := ho
    rw [h4] at q2
    have q5 : ((g.loc b).1, (g.loc b).2 + off) = p := Prod.ext (ptV_inj q2).1 (ptV_inj q2).2
    rw [← q5] at q3
    exact ⟨y, h1, by omega, by omega, q3⟩
  | val ts =>
    obtain ⟨agg, cs, rfl, h1, h2⟩ := h
    intro j h gn hj
    obtain ⟨r, r1, r2, r3, r4, es, r5⟩ := h2 j h gn hj
    obtain ⟨es', q4, q5⟩ := ho.2 j _ _ r5
    rw [r4] at q5
    exact ⟨r, es', r1, r2, r3, q4, q5⟩

theorem args_ok {g : G} {s : S} {w : World} (hm : Mem w0 A B g s w) : ∀ {ms : List Mode} {xs : List (Option E)} {vs : List Value} {k : List (Nat × Nat) → List Nat → List Tg → List AV → Prop}, EsOk w g s xs vs → argsE s ms xs k →
    ∃ l O T as Fs, k l O T as ∧ LiveL s l ∧ (noDup O = true → ∀ I : Nat → Prop, (∀ y, IL g l y → I y) → ArgsOk w I as vs Fs) ∧ (∀ F ∈ Fs, ∀ y, F y → Who g O (tBoxes T) y) ∧
      (noDup O = true → noDup (tBoxes T) = true → Apart Fs) ∧ (∀ y, aOf as vs Fs y → ∃ h ∈ O, g.ow y = .reg h) ∧
      (∀ p ∈ bOf as vs, ∃ b off hs, Tg.box b off hs ∈ T ∧ ∃ y, get s.boxes b = some y ∧ off + hs.length ≤ y.cells.length ∧ p = ((g.loc b).1, (g.loc b).2 + off, hs.length)) ∧
      (∀ b off hs, Tg.box b off hs ∈ T → ∃ y, get s.boxes b = some y ∧ off + hs.length ≤ y.cells.length ∧ ((g.loc b).1, (g.loc b).2 + off, hs.length) ∈ bOf as vs) ∧
      (∀ (w' : World) (I' : Nat → Prop) (H : Nat → Nat → Nat → Prop) (outs : List (List C)), OutsOk w' I' as vs H outs → TgsOk w' I' g s T H outs)
  | [], [], [], k, _, h => ⟨[], [], [], [], [], h, fun p hp => (by cases hp), fun _ I hI => trivial, fun F hF => (by cases hF), fun _ _ => trivial, fun y hy => hy.elim, fun p hp => (by cases hp), fun b off hs hb => (by cases hb),
      fun w' I' H outs h => (by cases outs with
        | nil => trivial
        | cons o os => exact h.elim)⟩
  | m :: ms, x :: xs, v :: vs, k, hE, h => by
    obtain ⟨l, O, T, av, F, h1, h2, h3, h4, h5, h7⟩ := arg_ok hm hE.1 h
    obtain ⟨l', O', T', as, Fs, i1, i2, i3, i4, i5, i6, i8, i9, i10⟩ := args_ok hm hE.2 h1
    refine ⟨_, _, _, _, F :: Fs, i1, h2.app i2, fun hd I hI => ⟨h3 (noDup_left hd) I fun y hy => hI y (IL_app_left hy), i3 (noDup_app hd).1 I fun y hy => hI y (IL_app_right hy)⟩, ?_, ?_, ?_, ?_, ?_, ?_⟩
    · intro F' hF y hy
      rw [tBoxes_app]
      cases hF with
      | head =>
        rcases h4 y hy with ⟨c, hc, e⟩ | ⟨b, hb, e⟩
        · exact .inl ⟨c, List.mem_append.2 (.inl hc), e⟩
        · exact .inr ⟨b, List.mem_append.2 (.inl hb), e⟩
      | tail _ hF =>
        rcases i4 F' hF y hy with ⟨c, hc, e⟩ | ⟨b, hb, e⟩
        · exact .inl ⟨c, List.mem_append.2 (.inr hc), e⟩
        · exact .inr ⟨b, List.mem_append.2 (.inr hb), e⟩
    · intro d1 d2
      rw [tBoxes_app] at d2
      obtain ⟨d3, d4⟩ := noDup_app d1
      obtain ⟨d5, d6⟩ := noDup_app d2
      refine ⟨fun y hy F' hF hy' => ?_, i5 d3 d5⟩
      rcases h4 y hy with ⟨c, hc, e⟩ | ⟨b, hb, e, _⟩ <;> rcases i4 F' hF y hy' with ⟨c', hc', e'⟩ | ⟨b', hb', e', _⟩
      · rw [e] at e'
        cases e'
        exact d4 _ hc hc'
      · rw [e] at e'; cases e'
      · rw [e] at e'; cases e'
      · rw [e] at e'
        cases e'
        exact d6 _ hb hb'
    · intro y hy
      rcases hy with hy | hy
      · obtain ⟨c, hc, e⟩ := h5 y hy
        exact ⟨c, List.mem_append.2 (.inl hc), e⟩
      · obtain ⟨c, hc, e⟩ := i6 y hy
        exact ⟨c, List.mem_append.2 (.inr hc), e⟩
    · intro p hp
      have old : p ∈ bOf as vs → ∃ b off hs, Tg.box b off hs ∈ T ++ T' ∧ ∃ y, get s.boxes b = some y ∧ off + hs.length ≤ y.cells.length ∧ p = ((g.loc b).1, (g.loc b).2 + off, hs.length) := fun hp => by
        obtain ⟨b, off, hs, q1, q2⟩ := i8 p hp
        exact ⟨b, off, hs, List.mem_append.2 (.inr q1), q2⟩
      match T, h7 with
      | [], h7 =>
        have : bOf (av :: as) (v :: vs) = bOf as vs := by
          cases av with
          | mptr wr cs => exact absurd rfl (h7.2 wr cs)
          | _ => rfl
        rw [this] at hp
        exact old hp
      | [.box b off hs], h7 =>
        obtain ⟨wr, cs, y, rfl, e1, e2, e3, e4⟩ := h7
        simp only [e4, bOf, unP_ptV, List.mem_cons] at hp
        rcases hp with rfl | hp
        · exact ⟨b, off, hs, List.mem_cons_self .., y, e1, by omega, by rw [e3]⟩
        · exact old hp
      | [.val ts], h7 =>
        obtain ⟨agg, cs, rfl, _⟩ := h7
        exact old hp
      | .box _ _ _ :: _ :: _, h7 => exact h7.elim
      | .val _ :: _ :: _, h7 => exact h7.elim
    · intro b off hs hb
      rcases List.mem_append.1 hb with hb | hb
      · match T, h7 with
        | [], h7 => cases hb
        | [.box b' off' hs'], h7 =>
          obtain ⟨wr, cs, y, rfl, e1, e2, e3, e4⟩ := h7
          cases hb with
          | head => exact ⟨y, e1, by omega, by simp [e4, bOf, unP_ptV, e3]⟩
          | tail _ hb => cases hb
        | [.val ts], h7 =>
          cases hb with
          | tail _ hb => cases hb
        | .box _ _ _ :: _ :: _, h7 => exact h7.elim
        | .val _ :: _ :: _, h7 => exact h7.elim
      · obtain ⟨y, q1, q2, q3⟩ := i9 b off hs hb
        refine ⟨y, q1, q2, ?_⟩
        cases av with
        | mptr wr cs =>
          show _ ∈ (match unP wr v with
            | some p => (p.1, p.2, cs.length) :: bOf as vs
            | none => bOf as vs)
          split
          · exact List.mem_cons_of_mem _ q3
          · exact q3
        | _ => exact q3
    · intro w' I' H outs ho
      unfold OutsOk at ho
      match T, h7 with
      | [], h7 =>
        rw [h7.1] at ho
        exact i10 w' I' H outs ho
      | [t], h7 =>
        have hk : outK av = true := by
          cases t with
          | box b off hs => obtain ⟨wr, cs, y, rfl, _⟩ := h7; rfl
          | val ts => obtain ⟨agg, cs, rfl, _⟩ := h7; rfl
        rw [hk] at ho
        cases outs with
        | nil => exact ho.elim
        | cons o os => exact ⟨tg_out h7 ho.1, i10 w' I' _ os ho.2⟩
      | .box _ _ _ :: _ :: _, h7 => exact h7.elim
      | .val _ :: _ :: _, h7 => exact h7.elim
  | [], _ :: _, _, _, _, h => h.elim
  | _ :: _, [], _, _, _, h => h.elim
  | _ :: _, _ :: _, [], _, hE, _ => hE.elim
  | [], [], _ :: _, _, hE, _ => hE.elim

def lnOf : List (Nat × Nat) → Option (Option (Nat × Nat))
  | [] => some none
  | [p] => some (some p)
  | _ => none

def pack : List (Nat × Nat) → List (Nat × Nat)
  | [] => []
  | p :: r => match pack r with
    | [] => [p]
    | q :: t => if p.1 = q.1 then q :: t else p :: q :: t

def lX (ln : Option (Option (Nat × Nat))) (c : C) : Option X :=
  match c with
  | .sc v => some (.sc v)
  | .any => none
  | .sl _ n es => (match ln with
    | some l => some (.rd l n es)
    | none => none)

def lXs (ln : Option (Option (Nat × Nat))) : List C → Option (List X)
  | [] => some []
  | c :: r => match lX ln c with
    | some x => (match lXs ln r with
      | some xs => some (x :: xs)
      | none => none)
    | none => none

def resXs (ln : Option (Option (Nat × Nat))) (st : Nat) : Nat → List (Nat × Reg) → List RX → Option (List X × List (Nat × Reg) × Nat)
  | h, regs, [] => some ([], regs, h)
  | h, regs, .rd c :: r => (match lX ln c with
    | some x => (match resXs ln st h regs r with
      | some (xs, regs', h') => some (x :: xs, regs', h')
      | none => none)
    | none => none)
  | h, regs, .own pure n es :: r =>
    (match (if pure then true else match ln with | some none => true | _ => false) with
    | true => (match resXs ln st (h + st) (put regs h (newReg regs h pure n es)) r with
      | some (xs, regs', h') => some (.ref h (newReg regs h pure n es).gen :: xs, regs', h')
      | none => none)
    | false => none)
  | _, _, .box _ :: _ => none

def resEs (ln : Option (Option (Nat × Nat))) (st : Nat) : Nat → List (Nat × Reg) → List RV → Option (List (Bool × List X) × List (Nat × Reg))
  | h, regs, [] => some ([], regs)
  | h, regs, r :: rs => (match resXs ln st h regs r.xs with
    | some (xs, regs', h') => (match resEs ln st h' regs' rs with
      | some (ps, regs'') => some ((r.agg, xs) :: ps, regs'')
      | none => none)
    | none => none)

def oneE : List (Bool × List X) → E
  | [p] => .vals p.1 p.2
  | ps => .tup ps

def dst0 (o : Oper) : Nat := match o.dst with | some d => d | none => 0

def regZ (z : Bool) (regs : List (Nat × Reg)) (h n : Nat) (es : List (List C)) : Option Reg :=
  match z with
  | false => some (newReg regs h true n es)
  | true => (match get regs h with
    | none => some ⟨true, 0, 0, true, n, es⟩
    | some _ => none)

def adXs (z : Bool) (ln : Option (Option (Nat × Nat))) : List Nat → List (Nat × Reg) → List C → Option (List X × List (Nat × Reg))
  | [], regs, [] => some ([], regs)
  | h :: hs, regs, c :: r =>
    (match c with
    | .sl true n es => (match regZ z regs h n es with
      | some R => (match adXs z ln hs (put regs h R) r with
        | some (xs, regs') => some (.ref h R.gen :: xs, regs')
        | none => none)
      | none => none)
    | c => (match lX ln c with
      | some x => (match adXs z ln hs regs r with
        | some (xs, regs') => some (x :: xs, regs')
        | none => none)
      | none => none))
  | _, _, _ => none

def adVs : List (Option (Nat × Nat)) → List (Nat × Reg) → List C → Option (List ((Nat × Nat) × X) × List (Nat × Reg))
  | [], regs, [] => some ([], regs)
  | some (h, g) :: tl, regs, c :: r => (match c with
    | .sl true n es => (match adVs tl (put regs h (newReg regs h true n es)) r with
      | some (σ, regs') => some (((h, g), .ref h (newReg regs h true n es).gen) :: σ, regs')
      | none => none)
    | _ => none)
  | none :: tl, regs, _ :: r => adVs tl regs r
  | _, _, _ => none

def tgsW (ln : Option (Option (Nat × Nat))) : List Tg → List (List C) → List (Nat × Reg) → Option (List (Nat × Nat × List X) × List ((Nat × Nat) × X) × List (Nat × Reg))
  | [], [], regs => some ([], [], regs)
  | t :: ts, o :: os, regs => (match t with
    | .box b off hs => (match adXs false ln hs regs o with
      | some (xs, regs1) => (match tgsW ln ts os regs1 with
        | some (ups, σ, regs2) => some ((b, off, xs) :: ups, σ, regs2)
        | none => none)
      | none => none)
    | .val tl => (match adVs tl regs o with
      | some (σ0, regs1) => (match tgsW ln ts os regs1 with
        | some (ups, σ, regs2) => some (ups, σ0 ++ σ, regs2)
        | none => none)
      | none => none))
  | _, _, _ => none

def look : List ((Nat × Nat) × X) → Nat → Nat → Option X
  | [], _, _ => none
  | ((h', g'), x) :: r, h, g => if h' = h then (if g' = g then some x else look r h g) else look r h g

def rtX (σ : List ((Nat × Nat) × X)) (x : X) : X :=
  match x with
  | .ref h g => (match look σ h g with
    | some y => y
    | none => .ref h g)
  | x => x

def rtE (σ : List ((Nat × Nat) × X)) (e : E) : E :=
  match e with
  | .vals agg xs => .vals agg (xs.map (rtX σ))
  | e => e

def rtS (σ : List ((Nat × Nat) × X)) (l : List (Nat × E)) : List (Nat × E) :=
  match σ with
  | [] => l
  | σ => l.map fun p => (p.1, rtE σ p.2)

def rtC (σ : List ((Nat × Nat) × X)) (xs : List X) : List X :=
  match σ with
  | [] => xs
  | σ => xs.map (rtX σ)

def upB (ups : List (Nat × Nat × List X)) (σ : List ((Nat × Nat) × X)) (bx : List (Nat × Box)) : List (Nat × Box) :=
  mapB bx fun b x => match get ups b with
    | some (off, xs) => { x with cells := splX (rtC σ x.cells) off xs }
    | none => { x with cells := rtC σ x.cells }

def retW (nt : Nat) (o : Oper) (l : List (Nat × Nat)) (O : List Nat) (T : List Tg) (rs : List RV) (outs : List (List C)) (s : S) (k : S → Prop) : Prop :=
  match tgsW (lnOf (pack l)) T outs (kill s.regs O) with
  | some (ups, σ, regs1) => (match resEs (lnOf (pack l)) nt (dst0 o) regs1 rs with
    | some (ps, regs') => (match o.dst with
      | some _ => putK nt o ⟨rtS σ s.slots, upB ups σ s.boxes, regs'⟩ (oneE ps) k
      | none => k ⟨rtS σ s.slots, upB ups σ s.boxes, regs'⟩)
    | none => False)
  | none => False

def isBox : List RV → Option (List C)
  | [⟨false, [.box cs]⟩] => some cs
  | _ => none

def retB (nt : Nat) (o : Oper) (l : List (Nat × Nat)) (O : List Nat) (T : List Tg) (cs : List C) (s : S) (k : S → Prop) : Prop :=
  match O, T with
  | [], [] => (match lXs (lnOf (pack l)) cs with
    | some xs => (match o.dst with
      | some d => putK nt o { s with boxes := put s.boxes d ⟨boxGen s.boxes d, xs⟩ } (.bptr d (boxGen s.boxes d) 0) k
      | none => False)
    | none => False)
  | _, _ => False

def plainC : List C → Bool
  | [] => true
  | .sc _ :: r => plainC r
  | .sl true _ _ :: r => plainC r
  | _ :: _ => false

def plainO : List (List C) → Bool
  | [] => true
  | o :: r => match plainC o with
    | true => plainO r
    | false => false

def plainX : List RX → Bool
  | [] => true
  | .rd (.sc _) :: r => plainX r
  | .own true _ _ :: r => plainX r
  | _ :: _ => false

def plainR : List RV → Bool
  | [] => true
  | v :: r => match plainX v.xs with
    | true => plainR r
    | false => false

def retWB (nt : Nat) (o : Oper) (l : List (Nat × Nat)) (O : List Nat) (T : List Tg) (rs : List RV) (outs : List (List C)) (s : S) (k : S → Prop) : Prop :=
  match isBox rs with
  | some cs => retB nt o l O T cs s k
  | none => (match lnOf (pack l) with
    | some _ => retW nt o l O T rs outs s k
    | none => (match plainR rs with
      | true => (match plainO outs with
        | true => retW nt o l O T rs outs s k
        | false => retW nt o [] (O ++ l.map (·.1)) T rs outs s k)
      | false => retW nt o [] (O ++ l.map (·.1)) T rs outs s k))

def apartL (l : List (Nat × Nat)) (O : List Nat) : Bool :=
  match l with
  | [] => true
  | p :: r => if memb O p.1 then false else apartL r O

def callE (P : Program) (nt : Nat) (o : Oper) (f : Nat) (ms : List Mode) (xs : List (Option E)) (s : S) (k : S → Prop) : Prop :=
  argsE s ms xs fun l O T as =>
    (match noDup O with
    | true => (match noDup (tBoxes T) with
      | true => (match apartL l O with
        | true => FnV P f as fun rs outs => retWB nt o l O T rs outs s k
        | false => False)
      | false => False)
    | false => False)

def callW (P : Program) (nt : Nat) (o : Oper) (f : Nat) (ms : List Mode) (xs : List Operand) (s : S) (k : S → Prop) : Prop := callE P nt o f ms (xs.map s.ev) s k

def callVW (P : Program) (nt : Nat) (o : Oper) (md : Nat → List Mode) (t : Nat) (xs : List Operand) (s : S) (k : S → Prop) : Prop :=
  match get s.slots t with
  | some (.clo f b g) => (match boxAt s b g with
    | some _ => callE P nt o f (md f) (xs.map s.ev ++ [some (.bptr b g 0)]) s k
    | none => False)
  | some (.vals false [.sc (.func (.func f) ⟨[]⟩ ⟨[]⟩)]) => callE P nt o f (md f) (xs.map s.ev) s k
  | _ => False

def makeFuncW (nt : Nat) (o : Oper) (fn : Fn) (first captured : Array Operand) (s : S) (k : S → Prop) : Prop :=
  match fn, first, captured with
  | .func f, ⟨[]⟩, ⟨[x]⟩ => (match s.ev x with
    | some (.bptr b g 0) => putK nt o s (.clo f b g) k
    | _ => False)
  | .func f, ⟨[]⟩, ⟨[]⟩ => putK nt o s (.vals false [.sc (.func (.func f) #[] #[])]) k
  | _, _, _ => False

theorem apartL_spec {l : List (Nat × Nat)} {O : List Nat} (h : apartL l O = true) : ∀ p ∈ l, memb O p.1 = false := by
  induction l with
  | nil => exact fun p hp => (by cases hp)
  | cons q r ih =>
    simp only [apartL] at h
    split at h
    · cases h
    · rename_i hm
      intro p hp
      cases hp with
      | head => simpa using hm
      | tail _ hp => exact ih h p hp

theorem pack_mem (l : List (Nat × Nat)) : (∀ p ∈ pack l, p ∈ l) ∧ ∀ p ∈ l, ∃ q ∈ pack l, q.1 = p.1 := by
  induction l with
  | nil => exact ⟨fun p hp => hp, fun p hp => (by cases hp)⟩
  | cons p r ih =>
    simp only [pack]
    split
    · rename_i e
      rw [e] at ih
      refine ⟨fun q hq => (by rw [List.mem_singleton.1 hq]; exact List.mem_cons_self ..), fun q hq => ?_⟩
      cases hq with
      | head => exact ⟨p, List.mem_singleton.2 rfl, rfl⟩
      | tail _ hq => obtain ⟨t, ht, _⟩ := ih.2 q hq; cases ht
    · rename_i q t e
      rw [e] at ih
      split
      · rename_i hpq
        refine ⟨fun y hy => List.mem_cons_of_mem _ (ih.1 y hy), fun y hy => ?_⟩
        cases hy with
        | head => exact ⟨q, List.mem_cons_self .., hpq.symm⟩
        | tail _ hy => exact ih.2 y hy
      · refine ⟨fun y hy => ?_, fun y hy => ?_⟩
        · cases hy with
          | head => exact List.mem_cons_self ..
          | tail _ hy => exact List.mem_cons_of_mem _ (ih.1 y hy)
        · cases hy with
          | head => exact ⟨p, List.mem_cons_self .., rfl⟩
          | tail _ hy => obtain ⟨z, hz, e⟩ := ih.2 y hy; exact ⟨z, List.mem_cons_of_mem _ hz, e⟩

def LnIs (g : G) (regs : List (Nat × Reg)) (I : Nat → Prop) (ln : Option (Option (Nat × Nat))) : Prop :=
  ∀ l, ln = some l → ∀ φ : (Nat → Prop) → Prop, (∀ I I' : Nat → Prop, (∀ x, I x → I' x) → φ I → φ I') → φ I → LnOk g regs l φ

theorem lX_ok {g : G} {regs : List (Nat × Reg)} {I : Nat → Prop} {ln : Option (Option (Nat × Nat))} {w : World} (hl : LnIs g regs I ln) {u : Value} {c : C} {x : X} (h : lX ln c = some x) (hr : Rd w I u c) : XOk w g regs u x := by
  cases c with
  | sc v =>
    cases h
    cases hr
    exact rfl
  | any => cases h
  | sl own n es =>
    cases hln : ln with
    | none => simp [lX, hln] at h
    | some l =>
      simp only [lX, hln, Option.some.injEq] at h
      subst h
      exact hl l hln (fun I => Rd w I u (.sl true n es)) (fun I I' hI h => h.frame hI fun _ _ => rfl) hr.flag

theorem lXs_ok {g : G} {regs : List (Nat × Reg)} {I : Nat → Prop} {ln : Option (Option (Nat × Nat))} {w : World} (hl : LnIs g regs I ln) : ∀ {cs : List C} {xs : List X}, lXs ln cs = some xs →
    xs.length = cs.length ∧ ∀ (j : Nat) (x : X), xs[j]? = some x → ∃ c, cs[j]? = some c ∧ ∀ u, Rd w I u c → XOk w g regs u x
  | [], xs, h => by cases h; exact ⟨rfl, fun j x hj => (by simp at hj)⟩
  | c :: r, xs, h => by
    simp only [lXs] at h
    split at h
    · rename_i x0 h1
      split at h
      · rename_i xs0 h2
        cases h
        obtain ⟨i1, i2⟩ := lXs_ok hl h2
        refine ⟨by simp [i1], fun j x hj => ?_⟩
        cases j with
        | zero => cases hj; exact ⟨c, rfl, fun u hu => lX_ok hl h1 hu⟩
        | succ j => exact i2 j x hj
      · cases h
    · cases h

theorem LnIs.step {g g' : G} {s s' : S} {w w' : World} {I : Nat → Prop} {ln : Option (Option (Nat × Nat))} (h : Step g s w g' s' w') (hl : LnIs g s.regs I ln) : LnIs g' s'.regs I ln := by
  intro l e φ hφ hI
  have := hl l e φ hφ hI
  exact LnOk.step (φ := φ) (φ' := φ) h (fun I I' hh hp => hφ _ _ (fun x hx => (hh x hx).1) hp) this

theorem regZ_ok {z : Bool} {regs : List (Nat × Reg)} {h n : Nat} {es : List (List C)} {R : Reg} (e : regZ z regs h n es = some R) :
    R.live = true ∧ R.pure = true ∧ R.n = n ∧ R.es = es ∧ (∀ r, get regs h = some r → r.gen < R.gen ∧ r.iv < R.iv) ∧ (z = false → resv h = true → R.gen ≠ 0) := by
  cases z with
  | false =>
    cases e
    obtain ⟨e1, e2, e3, e4, e5, e6⟩ := newReg_es regs h true n es
    exact ⟨e1, e2, e3, e4, e5, fun _ => e6⟩
  | true =>
    simp only [regZ] at e
    split at e
    · rename_i hn
      cases e
      exact ⟨rfl, rfl, rfl, rfl, ⟨fun r hr => (by rw [hn] at hr; cases hr), fun h => by cases h⟩⟩
    · cases e

theorem adXs_ok {z : Bool} {ln : Option (Option (Nat × Nat))} {w : World} {I : Nat → Prop} : ∀ {hs : List Nat} {cs : List C} {regs' : List (Nat × Reg)} {ys : List X} {g : G} {s : S} (us : Nat → Value) (F : Nat → Nat → Prop), Mem w0 A B g s w → LnIs g s.regs I ln →
    (∀ (j : Nat) (c : C), cs[j]? = some c → POk w I (F j) (us j) c) → (∀ j x, F j x → g.ow x = .none ∧ x < w.heap.size ∧ (A x ∨ w0.heap.size ≤ x)) → Inj F →
    (z = true → ∀ d, ¬ A.pr d) → adXs z ln hs s.regs cs = some (ys, regs') →
    ∃ g', Step g s w g' { s with regs := regs' } w ∧ Mem w0 A B g' { s with regs := regs' } w ∧ ys.length = cs.length ∧ (∀ (j : Nat) (y : X), ys[j]? = some y → XOk w g' regs' (us j) y) ∧
      (∀ x, (∀ j, j < cs.length → ¬ F j x) → g'.ow x = g.ow x) ∧ g'.loc = g.loc
  | [], [], regs', ys, g, s, us, F, hm, hl, hx, hF, hd, hz, e => by
    cases e
    exact ⟨g, Step.refl g s w, hm, rfl, fun j y hj => (by simp at hj), fun x _ => rfl, rfl⟩
  | h :: hs, c :: r, regs', ys, g, s, us, F, hm, hl, hx, hF, hd, hz, e => by
    have other : (match lX ln c with
        | some x => (match adXs z ln hs s.regs r with
          | some (xs, regs') => some (x :: xs, regs')
          | none => none)
        | none => none) = some (ys, regs') → (∀ n es, c ≠ .sl true n es) → ∃ g', Step g s w g' { s with regs := regs' } w ∧ Mem w0 A B g' { s with regs := regs' } w ∧ ys.length = (c :: r).length ∧ (∀ (j : Nat) (y : X), ys[j]? = some y → XOk w g' regs' (us j) y) ∧
      (∀ x, (∀ j, j < (c :: r).length → ¬ F j x) → g'.ow x = g.ow x) ∧ g'.loc = g.loc := by
      intro e hc
      split at e
      · rename_i x0 h1
        split at e
        · rename_i xs1 regs1 h2
          cases e
          obtain ⟨g', i1, i2, i3, i4, i5, i6⟩ := adXs_ok (fun j => us (j + 1)) (fun j => F (j + 1)) hm hl (fun j x hj => hx (j + 1) x hj) (fun j x h => hF (j + 1) x h) (fun j j' x h h' => by have := hd _ _ x h h'; omega) hz h2
          refine ⟨g', i1, i2, by simp [i3], fun j y hj => ?_, fun x hf => i5 x fun j hj => hf (j + 1) (by simpa using hj), i6⟩
          cases j with
          | zero =>
            cases hj
            have h0 := hx 0 _ rfl
            have h0' : Rd w I (us 0) c := by
              cases c with
              | sc v => exact h0
              | any => exact h0
              | sl own n es =>
                cases own with
                | true => exact absurd rfl (hc n es)
                | false => exact h0
            exact XOk.step i1 (lX_ok hl h1 h0')
          | succ j => exact i4 j y hj
        · cases e
      · cases e
    cases c with
    | sc v => exact other e (fun n es h => by cases h)
    | any => exact other e (fun n es h => by cases h)
    | sl own n es =>
      cases own with
      | false => exact other e (fun n es h => by cases h)
      | true =>
        simp only [adXs] at e
        split at e
        case h_2 => cases e
        rename_i R hR
        split at e
        · rename_i xs1 regs1 h2
          cases e
          obtain ⟨e1, e2, e3, e4, e5, e6⟩ := regZ_ok hR
          have hO : Own w (fun _ => False) (F 0) (us 0) (.sl true n es) := hx 0 _ rfl
          obtain ⟨st1, hm1⟩ := hm.adopt h R (F 0) (us 0) (fun x hx => hF 0 x hx) (by rw [e2, e3, e4]; exact hO) e5 (fun hp => by
            cases z with
            | false => exact e6 rfl (hm.pl.2 h hp).1
            | true => exact absurd hp (hz rfl h))
          have how : ∀ x, ¬ F 0 x → (g.adopt h (F 0) (us 0)).ow x = g.ow x := fun x hx => by simp [G.adopt, hx]
          obtain ⟨g', i1, i2, i3, i4, i5, i6⟩ := adXs_ok (s := { s with regs := put s.regs h R }) (fun j => us (j + 1)) (fun j => F (j + 1)) hm1 (hl.step st1) (fun j x hj => hx (j + 1) x hj)
            (fun j x hf => by
              have hne : ¬ F 0 x := fun h0 => by have := hd _ _ x hf h0; omega
              rw [how x hne]
              exact hF (j + 1) x hf) (fun j j' x h h' => by have := hd _ _ x h h'; omega) hz h2
          refine ⟨g', st1.trans i1, i2, by simp [i3], fun j y hj => ?_, fun x hf => ?_, i6⟩
          · cases j with
            | zero =>
              cases hj
              exact XOk.step i1 (x := .ref h R.gen) ⟨_, get_put_same _ _ _, Nat.le_refl _, fun _ _ => by simp [G.adopt]⟩
            | succ j => exact i4 j y hj
          · rw [i5 x fun j hj => hf (j + 1) (by simpa using hj)]
            exact how x (hf 0 (by simp))
        · cases e
  | [], _ :: _, _, _, _, _, _, _, _, _, _, _, _, _, e => by cases e
  | _ :: _, [], _, _, _, _, _, _, _, _, _, _, _, _, e => by cases e

theorem adVs_ok {w : World} : ∀ {tl : List (Option (Nat × Nat))} {cs : List C} {regs' : List (Nat × Reg)} {σ : List ((Nat × Nat) × X)} {g : G} {s : S} (us : Nat → Value) (F : Nat → Nat → Prop), Mem w0 A B g s w →
    (∀ (j h gn : Nat), tl[j]? = some (some (h, gn)) → ∃ n es, cs[j]? = some (.sl true n es) ∧ Own w (fun _ => False) (F j) (us j) (.sl true n es)) → (∀ j x, F j x → g.ow x = .none ∧ x < w.heap.size ∧ (A x ∨ w0.heap.size ≤ x)) → Inj F →
    adVs tl s.regs cs = some (σ, regs') →
    ∃ g', Step g s w g' { s with regs := regs' } w ∧ Mem w0 A B g' { s with regs := regs' } w ∧ (∀ h gn x, ((h, gn), x) ∈ σ → ∃ j, tl[j]? = some (some (h, gn)) ∧ XOk w g' regs' (us j) x) ∧
      (∀ x, (∀ j, ¬ F j x) → g'.ow x = g.ow x) ∧ g'.loc = g.loc
  | [], [], regs', σ, g, s, us, F, hm, hx, hF, hd, e => by
    cases e
    exact ⟨g, Step.refl g s w, hm, fun h gn x hm => (by cases hm), fun x _ => rfl, rfl⟩
  | none :: tl, c :: r, regs', σ, g, s, us, F, hm, hx, hF, hd, e => by
    obtain ⟨g', i1, i2, i3, i4, i5⟩ := adVs_ok (tl := tl) (fun j => us (j + 1)) (fun j => F (j + 1)) hm (fun j h gn hj => hx (j + 1) h gn hj) (fun j x h => hF (j + 1) x h) (fun j j' x h h' => by have := hd _ _ x h h'; omega) e
    refine ⟨g', i1, i2, fun h gn x hmem => ?_, fun x hf => i4 x fun j => hf (j + 1), i5⟩
    obtain ⟨j, q1, q2⟩ := i3 h gn x hmem
    exact ⟨j + 1, q1, q2⟩
  | some (h, gn) :: tl, c :: r, regs', σ, g, s, us, F, hm, hx, hF, hd, e => by
    obtain ⟨n, es, h1, h2⟩ := hx 0 h gn rfl
    cases h1
    simp only [adVs] at e
    split at e
    · rename_i σ1 regs1 e1
      cases e
      obtain ⟨e1', e2, e3, e4, e5, e6⟩ := newReg_es s.regs h true n es
      obtain ⟨st1, hm1⟩ := hm.adopt h (newReg s.regs h true n es) (F 0) (us 0) (fun x hx => hF 0 x hx) (by rw [e2, e3, e4]; exact h2) e5 (fun hp => e6 (hm.pl.2 h hp).1)
      have how : ∀ x, ¬ F 0 x → (g.adopt h (F 0) (us 0)).ow x = g.ow x := fun x hx => by simp [G.adopt, hx]
      obtain ⟨g', i1, i2, i3, i4, i5⟩ := adVs_ok (tl := tl) (s := { s with regs := put s.regs h (newReg s.regs h true n es) }) (fun j => us (j + 1)) (fun j => F (j + 1)) hm1 (fun j h gn hj => hx (j + 1) h gn hj)
        (fun j x hf => by
          have hne : ¬ F 0 x := fun h0 => by have := hd _ _ x hf h0; omega
          rw [how x hne]
          exact hF (j + 1) x hf) (fun j j' x h h' => by have := hd _ _ x h h'; omega) e1
      refine ⟨g', st1.trans i1, i2, fun h' gn' x hmem => ?_, fun x hf => ?_, i5⟩
      · cases hmem with
        | head => exact ⟨0, rfl, XOk.step i1 (x := .ref h (newReg s.regs h true n es).gen) ⟨_, get_put_same _ _ _, Nat.le_refl _, fun _ _ => by simp [G.adopt]⟩⟩
        | tail _ hmem =>
          obtain ⟨j, q1, q2⟩ := i3 h' gn' x hmem
          exact ⟨j + 1, q1, q2⟩
      · rw [i4 x fun j => hf (j + 1)]
        exact how x (hf 0)
    · cases e
  | [], _ :: _, _, _, _, _, _, _, _, _, _, _, e => by cases e
  | none :: _, [], _, _, _, _, _, _, _, _, _, _, e => by cases e
  | some _ :: _, [], _, _, _, _, _, _, _, _, _, _, e => by cases e

def UpsOk (w : World) (g : G) (regs : List (Nat × Reg)) (g0 : G) (s : S) (T : List Tg) (ups : List (Nat × Nat × List X)) (σ : List ((Nat × Nat) × X)) : Prop :=
  (∀ b off xs, get ups b = some (off, xs) → ∃ hs y bcs e, Tg.box b off hs ∈ T ∧ xs.length = hs.length ∧ get s.boxes b = some y ∧ off + xs.length ≤ y.cells.length ∧ w.heap[(g0.loc b).1]? = some (.cells bcs e (0, 0)) ∧ (g0.loc b).2 + off + xs.length ≤ bcs.size ∧
    ∀ (j : Nat) (x : X), xs[j]? = some x → ∃ u, bcs[(g0.loc b).2 + off + j]? = some u ∧ u.oneCell' = true ∧ XOk w g regs u x) ∧
  (∀ b off hs, Tg.box b off hs ∈ T → ∃ off xs, get ups b = some (off, xs)) ∧
  (∀ h gn x, ((h, gn), x) ∈ σ → ∃ r, get s.regs h = some r ∧ r.live = true ∧ r.gen = gn ∧ XOk w g regs (g0.val h) x)

theorem tgsW_ok {ln : Option (Option (Nat × Nat))} {w : World} {I : Nat → Prop} {g0 : G} {s0 : S} : ∀ {T : List Tg} {outs : List (List C)} {regs' : List (Nat × Reg)} {ups : List (Nat × Nat × List X)} {σ : List ((Nat × Nat) × X)} {g : G} {s : S} (H : Nat → Nat → Nat → Prop), Mem w0 A B g s w → LnIs g s.regs I ln →
    TgsOk w I g0 s0 T H outs → (∀ m j x, H m j x → g.ow x = .none ∧ x < w.heap.size ∧ (A x ∨ w0.heap.size ≤ x)) → (∀ m j m' j' x, H m j x → H m' j' x → m = m' ∧ j = j') → noDup (tBoxes T) = true →
    tgsW ln T outs s.regs = some (ups, σ, regs') →
    ∃ g', Step g s w g' { s with regs := regs' } w ∧ Mem w0 A B g' { s with regs := regs' } w ∧ UpsOk w g' regs' g0 s0 T ups σ ∧ (∀ x, (∀ m j, ¬ H m j x) → g'.ow x = g.ow x) ∧ g'.loc = g.loc
  | [], [], regs', ups, σ, g, s, H, hm, hl, hx, hF, hd, hn, e => by
    cases e
    exact ⟨g, Step.refl g s w, hm, ⟨fun b off xs h => (by cases h), fun b off hs h => (by cases h), fun h gn x hm => (by cases hm)⟩, fun x _ => rfl, rfl⟩
  | t :: ts, o :: os, regs', ups, σ, g, s, H, hm, hl, hx, hF, hd, hn, e => by
    obtain ⟨h0, hx⟩ := hx
    have tl : noDup (tBoxes ts) = true := by
      cases t with
      | box b' o' h' =>
        have hd' : (if memb (tBoxes ts) b' then false else noDup (tBoxes ts)) = true := hn
        split at hd'
        · cases hd'
        · exact hd'
      | val ts => exact hn
    cases t with
    | box b off hs =>
      simp only [tgsW] at e
      split at e
      · rename_i xs1 regs1 e1
        split at e
        · rename_i ups1 σ1 regs2 e2
          cases e
          obtain ⟨y, y1, y2, y3, bcs, el, y4, y5, y6⟩ := h0
          have hp : ∀ (j : Nat) (c : C), o[j]? = some c → ∃ u, bcs[(g0.loc b).2 + off + j]? = some u ∧ u.oneCell' = true ∧ POk w I (H 0 j) u c := y6
          have y5' : (g0.loc b).2 + off + o.length ≤ bcs.size := y5
          obtain ⟨g1, i1, i2, i3, i4, i5, i6⟩ := adXs_ok (fun j => bcs.getD ((g0.loc b).2 + off + j) undef) (H 0) hm hl (fun j c hj => by
            obtain ⟨u, hu, _, ho⟩ := hp j c hj
            have : bcs.getD ((g0.loc b).2 + off + j) undef = u := by simp [Array.getD_eq_getD_getElem?, hu]
            rw [this]
            exact ho) (fun j x h => hF 0 j x h) (fun j j' x h h' => (hd _ _ _ _ x h h').2) (fun h => by cases h) e1
          obtain ⟨g2, j1, j2, ⟨j3, j4, j5⟩, j6, j7⟩ := tgsW_ok (s := { s with regs := regs1 }) (fun m => H (m + 1)) i2 (hl.step i1) hx
            (fun m j x hf => ⟨by rw [i5 x fun j' _ h' => by have := (hd _ _ _ _ x hf h').1; omega]; exact (hF _ _ x hf).1, (hF _ _ x hf).2⟩)
            (fun m j m' j' x h h' => by have := hd _ _ _ _ x h h'; omega) tl e2
          refine ⟨g2, i1.trans j1, j2, ⟨fun c off' xs' h => ?_, fun c off' hs' h => ?_, j5⟩, fun x hf => ?_, j7.trans i6⟩
          · simp only [get] at h
            split at h
            · rename_i hbc
              subst hbc
              cases h
              refine ⟨hs, y, bcs, el, List.mem_cons_self .., by rw [i3, y3], y1, by rw [i3]; exact y2, y4, by rw [i3]; exact y5', fun j x hj => ?_⟩
              have hj' : j < o.length := by rw [← i3]; exact (List.getElem?_eq_some_iff.1 hj).1
              obtain ⟨u, hu, h1, _⟩ := hp j o[j] (List.getElem?_eq_getElem hj')
              have hxx := i4 j x hj
              have : bcs.getD ((g0.loc b).2 + off + j) undef = u := by simp [Array.getD_eq_getD_getElem?, hu]
              rw [this] at hxx
              exact ⟨u, hu, h1, hxx.step j1⟩
            · obtain ⟨hs', y', bcs', el', q1, q2⟩ := j3 c off' xs' h
              exact ⟨hs', y', bcs', el', List.mem_cons_of_mem _ q1, q2⟩
          · cases h with
            | head => exact ⟨off, xs1, by simp [get]⟩
            | tail _ h =>
              obtain ⟨o2, x2, q⟩ := j4 c off' hs' h
              simp only [get]
              split
              · exact ⟨_, _, rfl⟩
              · exact ⟨o2, x2, q⟩
          · rw [j6 x fun m j => hf (m + 1) j]
            exact i5 x fun j _ => hf 0 j
        · cases e
      · cases e
    | val tl0 =>
      simp only [tgsW] at e
      split at e
      · rename_i σ0 regs1 e1
        split at e
        · rename_i ups1 σ1 regs2 e2
          cases e
          have h0 : ∀ (j h gn : Nat), tl0[j]? = some (some (h, gn)) → ∃ r es, get s0.regs h = some r ∧ r.live = true ∧ r.gen = gn ∧ o[j]? = some (.sl true r.n es) ∧ Own w (fun _ => False) (H 0 j) (g0.val h) (.sl true r.n es) := h0
          let us : Nat → Value := fun j => match tl0[j]? with
            | some (some (h, _)) => g0.val h
            | _ => undef
          have hus : ∀ j h gn, tl0[j]? = some (some (h, gn)) → us j = g0.val h := fun j h gn hj => by simp only [us, hj]
          obtain ⟨g1, i1, i2, i3, i4, i5⟩ := adVs_ok us (H 0) hm (fun j h gn hj => by
            obtain ⟨r, es, _, _, _, q1, q2⟩ := h0 j h gn hj
            exact ⟨_, _, q1, by rw [hus j h gn hj]; exact q2⟩) (fun j x h => hF 0 j x h) (fun j j' x h h' => (hd _ _ _ _ x h h').2) e1
          obtain ⟨g2, j1, j2, ⟨j3, j4, j5⟩, j6, j7⟩ := tgsW_ok (s := { s with regs := regs1 }) (fun m => H (m + 1)) i2 (hl.step i1) hx
            (fun m j x hf => ⟨by rw [i4 x fun j' h' => by have := (hd _ _ _ _ x hf h').1; omega]; exact (hF _ _ x hf).1, (hF _ _ x hf).2⟩)
            (fun m j m' j' x h h' => by have := hd _ _ _ _ x h h'; omega) tl e2
          refine ⟨g2, i1.trans j1, j2, ⟨fun c off' xs' h => ?_, fun c off' hs' h => ?_, fun h gn x hmem => ?_⟩, fun x hf => ?_, j7.trans i5⟩
          · obtain ⟨hs', y', bcs', el', q1, q2⟩ := j3 c off' xs' h
            exact ⟨hs', y', bcs', el', List.mem_cons_of_mem _ q1, q2⟩
          · cases h with
            | tail _ h => exact j4 c off' hs' h
          · rcases List.mem_append.1 hmem with hmem | hmem
            · obtain ⟨j, q1, q2⟩ := i3 h gn x hmem
              obtain ⟨r, es, q3, q4, q5, _⟩ := h0 j h gn q1
              rw [hus j h gn q1] at q2
              exact ⟨r, q3, q4, q5, q2.step j1⟩
            · exact j5 h gn x hmem
          · rw [j6 x fun m j => hf (m + 1) j]
            exact i4 x fun j => hf 0 j
        · cases e
      · cases e
  | [], _ :: _, _, _, _, _, _, _, _, _, _, _, _, _, e => by cases e
  | _ :: _, [], _, _, _, _, _, _, _, _, _, _, _, _, e => by cases e

theorem resXs_ok {ln : Option (Option (Nat × Nat))} {st : Nat} {w : World} {I : Nat → Prop} : ∀ {xs : List RX} {h h' : Nat} {regs' : List (Nat × Reg)} {ys : List X} {g : G} {s : S} (us : Nat → Value) (F : Nat → Nat → Prop), Mem w0 A B g s w → LnIs g s.regs I ln →
    (ln = some none → ∀ x, I x → g.I x) →
    (∀ (j : Nat) (x : RX), xs[j]? = some x → RxOk w I (F j) (us j) x) → (∀ j x, F j x → g.ow x = .none ∧ x < w.heap.size ∧ (A x ∨ w0.heap.size ≤ x)) → (∀ j j' x, F j x → F j' x → j = j') →
    resXs ln st h s.regs xs = some (ys, regs', h') →
    ∃ g', Step g s w g' { s with regs := regs' } w ∧ Mem w0 A B g' { s with regs := regs' } w ∧ ys.length = xs.length ∧ (∀ (j : Nat) (y : X), ys[j]? = some y → XOk w g' regs' (us j) y) ∧
      (∀ x, g.ow x = .none → (∀ j, j < xs.length → ¬ F j x) → g'.ow x = .none) ∧ (ln = some none → ∀ x, I x → g'.I x)
  | [], h, h', regs', ys, g, s, us, F, hm, hl, hI, hx, hF, hd, e => by
    cases e
    exact ⟨g, Step.refl g s w, hm, rfl, fun j y hj => (by simp at hj), fun x hx _ => hx, hI⟩
  | .rd c :: r, h, h', regs', ys, g, s, us, F, hm, hl, hI, hx, hF, hd, e => by
    simp only [resXs] at e
    split at e
    · rename_i x0 h1
      split at e
      · rename_i xs1 regs1 h1' h2
        cases e
        obtain ⟨g', i1, i2, i3, i4, i5, i6⟩ := resXs_ok (fun j => us (j + 1)) (fun j => F (j + 1)) hm hl hI (fun j x hj => hx (j + 1) x hj) (fun j x h => hF (j + 1) x h) (fun j j' x h h' => by have := hd _ _ x h h'; omega) h2
        refine ⟨g', i1, i2, by simp [i3], fun j y hj => ?_, fun x hn hf => i5 x hn fun j hj => hf (j + 1) (by simpa using hj), i6⟩
        cases j with
        | zero =>
          cases hj
          have := lX_ok hl h1 (hx 0 _ rfl)
          exact XOk.step i1 this
        | succ j => exact i4 j y hj
      · cases e
    · cases e
  | .own pure n es :: r, h, h', regs', ys, g, s, us, F, hm, hl, hI, hx, hF, hd, e => by
    simp only [resXs] at e
    split at e
    · rename_i hp
      split at e
      · rename_i xs1 regs1 h1' h2
        cases e
        obtain ⟨e1, e2, e3, e4, e5, e6⟩ := newReg_es s.regs h pure n es
        have hO : Own w (if pure then fun _ => False else g.I) (F 0) (us 0) (.sl true n es) := by
          have h0 := hx 0 _ rfl
          have h0 : Own w (if pure then fun _ => False else I) (F 0) (us 0) (.sl true n es) := h0
          cases pure with
          | true => exact h0
          | false =>
            refine h0.frame (fun x hx' => ?_) (fun _ h => h) (fun _ _ => rfl) (fun _ _ => rfl)
            simp only [Bool.false_eq_true, if_false] at hp
            split at hp
            · exact hI rfl x hx'
            · cases hp
        obtain ⟨st1, hm1⟩ := hm.adopt h (newReg s.regs h pure n es) (F 0) (us 0) (fun x hx => hF 0 x hx) (by rw [e2, e3, e4]; exact hO) e5 (fun hp => e6 (hm.pl.2 h hp).1)
        have how : ∀ x, ¬ F 0 x → (g.adopt h (F 0) (us 0)).ow x = g.ow x := fun x hx => by simp [G.adopt, hx]
        obtain ⟨g', i1, i2, i3, i4, i5, i6⟩ := resXs_ok (s := { s with regs := put s.regs h (newReg s.regs h pure n es) }) (fun j => us (j + 1)) (fun j => F (j + 1)) hm1 (hl.step st1)
          (fun e x hx => (st1.im x (hI e x hx)).1) (fun j x hj => hx (j + 1) x hj)
          (fun j x hf => by
            have hne : ¬ F 0 x := fun h0 => by have := hd _ _ x hf h0; omega
            rw [how x hne]
            exact hF (j + 1) x hf) (fun j j' x h h' => by have := hd _ _ x h h'; omega) h2
        refine ⟨g', st1.trans i1, i2, by simp [i3], fun j y hj => ?_, fun x hn hf => i5 x ?_ fun j hj => hf (j + 1) (by simpa using hj), i6⟩
        · cases j with
          | zero =>
            cases hj
            refine XOk.step i1 (x := .ref h (newReg s.regs h pure n es).gen) ⟨_, get_put_same _ _ _, Nat.le_refl _, fun _ _ => by simp [G.adopt]⟩
          | succ j => exact i4 j y hj
        · rw [how x (hf 0 (by simp))]
          exact hn
      · cases e
    · cases e
  | .box cs :: r, h, h', regs', ys, g, s, us, F, hm, hl, hI, hx, hF, hd, e => by cases e

theorem resEs_ok {ln : Option (Option (Nat × Nat))} {st : Nat} {w : World} {I : Nat → Prop} : ∀ {rs : List RV} {h : Nat} {regs' : List (Nat × Reg)} {ps : List (Bool × List X)} {g : G} {s : S} (us : Nat → Value) (F : Nat → Nat → Nat → Prop), Mem w0 A B g s w → LnIs g s.regs I ln →
    (ln = some none → ∀ x, I x → g.I x) →
    (∀ (k : Nat) (r : RV), rs[k]? = some r → RvOk w I (F k) (us k) r) → (∀ k j x, F k j x → g.ow x = .none ∧ x < w.heap.size ∧ (A x ∨ w0.heap.size ≤ x)) → (∀ k j k' j' x, F k j x → F k' j' x → k = k' ∧ j = j') →
    resEs ln st h s.regs rs = some (ps, regs') →
    ∃ g', Step g s w g' { s with regs := regs' } w ∧ Mem w0 A B g' { s with regs := regs' } w ∧ ps.length = rs.length ∧ (∀ (k : Nat) (p : Bool × List X), ps[k]? = some p → ValsOk w g' regs' (us k) p.1 p.2)
  | [], h, regs', ps, g, s, us, F, hm, hl, hI, hx, hF, hd, e => by
    cases e
    exact ⟨g, Step.refl g s w, hm, rfl, fun j y hj => (by simp at hj)⟩
  | r :: rs, h, regs', ps, g, s, us, F, hm, hl, hI, hx, hF, hd, e => by
    simp only [resEs] at e
    split at e
    · rename_i xs1 regs1 h1 e1
      split at e
      · rename_i ps1 regs2 e2
        cases e
        have h0 := hx 0 r rfl
        obtain ⟨vs, v1, v2, v3⟩ : ∃ vs : Nat → Value, (∀ (j : Nat) (x : RX), r.xs[j]? = some x → RxOk w I (F 0 j) (vs j) x) ∧ (r.agg = false → ∃ x, r.xs = [x] ∧ us 0 = vs 0) ∧
            (r.agg = true → ∃ a, us 0 = .agg a ∧ a.size = r.xs.length ∧ ∀ j, j < r.xs.length → a[j]? = some (vs j)) := by
          unfold RvOk at h0
          split at h0
          · rename_i ha
            obtain ⟨x, e, hh⟩ := h0
            refine ⟨fun _ => us 0, fun j y hj => ?_, fun _ => ⟨x, e, rfl⟩, fun h => by rw [ha] at h; cases h⟩
            rw [e] at hj
            cases j with
            | zero => cases hj; exact hh
            | succ j => simp at hj
          · rename_i ha
            obtain ⟨a, e, ee, hh⟩ := h0
            refine ⟨fun j => a.getD j undef, fun j x hj => ?_, fun h => (by rw [ha] at h; cases h), fun _ => ⟨a, e, ee, fun j hj => ?_⟩⟩
            · obtain ⟨u, hu, ho⟩ := hh j x hj
              have : a.getD j undef = u := by simp [Array.getD_eq_getD_getElem?, hu]
              show RxOk w I (F 0 j) (a.getD j undef) x
              rw [this]
              exact ho
            · have : j < a.size := by omega
              simp [this]
        obtain ⟨g1, i1, i2, i3, i4, i5, i6⟩ := resXs_ok vs (F 0) hm hl hI v1 (fun j x h => hF 0 j x h) (fun j j' x h h' => (hd _ _ _ _ x h h').2) e1
        obtain ⟨g2, j1, j2, j3, j4⟩ := resEs_ok (s := { s with regs := regs1 }) (fun k => us (k + 1)) (fun k => F (k + 1)) i2 (hl.step i1) i6 (fun k r hk => hx (k + 1) r hk)
          (fun k j x hf => ⟨i5 x (hF _ _ x hf).1 fun j' _ h' => by have := (hd _ _ _ _ x hf h').1; omega, (hF _ _ x hf).2⟩)
          (fun k j k' j' x h h' => by have := hd _ _ _ _ x h h'; omega) e2
        refine ⟨g2, i1.trans j1, j2, by simp [j3], fun k p hk => ?_⟩
        cases k with
        | zero =>
          cases hk
          refine ValsOk.step (agg := r.agg) (xs := xs1) j1 ?_
          cases hagg : r.agg with
          | false =>
            obtain ⟨x, q1, q2⟩ := v2 hagg
            rw [q1] at i3
            cases xs1 with
            | nil => simp at i3
            | cons y t =>
              have : t = [] := by simpa using i3
              subst this
              refine ⟨y, rfl, ?_⟩
              rw [q2]
              exact i4 0 y rfl
          | true =>
            obtain ⟨a, q1, q2, q3⟩ := v3 hagg
            refine ⟨a, q1, by rw [q2, i3], fun j y hj => ⟨vs j, q3 j ?_, i4 j y hj⟩⟩
            rw [← i3]
            exact (List.getElem?_eq_some_iff.1 hj).1
        | succ k => exact j4 k p hk
      · cases e
    · cases e

end

end Go.Proofs.YtppfojiogappaaaDoor.V

set_option linter.unusedVariables false

set_option linter.unusedSimpArgs false

namespace Go.Proofs.YtppfojiogappaaaDoor.V

open Go Classical

theorem run_call_enter {P : Program} {a : Act} {w : World} {o : Oper} {f : FuncId} {fn : Func} {c : Code} {args : Array Operand} {ats : Array TypeId} (hop : o.op = .call { callee := .value (.func f), args, argTypes := ats })
    (hf : P.funcs[f]? = some fn) (hname : (fn.name == "runtime.NumGoroutine") = false) (hb : fn.body = some c) : (execOp a.eval o).run P w = .ok (.enter f (args.map a.eval)) w := by
  have h1 : ¬ fn.name = "runtime.NumGoroutine" := by simpa using hname
  unfold execOp
  simp [hop, resolve, Deferred.ofValue, invoke, callFunc, hf, h1, hb, Act.eval]

section

variable {P : Program} {w0 : World} {A : AA} {B : List (Nat × Nat × Nat)} {nt : Nat} {τ : Nat → Option TD}

def asIs (w : World) (p : Nat × Nat) (n : Nat) : List X :=
  (List.range n).map fun j => .sc ((w.cell? ⟨p.1, p.2 + j, none⟩).getD undef)

theorem asIs_len (w : World) (p : Nat × Nat) (n : Nat) : (asIs w p n).length = n := by simp [asIs]

theorem POk.rdOf {w : World} {I : Nat → Prop} {u : Value} {c : C} (h : POk w I (fun _ => False) u c) : Rd w I u c := by
  cases c with
  | sc v => exact h
  | any => exact h
  | sl own n es =>
    cases own with
    | false => exact h
    | true => exact (Own.rdOf h).frame (fun b hb => hb.elim False.elim False.elim) (fun b hb => hb.elim False.elim False.elim)

theorem look_mem : ∀ {σ : List ((Nat × Nat) × X)} {h gn : Nat} {x : X}, look σ h gn = some x → ((h, gn), x) ∈ σ
  | ((h', g'), y) :: r, h, gn, x, e => by
    simp only [look] at e
    split at e
    · rename_i h1
      split at e
      · rename_i h2
        subst h1
        subst h2
        cases e
        exact List.mem_cons_self ..
      · exact List.mem_cons_of_mem _ (look_mem e)
    · exact List.mem_cons_of_mem _ (look_mem e)

theorem rtC_at (σ : List ((Nat × Nat) × X)) (xs : List X) (j : Nat) : (rtC σ xs)[j]? = xs[j]?.map (rtX σ) := by
  unfold rtC
  split
  · cases xs[j]? with
    | none => rfl
    | some x => cases x <;> rfl
  · simp

theorem rtC_len (σ : List ((Nat × Nat) × X)) (xs : List X) : (rtC σ xs).length = xs.length := by
  unfold rtC
  split <;> simp

theorem rtE_nil (e : E) : rtE [] e = e := by
  cases e with
  | vals agg xs =>
    simp only [rtE]
    congr 1
    conv => rhs; rw [← List.map_id xs]
    refine List.map_congr_left fun x _ => ?_
    cases x <;> rfl
  | _ => rfl

theorem get_rtS (σ : List ((Nat × Nat) × X)) (l : List (Nat × E)) (d : Nat) : get (rtS σ l) d = (get l d).map (rtE σ) := by
  unfold rtS
  split
  · cases get l d with
    | none => rfl
    | some e => simp [rtE_nil]
  · rename_i h
    induction l with
    | nil => rfl
    | cons p r ih =>
      obtain ⟨k, v⟩ := p
      simp only [List.map_cons, get]
      split
      · rfl
      · exact ih

theorem Mem.boxesCongr {g : G} {S : V.S} {w : World} {bx : List (Nat × Box)} (hm : Mem w0 A B g S w) (h : ∀ b, get bx b = get S.boxes b) : Mem w0 A B g { S with boxes := bx } w :=
  ⟨hm.ext, hm.lt, hm.fr, hm.regs, fun b x hb => hm.boxes b x (by rw [← h]; exact hb), hm.im, ⟨fun c hc => by
    obtain ⟨h1, x, h2, h3⟩ := hm.pl.1 c hc
    exact ⟨h1, x, (h c).trans h2, h3⟩, hm.pl.2⟩⟩

theorem Step.boxesCongr {g g' : G} {S S' : V.S} {w w' : World} {bx : List (Nat × Box)} (hs : Step g S w g' S' w') (h : ∀ b, get bx b = get S'.boxes b) : Step g S w g' { S' with boxes := bx } w' :=
  ⟨hs.im, hs.rg, fun b x hb => by
    obtain ⟨x', h1, h2⟩ := hs.bo b x hb
    exact ⟨x', (h b).trans h1, h2⟩⟩

theorem tgsOk_at {w : World} {I : Nat → Prop} {g : G} {s : S} : ∀ {T : List Tg} {H : Nat → Nat → Nat → Prop} {outs : List (List C)}, TgsOk w I g s T H outs → ∀ {t : Tg}, t ∈ T → ∃ m o, TgOk w I g s (H m) t o
  | t :: ts, H, o :: os, h, t', ht => by
    cases ht with
    | head => exact ⟨0, o, h.1⟩
    | tail _ ht => obtain ⟨m, o', q⟩ := tgsOk_at h.2 ht; exact ⟨m + 1, o', q⟩
  | _ :: _, _, [], h, _, _ => h.elim

theorem lnOf_is {g g' : G} {s s' : S} {w w' : World} {l : List (Nat × Nat)} {I I' : Nat → Prop} (hlv : LiveL s' l) (hI : ∀ x, I' x → g'.ow x = .imm ∨ ∃ p ∈ l, g'.ow x = .reg p.1) : LnIs g' s'.regs I' (lnOf (pack l)) := by
  obtain ⟨hp1, hp2⟩ := pack_mem l
  intro ln e φ hφ h
  have key : ∀ x, I' x → g'.ow x = .imm ∨ ∃ q ∈ pack l, g'.ow x = .reg q.1 := fun x hx => (hI x hx).imp id fun ⟨p, hp, e⟩ => let ⟨q, hq, e'⟩ := hp2 p hp; ⟨q, hq, by rw [e', e]⟩
  cases hpl : pack l with
  | nil =>
    rw [hpl] at e key
    cases e
    exact hφ _ _ (fun x hx => (key x hx).elim id fun ⟨q, hq, _⟩ => (by cases hq)) h
  | cons p r =>
    rw [hpl] at e key hp1
    cases r with
    | cons q t => cases e
    | nil =>
      cases e
      obtain ⟨r, hr, hl, hv⟩ := hlv p (hp1 p (List.mem_cons_self ..))
      exact ⟨r, hr, by omega, fun _ _ => hφ _ _ (fun x hx => (key x hx).imp id fun ⟨q, hq, e⟩ => by rw [List.mem_singleton.1 hq] at e; exact e) h⟩

theorem isBox_some {rs : List RV} {cs : List C} (h : isBox rs = some cs) : rs = [⟨false, [.box cs]⟩] := by
  unfold isBox at h
  split at h
  · cases h; rfl
  · cases h

theorem box_back {s : S} {a : Act} {w w' : World} {g : G} {o : Oper} {k : S → Prop} {next : Act → World → Prop} {l : List (Nat × Nat)} {O : List Nat} {T : List Tg} {as : List AV} {Fs : List (Nat → Prop)} {vs : List Value} {v : Value} {rs : List RV} {us : Array Value} {I' : Nat → Prop} {G' : Bool → Nat → Nat → Nat → Prop} {cs : List C}
    (hdf : a.defers = []) (hsz : a.tmps.size = nt) (hm : Mem w0 A B g s w) (hs : SlotsOk g s nt a w) (hlv : LiveL s l) (haO : ∀ y, aOf as vs Fs y → ∃ h ∈ O, g.ow y = .reg h)
    (hbOf : ∀ p ∈ bOf as vs, ∃ b off hs, Tg.box b off hs ∈ T ∧ ∃ y, get s.boxes b = some y ∧ off + hs.length ≤ y.cells.length ∧ p = ((g.loc b).1, (g.loc b).2 + off, hs.length)) (hn : ∀ g' s' a' w', a'.defers = [] → a'.tmps.size = nt → Mem w0 A B g' s' w' → SlotsOk g' s' nt a' w' → Step g s w g' s' w' → (∃ v, a' = a.put o.dst v) → k s' → next a' w')
    (hex : Ext w ⟨aOf as vs Fs, fun _ => False, fun _ => False, fun _ => (0, 0), fun _ => False, fun _ => undef⟩ (bOf as vs) w') (hRet : RetOk rs us v) (hRv : ∀ (k : Nat) (r : RV), rs[k]? = some r → ∃ u, us[k]? = some u ∧ RvOk w' I' (G' false k) u r)
    (hI' : ∀ x, I' x → x < w'.heap.size ∧ (IL g l x ∨ aOf as vs Fs x ∨ w.heap.size ≤ x)) (hG : ∀ b k j x, G' b k j x → x < w'.heap.size ∧ (aOf as vs Fs x ∨ w.heap.size ≤ x) ∧ ¬ I' x) (hbox : isBox rs = some cs) (hret : retB nt o l O T cs s k) : next (a.put o.dst v) w' := by
  have hrs := isBox_some hbox
  subst hrs
  unfold retB at hret
  split at hret
  case h_2 => exact hret.elim
  have hA0 : ∀ x, ¬ aOf as vs Fs x := fun x hx => let ⟨c, hc, _⟩ := haO x hx; by cases hc
  have hB0 : ∀ p, ¬ p ∈ bOf as vs := fun p hp => let ⟨b, off, hs, hb, _⟩ := hbOf p hp; by cases hb
  have hmx := hm.ext
  have hold : ∀ x, x < w.heap.size → w'.heap[x]? = w.heap[x]? := fun x hx => hex.keep x hx (hA0 x) fun p hp => absurd hp (hB0 p)
  have hex' : Ext w0 A B w' := hmx.same hex.os hex.tape hex.output hex.size fun x hx _ => hold x (Nat.lt_of_lt_of_le hx hmx.size)
  obtain ⟨st1, hm1⟩ := hm.change [] (fun _ => False) hex' hex.size (fun x hx _ _ => hold x hx)
  have hm1 := hm1 (fun b x hb h => h.elim)
  obtain ⟨st2, hm2⟩ := hm1.share I' fun x hx => ⟨(hI' x hx).1, fun hn0 => by
    rcases (hI' x hx).2 with h | h | h
    · rcases h with h | ⟨p, hp, h⟩
      · rw [(release_imm g [] x).2 h] at hn0; cases hn0
      · rw [(release_reg g [] x p.1).2 ⟨h, rfl⟩] at hn0; cases hn0
    · exact absurd h (hA0 x)
    · exact .inr (.inr (Nat.le_trans hm.ext.size h))⟩
  have hst12 := st1.trans st2
  have himm : ∀ x, I' x → ((g.release []).share I').ow x = .imm ∨ ∃ p ∈ l, ((g.release []).share I').ow x = .reg p.1 := by
    intro x hx
    rcases (hI' x hx).2 with h | h | h
    · rcases h with h | ⟨p, hp, h⟩
      · exact .inl (st2.im x ((release_imm g [] x).2 h)).1
      · refine .inr ⟨p, hp, ?_⟩
        have h' : (g.release []).ow x = .reg p.1 := (release_reg g [] x p.1).2 ⟨h, rfl⟩
        rw [share_ne (by rw [h']; simp)]
        exact h'
    · exact absurd h (hA0 x)
    · refine .inl (share_imm.2 (.inr ⟨(release_none g [] x).2 (.inl ?_), hx⟩))
      by_cases h0 : g.ow x = .none
      · exact h0
      · have := hm.lt x h0
        omega
  have hkl : kill s.regs [] = s.regs := by
    unfold kill
    simp [memb]
  have hs0 : ({ s with regs := kill s.regs [] } : S) = s := by rw [hkl]
  rw [hs0] at st2 hm2 hst12
  have hln : LnIs ((g.release []).share I') s.regs I' (lnOf (pack l)) := lnOf_is (g := g) (s := s) (w := w) (w' := w') (I := I') (s' := s) hlv himm
  split at hret
  case h_2 => exact hret.elim
  rename_i xs hxs
  split at hret
  case h_2 => exact hret.elim
  rename_i d hd
  obtain ⟨u, hu, hv⟩ := hRv 0 _ rfl
  obtain ⟨x, ex, hx⟩ := hv
  cases ex
  obtain ⟨p, hup, hGp, bcs, e, r1, r2, r3⟩ := hx
  obtain ⟨g1, g2, g3⟩ := hG false 0 0 p.1 hGp
  have hfresh : w.heap.size ≤ p.1 := g2.resolve_left (hA0 _)
  obtain ⟨q1, q2⟩ := lXs_ok (w := w') hln hxs
  have hp0 : ((g.release []).share I').ow p.1 = .none := share_none ((release_none g [] p.1).2 (.inl (by
    by_cases h0 : g.ow p.1 = .none
    · exact h0
    · have := hm.lt _ h0
      omega))) g3
  obtain ⟨st3, hm3⟩ := hm2.adoptBox d p xs hp0 g1 (Nat.le_trans hm.ext.size hfresh) ⟨bcs, e, r1, by rw [q1]; exact r2, fun j y hj => by
    obtain ⟨c, hc, ho⟩ := q2 j y hj
    obtain ⟨u', hu', h1, h2⟩ := r3 j c hc
    exact ⟨u', hu', h1, ho u' (POk.rdOf h2)⟩⟩
  have hstF := hst12.trans st3
  have hvv : v = .pointer (some ⟨p.1, p.2, none⟩) := by
    obtain ⟨s1, s2⟩ := hRet
    have hs1 : us.size = 1 := by simpa using s1
    rw [dif_pos hs1] at s2
    have hu' : us[0]? = some us[0] := Array.getElem?_eq_getElem (by omega)
    rw [hu'] at hu
    cases hu
    rw [s2, hup]
  rw [hd]
  unfold putK at hret
  rw [hd] at hret
  simp only at hret
  split at hret
  · rename_i hlt
    have hslots := hs.step (S' := { s with boxes := put s.boxes d ⟨boxGen s.boxes d, xs⟩ }) hstF rfl
    refine hn _ { s with boxes := put s.boxes d ⟨boxGen s.boxes d, xs⟩, slots := put s.slots d (.bptr d (boxGen s.boxes d) 0) } _ _ ?_ ?_ ⟨hm3.ext, hm3.lt, hm3.fr, hm3.regs, hm3.boxes, hm3.im, hm3.pl⟩ (hslots.put hsz hlt ⟨_, get_put_same _ _ _, Nat.le_refl _, fun _ => by rw [hvv]; simp [G.takeBox]⟩) ⟨hstF.im, hstF.rg, hstF.bo⟩ ⟨v, by rw [hd]⟩ hret
    · simp [Act.put, hdf]
    · simp [Act.put, hsz]
  · exact hret.elim

theorem ret_back {s : S} {a : Act} {w w' : World} {g : G} {o : Oper} {k : S → Prop} {next : Act → World → Prop} {l : List (Nat × Nat)} {O : List Nat} {T : List Tg} {as : List AV} {Fs : List (Nat → Prop)} {xs : List Value} {v : Value} {rs : List RV} {outs : List (List C)} {us : Array Value} {I' : Nat → Prop} {G' : Bool → Nat → Nat → Nat → Prop}
    (hdf : a.defers = []) (hsz : a.tmps.size = nt) (hm : Mem w0 A B g s w) (hs : SlotsOk g s nt a w) (hlv : LiveL s l) (hdl : ∀ p ∈ l, memb O p.1 = false) (hnd : noDup (tBoxes T) = true) (haO : ∀ y, aOf as xs Fs y → ∃ h ∈ O, g.ow y = .reg h)
    (hbOf : ∀ p ∈ bOf as xs, ∃ b off hs, Tg.box b off hs ∈ T ∧ ∃ y, get s.boxes b = some y ∧ off + hs.length ≤ y.cells.length ∧ p = ((g.loc b).1, (g.loc b).2 + off, hs.length))
    (hbT : ∀ b off hs, Tg.box b off hs ∈ T → ∃ y, get s.boxes b = some y ∧ off + hs.length ≤ y.cells.length ∧ ((g.loc b).1, (g.loc b).2 + off, hs.length) ∈ bOf as xs) (hn : ∀ g' s' a' w', a'.defers = [] → a'.tmps.size = nt → Mem w0 A B g' s' w' → SlotsOk g' s' nt a' w' → Step g s w g' s' w' → (∃ v, a' = a.put o.dst v) → k s' → next a' w')
    (hex : Ext w ⟨aOf as xs Fs, fun _ => False, fun _ => False, fun _ => (0, 0), fun _ => False, fun _ => undef⟩ (bOf as xs) w') (hRet : RetOk rs us v) (hRv : ∀ (k : Nat) (r : RV), rs[k]? = some r → ∃ u, us[k]? = some u ∧ RvOk w' I' (G' false k) u r)
    (hI' : ∀ x, I' x → x < w'.heap.size ∧ (IL g l x ∨ (∃ c ∈ O, g.ow x = .reg c) ∨ w.heap.size ≤ x)) (hG : ∀ b k j x, G' b k j x → x < w'.heap.size ∧ (aOf as xs Fs x ∨ w.heap.size ≤ x) ∧ ¬ I' x)
    (hGd : ∀ b k j b' k' j' x, G' b k j x → G' b' k' j' x → b = b' ∧ k = k' ∧ j = j') (hbo : TgsOk w' I' g s T (G' true) outs) (hret : retW nt o l O T rs outs s k) : next (a.put o.dst v) w' := by
  unfold retW at hret
  split at hret
  case h_2 => exact hret.elim
  rename_i ups σ regs1 hups
  split at hret
  case h_2 => exact hret.elim
  rename_i ps regs' hres
  have hA : ∀ x, aOf as xs Fs x → A x ∨ w0.heap.size ≤ x := fun x hx => let ⟨c, _, e⟩ := haO x hx; hm.fr x c e
  have hA2 : ∀ x, (∃ c ∈ O, g.ow x = .reg c) → A x ∨ w0.heap.size ≤ x := fun x ⟨c, _, e⟩ => hm.fr x c e
  have hex' : Ext w0 A B w' := by
    have hmx := hm.ext
    refine ⟨hex.os.trans hmx.os, hex.tape.trans hmx.tape, hex.output.trans hmx.output, Nat.le_trans hmx.size hex.size, fun x hx hA' hB => ?_, fun p hp hA' cs e fr hc => ?_⟩
    · refine (hex.keep x (Nat.lt_of_lt_of_le hx hmx.size) (fun h => ?_) fun p hp e => ?_).trans (hmx.keep x hx hA' hB)
      · rcases hA x h with h | h
        · exact hA' h
        · omega
      · obtain ⟨b, off, hs', hb, y, hy, hle, rfl⟩ := hbOf p hp
        rcases (hm.boxes b y hy).2.1 with h | h
        · have e' : (g.loc b).1 = x := e
          omega
        · exact hB _ h e
    · obtain ⟨cs', h1, h2, h3⟩ := hmx.rng p hp hA' cs e fr hc
      have hlt : p.1 < w0.heap.size := (Array.getElem?_eq_some_iff.1 hc).1
      have hA'' : ¬ aOf as xs Fs p.1 := fun h => by
        rcases hA _ h with h | h
        · exact hA' h
        · omega
      by_cases hin : ∃ q ∈ bOf as xs, q.1 = p.1
      · obtain ⟨q, hq, hqp⟩ := hin
        obtain ⟨cs2, h4, h5, h6⟩ := hex.rng q hq (by rw [hqp]; exact hA'') cs' e fr (by rw [hqp]; exact h1)
        rw [hqp] at h4
        refine ⟨cs2, h4, h5.trans h2, fun i hi => (h6 i fun r hr hrq => ?_).trans (h3 i hi)⟩
        obtain ⟨b, off, hs', hb, y, hy, hle, rfl⟩ := hbOf r hr
        rcases (hm.boxes b y hy).2.1 with h | h
        · have e' : (g.loc b).1 = p.1 := (show (g.loc b).1 = q.1 from hrq).trans hqp
          omega
        · have := hi _ h ((show (g.loc b).1 = q.1 from hrq).trans hqp)
          simp only at this ⊢
          omega
      · have := hex.keep p.1 (Nat.lt_of_lt_of_le hlt hmx.size) hA'' fun q hq e => hin ⟨q, hq, e⟩
        exact ⟨cs', this.trans h1, h2, h3⟩
  have hold : ∀ x, x < w.heap.size → (∀ k, memb O k = true → g.ow x ≠ .reg k) → (∀ b, b ∈ tBoxes T → x ≠ (g.loc b).1) → w'.heap[x]? = w.heap[x]? := fun x hx h1 h2 =>
    hex.keep x hx (fun h => let ⟨c, hc, e⟩ := haO x h; h1 c (memb_mem.2 hc) e) fun p hp e => by
      obtain ⟨b, off, hs', hb, y, hy, _, rfl⟩ := hbOf p hp
      exact h2 b (tBoxes_mem hb) e.symm
  have hbox : ∀ b off hs', Tg.box b off hs' ∈ T → ∀ y, get s.boxes b = some y → ∃ cs' e, w'.heap[(g.loc b).1]? = some (.cells cs' e (0, 0)) ∧ (g.loc b).2 + y.cells.length ≤ cs'.size ∧
      (∀ j, j < y.cells.length → ∃ u, cs'[(g.loc b).2 + j]? = some u ∧ u.oneCell' = true) ∧ ∀ (j : Nat) (x : X), (j < off ∨ off + hs'.length ≤ j) → y.cells[j]? = some x → ∃ u, cs'[(g.loc b).2 + j]? = some u ∧ u.oneCell' = true ∧ XOk w g s.regs u x := by
    intro b off hs' hb y hy
    obtain ⟨t1, t2, bcs, e, t3, t4, t5⟩ := hm.boxes b y hy
    obtain ⟨y', hy', hle, hbin⟩ := hbT b off hs' hb
    rw [hy] at hy'
    cases hy'
    have hnA : ¬ aOf as xs Fs (g.loc b).1 := fun h => by
      obtain ⟨c, _, e⟩ := haO _ h
      rw [t1] at e
      cases e
    obtain ⟨cs', r1, r2, r3⟩ := hex.rng _ hbin hnA bcs e (0, 0) t3
    have hout : ∀ j, (j < off ∨ off + hs'.length ≤ j) → cs'[(g.loc b).2 + j]? = bcs[(g.loc b).2 + j]? := fun j hj => r3 _ fun q hq hqe => by
      obtain ⟨b2, off2, hs2, hb2, y2, hy2, _, rfl⟩ := hbOf q hq
      have e1 : (g.loc b2).1 = (g.loc b).1 := hqe
      have e2 := (hm.boxes b2 y2 hy2).1
      rw [e1, t1] at e2
      cases e2
      obtain ⟨e3, e4⟩ := tBoxes_one hnd hb hb2
      subst e3
      subst e4
      simp only
      omega
    obtain ⟨m, oo, y3, q1, q2, q3, q4⟩ := tgsOk_at hbo hb
    rw [hy] at q1
    cases q1
    obtain ⟨bcs2, el2, q5, q6, q7⟩ := q4
    have q5' : w'.heap[(g.loc b).1]? = some (.cells bcs2 el2 (0, 0)) := q5
    rw [r1] at q5'
    cases q5'
    have hcell : ∀ j, j < y.cells.length → ∃ u, cs'[(g.loc b).2 + j]? = some u ∧ u.oneCell' = true := by
      intro j hj
      by_cases hin : off ≤ j ∧ j < off + hs'.length
      · have hj' : j - off < oo.length := by omega
        obtain ⟨u, hu, h1, _⟩ := q7 (j - off) oo[j - off] (List.getElem?_eq_getElem hj')
        have e : (g.loc b).2 + off + (j - off) = (g.loc b).2 + j := by omega
        simp only at hu
        rw [e] at hu
        exact ⟨u, hu, h1⟩
      · obtain ⟨u, hu, h1, _⟩ := t5 j y.cells[j] (List.getElem?_eq_getElem hj)
        exact ⟨u, by rw [hout j (by omega)]; exact hu, h1⟩
    refine ⟨cs', e, r1, by rw [r2]; exact t4, hcell, fun j x hj hx => ?_⟩
    obtain ⟨u, hu, h1, ho⟩ := t5 j x hx
    exact ⟨u, by rw [hout j hj]; exact hu, h1, ho⟩
  let f1 : Nat → Box → Box := fun b x => if b ∈ tBoxes T then { x with cells := asIs w' (g.loc b) x.cells.length } else x
  obtain ⟨st1, hm1⟩ := hm.turn O (fun b => b ∈ tBoxes T) f1 (fun b x => by simp only [f1]; split <;> rfl) (fun b x hb => by simp only [f1]; rw [if_neg hb]) hex' hex.size hold (fun b x hb hbx => by
    obtain ⟨off, hs', ht⟩ := tBoxes_inv hbx
    obtain ⟨cs', e, r1, r2, r3, _⟩ := hbox b off hs' ht x hb
    have : (f1 b x).cells = asIs w' (g.loc b) x.cells.length := by simp only [f1]; rw [if_pos hbx]
    rw [this]
    obtain ⟨t1, t2, _⟩ := hm.boxes b x hb
    refine ⟨(release_box g O _ b).2 t1, by rw [asIs_len]; exact t2, cs', e, r1, by rw [asIs_len]; exact r2, fun j y hj => ?_⟩
    have hj' : j < x.cells.length := by have := (List.getElem?_eq_some_iff.1 hj).1; rwa [asIs_len] at this
    obtain ⟨u, hu, h1⟩ := r3 j hj'
    refine ⟨u, hu, h1, ?_⟩
    simp only [asIs, List.getElem?_map, List.getElem?_range hj', Option.map_some, Option.some.injEq] at hj
    subst hj
    show u = _
    rw [cell_of r1, hu]
    rfl) (fun b hb => by
      obtain ⟨off, hs', ht⟩ := tBoxes_inv hb
      obtain ⟨y, hy, _⟩ := hbT b off hs' ht
      exact ⟨y, hy⟩)
  obtain ⟨st2, hm2⟩ := hm1.share I' fun x hx => ⟨(hI' x hx).1, fun hn0 => by
    rcases (hI' x hx).2 with h | h | h
    · rcases h with h | ⟨p, hp, h⟩
      · rw [(release_imm g O x).2 h] at hn0; cases hn0
      · rw [(release_reg g O x p.1).2 ⟨h, hdl p hp⟩] at hn0; cases hn0
    · exact .inr (hA2 x h)
    · exact .inr (.inr (Nat.le_trans hm.ext.size h))⟩
  let g2 := (g.release O).share I'
  have hst12 := st1.trans st2
  have himm : ∀ x, I' x → g2.ow x = .imm ∨ ∃ p ∈ l, g2.ow x = .reg p.1 := by
    intro x hx
    rcases (hI' x hx).2 with h | h | h
    · rcases h with h | ⟨p, hp, h⟩
      · exact .inl (st2.im x ((release_imm g O x).2 h)).1
      · refine .inr ⟨p, hp, ?_⟩
        have h' : (g.release O).ow x = .reg p.1 := (release_reg g O x p.1).2 ⟨h, hdl p hp⟩
        show ((g.release O).share I').ow x = .reg p.1
        rw [share_ne (by rw [h']; simp)]
        exact h'
    · obtain ⟨c, hc, e⟩ := h
      exact .inl (share_imm.2 (.inr ⟨(release_none g O x).2 (.inr ⟨c, e, memb_mem.2 hc⟩), hx⟩))
    · refine .inl (share_imm.2 (.inr ⟨(release_none g O x).2 (.inl ?_), hx⟩))
      by_cases h0 : g.ow x = .none
      · exact h0
      · have := hm.lt x h0
        omega
  have hlv' : ∀ p ∈ l, ∃ r, get (kill s.regs O) p.1 = some r ∧ r.live = true ∧ r.iv = p.2 := fun p hp => by
    obtain ⟨r, h1, h2, h3⟩ := hlv p hp
    exact ⟨r, by simp [get_kill, h1, hdl p hp], h2, h3⟩
  let s2 : S := { s with regs := kill s.regs O, boxes := mapB s.boxes f1 }
  have hln : LnIs g2 s2.regs I' (lnOf (pack l)) := lnOf_is (g := g) (s := s) (w := w) (w' := w') (I := I') (s' := s2) hlv' himm
  have hgn : ∀ b k j x, G' b k j x → g2.ow x = .none ∧ x < w'.heap.size ∧ (A x ∨ w0.heap.size ≤ x) := fun b k j x hx => by
    obtain ⟨h1, h2, h3⟩ := hG b k j x hx
    refine ⟨share_none ((release_none g O x).2 ?_) h3, h1, ?_⟩
    · rcases h2 with h | h
      · obtain ⟨c, hc, e⟩ := haO x h
        exact .inr ⟨c, e, memb_mem.2 hc⟩
      · refine .inl ?_
        by_cases h0 : g.ow x = .none
        · exact h0
        · have := hm.lt x h0
          omega
    · rcases h2 with h | h
      · exact hA x h
      · exact .inr (Nat.le_trans hm.ext.size h)
  obtain ⟨g3, st3, hm3, ⟨hu1, hu2, hu3⟩, hg3, hl3⟩ := tgsW_ok (s := s2) (G' true) hm2 hln hbo (fun m j x h => hgn true m j x h) (fun m j m' j' x h h' => (hGd _ _ _ _ _ _ x h h').2) hnd hups
  have hloc3 : g3.loc = g.loc := hl3
  have hst3 := hst12.trans st3
  let s3 : S := { s2 with regs := regs1 }
  have hrt : ∀ u x, XOk w g s.regs u x → XOk w' g3 regs1 u (rtX σ x) := by
    intro u x hx
    have old : XOk w' g3 regs1 u x := XOk.step hst3 hx
    cases x with
    | ref h gn =>
      simp only [rtX]
      split
      · rename_i y hy
        obtain ⟨r, q1, q2, q3, q4⟩ := hu3 h gn y (look_mem hy)
        obtain ⟨r', q5, q6, q7⟩ := hx
        rw [q1] at q5
        cases q5
        rw [q7 q2 q3.symm]
        exact q4
      · exact old
    | _ => exact old
  have htag : ∀ b y, get s.boxes b = some y → g3.ow (g.loc b).1 = .box b := fun b y hy => by
    have t1 := (hm.boxes b y hy).1
    have t2 : g2.ow (g.loc b).1 = .box b := by
      have h5 := (release_box g O (g.loc b).1 b).2 t1
      show ((g.release O).share I').ow (g.loc b).1 = .box b
      rw [share_ne (by rw [h5]; simp)]
      exact h5
    rw [hg3 _ fun m j h => by have := (hgn true m j _ h).1; rw [t2] at this; cases this]
    exact t2
  let fin : Nat → Box → List X := fun b y => match get ups b with
    | some (off, xs) => splX (rtC σ y.cells) off xs
    | none => rtC σ y.cells
  let f2 : Nat → Box → Box := fun b x => match get s.boxes b with
    | some y => { x with cells := fin b y }
    | none => x
  obtain ⟨st4, hm4⟩ := hm3.retell f2 (fun b x => by simp only [f2]; split <;> rfl) (fun b x hb => by
    have hb : get (mapB s.boxes f1) b = some x := hb
    simp only [get_mapB] at hb
    cases hy : get s.boxes b with
    | none => rw [hy] at hb; cases hb
    | some y =>
      have e2 : (f2 b x).cells = fin b y := by simp only [f2, hy]
      rw [e2]
      obtain ⟨t1, t2, bcs, e, t3, t4, t5⟩ := hm.boxes b y hy
      unfold BoxOk
      rw [hloc3]
      cases hup : get ups b with
      | none =>
        have e3 : fin b y = rtC σ y.cells := by simp only [fin, hup]
        rw [e3, rtC_len]
        have hnb : ¬ b ∈ tBoxes T := fun h => by
          obtain ⟨off, hs', ht⟩ := tBoxes_inv h
          obtain ⟨o2, x2, q⟩ := hu2 b off hs' ht
          rw [hup] at q
          cases q
        have hsame : w'.heap[(g.loc b).1]? = w.heap[(g.loc b).1]? := hold _ (hm.lt _ (by rw [t1]; simp)) (fun k _ => by rw [t1]; simp) fun c hc ec => by
          obtain ⟨off, hs', ht⟩ := tBoxes_inv hc
          obtain ⟨y', hy', _⟩ := hbT c off hs' ht
          have := (hm.boxes c y' hy').1
          rw [← ec, t1] at this
          cases this
          exact hnb hc
        refine ⟨htag b y hy, t2, bcs, e, hsame.trans t3, t4, fun j x' hj => ?_⟩
        rw [rtC_at] at hj
        cases hyj : y.cells[j]? with
        | none => rw [hyj] at hj; cases hj
        | some x0 =>
          rw [hyj] at hj
          cases hj
          obtain ⟨u, hu, h1, ho⟩ := t5 j x0 hyj
          exact ⟨u, hu, h1, hrt u x0 ho⟩
      | some p =>
        obtain ⟨off, xs'⟩ := p
        obtain ⟨hs', y', bcs', e', q1, q2, q3, q4, q5, q6, q7⟩ := hu1 b off xs' hup
        rw [hy] at q3
        cases q3
        have e3 : fin b y = splX (rtC σ y.cells) off xs' := by simp only [fin, hup]
        have hlen : (splX (rtC σ y.cells) off xs').length = y.cells.length := by rw [splX_len _ _ _ (by rw [rtC_len]; exact q4), rtC_len]
        rw [e3, hlen]
        obtain ⟨cs', el, r1, r2, r3, r4⟩ := hbox b off hs' q1 y hy
        rw [r1] at q5
        cases q5
        refine ⟨htag b y hy, t2, _, _, r1, r2, fun j x' hj => ?_⟩
        by_cases hin : off ≤ j ∧ j < off + xs'.length
        · have hj2 := splX_in (rtC σ y.cells) off xs' (by rw [rtC_len]; exact q4) (j - off) (by omega)
          rw [show off + (j - off) = j by omega] at hj2
          rw [hj2] at hj
          obtain ⟨u, hu, h1, ho⟩ := q7 (j - off) x' hj
          rw [show (g.loc b).2 + off + (j - off) = (g.loc b).2 + j by omega] at hu
          exact ⟨u, hu, h1, ho⟩
        · rw [splX_out (rtC σ y.cells) off xs' (by rw [rtC_len]; exact q4) j (by omega), rtC_at] at hj
          cases hyj : y.cells[j]? with
          | none => rw [hyj] at hj; cases hj
          | some x0 =>
            rw [hyj] at hj
            cases hj
            obtain ⟨u, hu, h1, ho⟩ := r4 j x0 (by omega) hyj
            exact ⟨u, hu, h1, hrt u x0 ho⟩)
  have hst4 := hst3.trans st4
  have hbx : ∀ b, get (upB ups σ s.boxes) b = get (mapB (mapB s.boxes f1) f2) b := by
    intro b
    simp only [upB, get_mapB]
    cases hy : get s.boxes b with
    | none => rfl
    | some y =>
      simp only [Option.map_some, Option.some.injEq, f2, hy, fin]
      have hg : (f1 b y).gen = y.gen := by simp only [f1]; split <;> rfl
      rw [hg]
      cases get ups b <;> rfl
  let s4 : S := { s3 with boxes := upB ups σ s.boxes }
  have hm4' : Mem w0 A B g3 s4 w' := hm4.boxesCongr hbx
  have hst4' : Step g s w g3 s4 w' := hst4.boxesCongr hbx
  have hln0 : lnOf (pack l) = some none → ∀ x, I' x → g3.I x := fun e x hx => by
    have : g2.I x := by
      rcases himm x hx with h | ⟨p, hp, h⟩
      · exact h
      · have hq := (pack_mem l).2 p hp
        cases hpl : pack l with
        | nil => rw [hpl] at hq; obtain ⟨q, hq, _⟩ := hq; cases hq
        | cons p r =>
          rw [hpl] at e
          cases r with
          | nil => cases e
          | cons _ _ => cases e
    exact (st3.im x this).1
  obtain ⟨g5, st5, hm5, hpl, hps⟩ := resEs_ok (s := s4) (fun k => us.getD k undef) (G' false) hm4' (show LnIs g3 regs1 I' (lnOf (pack l)) from hln.step st3) hln0 (fun k r hk => by
    obtain ⟨u, hu, hv⟩ := hRv k r hk
    have : us.getD k undef = u := by simp [Array.getD_eq_getD_getElem?, hu]
    rw [this]
    exact hv) (fun k j x hx => ⟨by rw [hg3 x fun m j' h => by have := (hGd _ _ _ _ _ _ x h hx).1; cases this]; exact (hgn false k j x hx).1, (hgn false k j x hx).2⟩) (fun k j k' j' x h h' => (hGd _ _ _ _ _ _ x h h').2) hres
  have hstF := hst4'.trans st5
  let sF : S := ⟨rtS σ s.slots, upB ups σ s.boxes, regs'⟩
  have hm5' : Mem w0 A B g5 sF w' := ⟨hm5.ext, hm5.lt, hm5.fr, hm5.regs, hm5.boxes, hm5.im, hm5.pl⟩
  have hslots : SlotsOk g5 sF nt a w' := by
    intro d e hd
    have hd : get (rtS σ s.slots) d = some e := hd
    rw [get_rtS] at hd
    cases he : get s.slots d with
    | none => rw [he] at hd; cases hd
    | some e0 =>
      rw [he] at hd
      simp only [Option.map_some, Option.some.injEq] at hd
      subst hd
      obtain ⟨q1, q2⟩ := hs d e0 he
      refine ⟨q1, ?_⟩
      have old : EOk w' g5 sF.boxes sF.regs (a.tmps.getD d undef) e0 := q2.step (S' := { s4 with regs := regs' }) hstF
      have hrt5 : ∀ u x, XOk w g s.regs u x → XOk w' g5 regs' u (rtX σ x) := fun u x hx => XOk.step st5 (hrt u x hx)
      cases e0 with
      | vals agg xs0 =>
        show ValsOk w' g5 regs' _ agg (xs0.map (rtX σ))
        have q2 : ValsOk w g s.regs (a.tmps.getD d undef) agg xs0 := q2
        cases agg with
        | false =>
          obtain ⟨x, e, ho⟩ := q2
          subst e
          exact ⟨_, rfl, hrt5 _ _ ho⟩
        | true =>
          obtain ⟨us0, e, h1, h2⟩ := q2
          refine ⟨us0, e, by simp [h1], fun j x hj => ?_⟩
          simp only [List.getElem?_map] at hj
          cases hx0 : xs0[j]? with
          | none => rw [hx0] at hj; cases hj
          | some x0 =>
            rw [hx0] at hj
            cases hj
            obtain ⟨u, hu, ho⟩ := h2 j x0 hx0
            exact ⟨u, hu, hrt5 u x0 ho⟩
      | _ => exact old
  have hev : EOk w' g5 sF.boxes sF.regs v (oneE ps) := by
    obtain ⟨r1, r2⟩ := hRet
    have hus : ps.length = us.size := by rw [hpl, r1]
    unfold oneE
    split
    · rename_i p
      have h1 : us.size = 1 := by rw [← hus]; rfl
      rw [dif_pos h1] at r2
      have := hps 0 p rfl
      have e : us.getD 0 undef = us[0] := by simp [Array.getD_eq_getD_getElem?, h1]
      rw [e, ← r2] at this
      exact this
    · rename_i h1
      have h1' : us.size ≠ 1 := fun h => by
        rw [h] at hus
        obtain ⟨p, hp⟩ : ∃ p, ps = [p] := by
          cases ps with
          | nil => simp at hus
          | cons p r =>
            have : r = [] := by simpa using hus
            exact ⟨p, by rw [this]⟩
        exact h1 p hp
      rw [dif_neg h1'] at r2
      refine ⟨us, r2, hus.symm, fun k p hk => ⟨us.getD k undef, ?_, hps k p hk⟩⟩
      have : k < us.size := by rw [← hus]; exact (List.getElem?_eq_some_iff.1 hk).1
      simp [this]
  split at hret
  · rename_i d hd
    rw [hd]
    unfold putK at hret
    rw [hd] at hret
    simp only at hret
    split at hret
    · rename_i hlt
      refine hn g5 { sF with slots := put sF.slots d (oneE ps) } _ _ ?_ ?_ ⟨hm5'.ext, hm5'.lt, hm5'.fr, hm5'.regs, hm5'.boxes, hm5'.im, hm5'.pl⟩ (hslots.put hsz hlt hev) ⟨hstF.im, hstF.rg, hstF.bo⟩ ⟨v, by rw [hd]⟩ hret
      · simp [Act.put, hdf]
      · simp [Act.put, hsz]
    · exact hret.elim
  · rename_i hd
    rw [hd]
    exact hn g5 sF _ _ hdf hsz hm5' hslots ⟨hstF.im, hstF.rg, hstF.bo⟩ ⟨v, by rw [hd]⟩ hret

theorem call_core {o : Oper} {f : Nat} {ms : List Mode} {es : List (Option E)} {vs : List Value} {s : S} {a : Act} {w : World} {g : G} {k : S → Prop} {next : Act → World → Prop} {Q : Exit → Act → World → Prop} (hdf : a.defers = []) (hsz : a.tmps.size = nt) (hm : Mem w0 A B g s w) (hs : SlotsOk g s nt a w) (hE : EsOk w g s es vs)
    (hrun : ∀ fn c, P.funcs[f]? = some fn → (fn.name == "runtime.NumGoroutine") = false → fn.body = some c → (execOp a.eval o).run P w = .ok (.enter f vs.toArray) w)
    (hW : callE P nt o f ms es s k) (hn : ∀ g' s' a' w', a'.defers = [] → a'.tmps.size = nt → Mem w0 A B g' s' w' → SlotsOk g' s' nt a' w' → Step g s w g' s' w' → (∃ v, a' = a.put o.dst v) → k s' → next a' w') : o.wp P a w next Q := by
  obtain ⟨l, O, T, as, Fs, hW, hlv, hargs, hwho, hap, haO, hbOf, hbT, houts⟩ := args_ok hm hE hW
  split at hW
  case h_2 => exact hW.elim
  rename_i hdO
  split at hW
  case h_2 => exact hW.elim
  rename_i hdB
  split at hW
  case h_2 => exact hW.elim
  rename_i hdl
  have hdl := apartL_spec hdl
  rw [FnV_eq] at hW
  obtain ⟨⟨fn, c, hf1, hf2, hf3⟩, hW⟩ := hW
  unfold Oper.wp
  rw [hrun fn c hf1 hf2 hf3]
  have hcall := hW w (IL g l) Fs vs (hargs hdO _ fun _ h => h) (hap hdO hdB) (fun F hF x hx => by
    rcases hwho F hF x hx with ⟨c, hc, e⟩ | ⟨b, hb, e, _⟩
    · refine ⟨?_, hm.lt x (by rw [e]; simp)⟩
      rintro (h | ⟨p, hp, h⟩)
      · rw [e] at h; cases h
      · rw [e] at h
        cases h
        have := hdl p hp
        rw [memb_mem.2 hc] at this
        cases this
    · refine ⟨?_, hm.lt x (by rw [e]; simp)⟩
      rintro (h | ⟨p, hp, h⟩)
      · rw [e] at h; cases h
      · rw [e] at h; cases h) (fun x hx => hm.lt x (by rcases hx with h | ⟨p, _, h⟩ <;> rw [h] <;> simp))
  show Calls P f vs.toArray w _
  refine hcall.mono ?_
  rintro e w' ⟨v, rs, outs, rfl, hret, hback⟩
  show next (a.put o.dst v) w'
  obtain ⟨hex, us, I', G', hRet, hRv, hOuts, hI', hG, hGd⟩ := hback
  have hbo := houts w' I' _ outs hOuts
  unfold retWB at hret
  split at hret
  · rename_i csB hbox
    exact box_back hdf hsz hm hs hlv haO hbOf hn hex hRet hRv hI' hG hbox hret
  have hI2 : ∀ x, I' x → x < w'.heap.size ∧ (IL g l x ∨ (∃ c ∈ O, g.ow x = .reg c) ∨ w.heap.size ≤ x) := fun x hx => ⟨(hI' x hx).1, (hI' x hx).2.imp id (Or.imp (haO x) id)⟩
  have main : retW nt o l O T rs outs s k → next (a.put o.dst v) w' := fun hret => ret_back hdf hsz hm hs hlv hdl hdB haO hbOf hbT hn hex hRet hRv hI2 hG hGd hbo hret
  have given : retW nt o [] (O ++ l.map (·.1)) T rs outs s k → next (a.put o.dst v) w' := fun hret => by
    refine ret_back (l := []) (O := O ++ l.map (·.1)) hdf hsz hm hs (fun p hp => by cases hp) (fun p hp => by cases hp) hdB (fun y hy => ?_) hbOf hbT hn hex hRet hRv (fun x hx => ⟨(hI' x hx).1, ?_⟩) hG hGd hbo hret
    · obtain ⟨h, hh, e⟩ := haO y hy
      exact ⟨h, List.mem_append.2 (.inl hh), e⟩
    · rcases (hI2 x hx).2 with h | ⟨c, hc, e⟩ | h
      · rcases h with h | ⟨p, hp, h⟩
        · exact .inl (.inl h)
        · exact .inr (.inl ⟨p.1, List.mem_append.2 (.inr (List.mem_map_of_mem hp)), h⟩)
      · exact .inr (.inl ⟨c, List.mem_append.2 (.inl hc), e⟩)
      · exact .inr (.inr h)
  split at hret
  · exact main hret
  · split at hret
    · split at hret
      · exact main hret
      · exact given hret
    · exact given hret

theorem esOk_map {g : G} {s : S} {a : Act} {w : World} (hs : SlotsOk g s nt a w) : ∀ (xs : List Operand), EsOk w g s (xs.map s.ev) (xs.map a.eval)
  | [] => trivial
  | x :: xs => ⟨fun e he => ev_ok hs he, esOk_map hs xs⟩

theorem EsOk.snoc {w : World} {g : G} {s : S} {oe : Option E} {v : Value} (h : ∀ e, oe = some e → EOk w g s.boxes s.regs v e) : ∀ {es : List (Option E)} {vs : List Value}, EsOk w g s es vs → EsOk w g s (es ++ [oe]) (vs ++ [v])
  | [], [], _ => ⟨h, trivial⟩
  | _ :: _, _ :: _, h' => ⟨h'.1, EsOk.snoc h h'.2⟩
  | [], _ :: _, h' => h'.elim
  | _ :: _, [], h' => h'.elim

theorem call_sound (o : Oper) (f : Nat) (ms : List Mode) (xs : Array Operand) (ats : Array TypeId) (ho : o.op = .call { callee := .value (.func f), args := xs, argTypes := ats }) : Sound P w0 A B nt o (callW P nt o f ms xs.toList) := by
  intro s a w k next Q hr hW hn
  obtain ⟨hdf, hsz, g, hm, hs⟩ := hr
  have hnR : ∀ g' s' a' w', a'.defers = [] → a'.tmps.size = nt → Mem w0 A B g' s' w' → SlotsOk g' s' nt a' w' → Step g s w g' s' w' → (∃ v, a' = a.put o.dst v) → k s' → next a' w' := fun g' s' a' w' h1 h2 h3 h4 _ _ h => hn s' a' w' ⟨h1, h2, g', h3, h4⟩ h
  refine call_core hdf hsz hm hs (esOk_map hs xs.toList) (fun fn c h1 h2 h3 => ?_) hW hnR
  have hxs : (xs.toList.map a.eval).toArray = xs.map a.eval := by
    apply Array.ext'
    rw [Array.toList_map]
  rw [hxs]
  exact run_call_enter ho h1 h2 h3

theorem run_callv_enter {P : Program} {a : Act} {w : World} {o : Oper} {t : Nat} {f : FuncId} {fn : Func} {c : Code} {args : Array Operand} {ats : Array TypeId} {cap : Array Value} (hop : o.op = .call { callee := .value (.tmp t), args, argTypes := ats })
    (hv : a.eval (.tmp t) = .func (.func f) #[] cap) (hf : P.funcs[f]? = some fn) (hname : (fn.name == "runtime.NumGoroutine") = false) (hb : fn.body = some c) : (execOp a.eval o).run P w = .ok (.enter f (args.map a.eval ++ cap)) w := by
  have h1 : ¬ fn.name = "runtime.NumGoroutine" := by simpa using hname
  unfold execOp
  simp [hop, resolve, hv, Deferred.ofValue, invoke, callFunc, hf, h1, hb]

theorem callv_sound (o : Oper) (md : Nat → List Mode) (t : Nat) (xs : Array Operand) (ats : Array TypeId) (ho : o.op = .call { callee := .value (.tmp t), args := xs, argTypes := ats }) : Sound P w0 A B nt o (callVW P nt o md t xs.toList) := by
  intro s a w k next Q hr hW hn
  obtain ⟨hdf, hsz, g, hm, hs⟩ := hr
  have hnR : ∀ g' s' a' w', a'.defers = [] → a'.tmps.size = nt → Mem w0 A B g' s' w' → SlotsOk g' s' nt a' w' → Step g s w g' s' w' → (∃ v, a' = a.put o.dst v) → k s' → next a' w' := fun g' s' a' w' h1 h2 h3 h4 _ _ h => hn s' a' w' ⟨h1, h2, g', h3, h4⟩ h
  have hxs : (xs.toList.map a.eval).toArray = xs.map a.eval := by
    apply Array.ext'
    rw [Array.toList_map]
  unfold callVW at hW
  split at hW
  · rename_i f b gn he
    split at hW
    · rename_i cells hb
      obtain ⟨x, h1, h2, h3⟩ := (hs t _ he).2
      obtain ⟨x', h4, h5, _⟩ := boxAt_some hb
      rw [h1] at h4
      cases h4
      have hv : a.eval (.tmp t) = ptV (some f) (g.loc b).1 (g.loc b).2 := h3 h5.symm
      refine call_core (vs := xs.toList.map a.eval ++ [.pointer (some ⟨(g.loc b).1, (g.loc b).2, none⟩)]) hdf hsz hm hs ((esOk_map hs xs.toList).snoc fun e e1 => ?_) (fun fn c q1 q2 q3 => ?_) hW hnR
      · cases e1
        exact ⟨x, h1, h2, fun e => by simp⟩
      · rw [run_callv_enter ho hv q1 q2 q3, ← hxs]
        simp
    · exact hW.elim
  · rename_i f he
    obtain ⟨y, e1, e2⟩ := (hs t _ he).2
    cases e1
    have hv : a.eval (.tmp t) = .func (.func f) #[] #[] := e2
    refine call_core hdf hsz hm hs (esOk_map hs xs.toList) (fun fn c q1 q2 q3 => ?_) hW hnR
    rw [hxs, run_callv_enter ho hv q1 q2 q3]
    simp
  · exact hW.elim

theorem makeFunc_sound (o : Oper) (fn : Fn) (first captured : Array Operand) (ho : o.op = .makeFunc fn first captured) : Sound P w0 A B nt o (makeFuncW nt o fn first captured) := by
  intro s a w k next Q hr hW hn
  obtain ⟨hdf, hsz, g, hm, hs⟩ := hr
  unfold makeFuncW at hW
  split at hW
  · rename_i f x
    split at hW
    · rename_i b gn he
      obtain ⟨y, h1, h2, h3⟩ := ev_ok hs he
      refine finish hdf hsz hs (Step.refl g s w) hm rfl (v := .func (.func f) #[] #[a.eval x]) ?_ (e := .clo f b gn) ⟨y, h1, h2, fun e => ?_⟩ hW hn
      · simp [execOp, ho, Instr.makeFunc]
      · rw [h3 e]
        rfl
    · exact hW.elim
  · rename_i f
    refine finish hdf hsz hs (Step.refl g s w) hm rfl (v := .func (.func f) #[] #[]) ?_ (sc_ok _ _ _ _ _) hW hn
    simp [execOp, ho, Instr.makeFunc]
  · exact hW.elim

end

end Go.Proofs.YtppfojiogappaaaDoor.V

set_option linter.unusedVariables false

set_option linter.unusedSimpArgs false

namespace Go.Proofs.YtppfojiogappaaaDoor.V

open Go Classical

def plugW (s : S) (t h iv i j : Nat) (k : S → Prop) : Prop :=
  match get s.slots t with
  | some (.vals false [.ref 6000000 gn]) => (match regAt s 6000000 gn with
    | some rd => (match regIv s h iv with
      | some r => if h = 6000000 then False else ∃ row, r.es[i]? = some row ∧ j < row.length ∧
        k { s with regs := put (kill s.regs [6000000]) h { r with iv := r.iv + 1, es := r.es.set i (row.set j (.sl true rd.n rd.es)), pure := r.pure && rd.pure } }
      | none => False)
    | none => False)
  | _ => False

def rkX (h gn : Nat) (x : X) : Bool :=
  match x with
  | .ref k g => if k = h then (if g = gn then true else false) else true
  | .sub k _ _ _ => if k = h then false else true
  | _ => true

def rnX (h : Nat) (x : X) : X :=
  match x with
  | .ref k g => if k = h then .ref k 0 else .ref k g
  | x => x

def rkXs (h gn : Nat) : List X → Bool
  | [] => true
  | x :: r => if rkX h gn x = true then rkXs h gn r else false

def rkPs (h gn : Nat) : List (Bool × List X) → Bool
  | [] => true
  | p :: r => if rkXs h gn p.2 = true then rkPs h gn r else false

def rkE (h gn : Nat) (e : E) : Bool :=
  match e with
  | .vals _ xs => rkXs h gn xs
  | .eptr k _ _ _ => if k = h then false else true
  | .tup ps => rkPs h gn ps
  | _ => true

def rnE (h : Nat) (e : E) : E :=
  match e with
  | .vals a xs => .vals a (xs.map (rnX h))
  | .tup ps => .tup (ps.map fun p => (p.1, p.2.map (rnX h)))
  | e => e

def rkSl (h gn : Nat) : List (Nat × E) → Bool
  | [] => true
  | p :: r => if rkE h gn p.2 = true then rkSl h gn r else false

def rkBx (h gn : Nat) : List (Nat × Box) → Bool
  | [] => true
  | p :: r => if rkXs h gn p.2.cells = true then rkBx h gn r else false

def rnS (s : S) (h : Nat) (r : Reg) : S :=
  ⟨s.slots.map fun p => (p.1, rnE h p.2), s.boxes.map fun p => (p.1, ⟨p.2.gen, p.2.cells.map (rnX h)⟩), put s.regs h ⟨r.live, 0, r.iv, r.pure, r.n, r.es⟩⟩

theorem rkXs_at {h gn : Nat} : ∀ {xs : List X} {j : Nat} {x : X}, rkXs h gn xs = true → xs[j]? = some x → rkX h gn x = true
  | y :: r, 0, x, ho, hx => by
    simp only [rkXs] at ho
    split at ho
    · rename_i h1
      cases hx
      exact h1
    · cases ho
  | y :: r, j + 1, x, ho, hx => by
    simp only [rkXs] at ho
    split at ho
    · exact rkXs_at (xs := r) ho hx
    · cases ho

theorem rkPs_at {h gn : Nat} : ∀ {ps : List (Bool × List X)} {j : Nat} {p : Bool × List X}, rkPs h gn ps = true → ps[j]? = some p → rkXs h gn p.2 = true
  | y :: r, 0, x, ho, hx => by
    simp only [rkPs] at ho
    split at ho
    · rename_i h1
      cases hx
      exact h1
    · cases ho
  | y :: r, j + 1, x, ho, hx => by
    simp only [rkPs] at ho
    split at ho
    · exact rkPs_at (ps := r) ho hx
    · cases ho

theorem rkSl_at {h gn : Nat} : ∀ {l : List (Nat × E)} {d : Nat} {e : E}, rkSl h gn l = true → get l d = some e → rkE h gn e = true
  | (k, y) :: r, d, e, ho, hx => by
    simp only [rkSl] at ho
    split at ho
    · rename_i h1
      simp only [get] at hx
      split at hx
      · cases hx
        exact h1
      · exact rkSl_at (l := r) ho hx
    · cases ho

theorem rkBx_at {h gn : Nat} : ∀ {l : List (Nat × Box)} {d : Nat} {e : Box}, rkBx h gn l = true → get l d = some e → rkXs h gn e.cells = true
  | (k, y) :: r, d, e, ho, hx => by
    simp only [rkBx] at ho
    split at ho
    · rename_i h1
      simp only [get] at hx
      split at hx
      · cases hx
        exact h1
      · exact rkBx_at (l := r) ho hx
    · cases ho

theorem get_mapv {α β : Type} (f : α → β) : ∀ (l : List (Nat × α)) (a : Nat), get (l.map fun p => (p.1, f p.2)) a = (get l a).map f
  | [], _ => rfl
  | (k, v) :: r, a => by
    simp only [List.map_cons, get]
    split
    · rfl
    · exact get_mapv f r a

section

variable {P : Program} {w0 : World} {A : AA} {B : List (Nat × Nat × Nat)} {nt : Nat} {τ : Nat → Option TD}

theorem re_reg {regs : List (Nat × Reg)} {h k : Nat} {r r0 : Reg} (hr : get regs h = some r) (hk : get regs k = some r0) :
    ∃ r1, get (put regs h ⟨r.live, 0, r.iv, r.pure, r.n, r.es⟩) k = some r1 ∧ r1.live = r0.live ∧ r1.iv = r0.iv ∧ r1.pure = r0.pure ∧ r1.n = r0.n ∧ r1.es = r0.es ∧ (k ≠ h → r1 = r0) ∧ (k = h → r0 = r ∧ r1.gen = 0) := by
  by_cases e : h = k
  · subst e
    rw [hr] at hk
    cases hk
    exact ⟨_, get_put_same _ _ _, rfl, rfl, rfl, rfl, rfl, fun e => absurd rfl e, fun _ => ⟨rfl, rfl⟩⟩
  · exact ⟨r0, by rw [get_put_ne _ _ e, hk], rfl, rfl, rfl, rfl, rfl, fun _ => rfl, fun e2 => absurd e2.symm e⟩

theorem re_ln {g : G} {regs : List (Nat × Reg)} {h : Nat} {r : Reg} (hr : get regs h = some r) {ln : Option (Nat × Nat)} {φ : (Nat → Prop) → Prop} (hl : LnOk g regs ln φ) : LnOk g (put regs h ⟨r.live, 0, r.iv, r.pure, r.n, r.es⟩) ln φ := by
  cases ln with
  | none => exact hl
  | some p =>
    obtain ⟨k, iv⟩ := p
    obtain ⟨r0, q1, q2, q3⟩ := hl
    obtain ⟨r1, p1, p2, p3, -⟩ := re_reg hr q1
    exact ⟨r1, p1, by omega, fun a b => q3 (by rw [← p2]; exact a) (by omega)⟩

theorem re_x {w : World} {g : G} {regs : List (Nat × Reg)} {h : Nat} {r : Reg} {u : Value} {x : X} (hr : get regs h = some r) (ho : rkX h r.gen x = true) (hx : XOk w g regs u x) : XOk w g (put regs h ⟨r.live, 0, r.iv, r.pure, r.n, r.es⟩) u (rnX h x) := by
  cases x with
  | sc v => exact hx
  | nil n => exact hx
  | rd ln n es => exact re_ln (φ := fun I => Rd w I u (.sl true n es)) hr hx
  | ref k gn =>
    obtain ⟨r0, q1, q2, q3⟩ := hx
    obtain ⟨r1, p1, p2, p3, p4, p5, p6, p7, p8⟩ := re_reg hr q1
    simp only [rnX]
    by_cases e : k = h
    · rw [if_pos e]
      simp only [rkX, if_pos e] at ho
      split at ho
      · rename_i e2
        obtain ⟨e3, e4⟩ := p8 e
        subst e3
        exact ⟨r1, p1, by omega, fun a _ => q3 (by rw [← p2]; exact a) e2⟩
      · cases ho
    · rw [if_neg e]
      cases p7 e
      exact ⟨r0, p1, q2, q3⟩
  | sub k gn lo hi =>
    obtain ⟨r0, q1, q2, q3⟩ := hx
    obtain ⟨r1, p1, p2, p3, p4, p5, p6, p7, p8⟩ := re_reg hr q1
    simp only [rkX] at ho
    split at ho
    · cases ho
    · rename_i e
      cases p7 e
      exact ⟨r0, p1, q2, q3⟩
  | inn k iv i j =>
    obtain ⟨r0, q1, q2, q3⟩ := hx
    obtain ⟨r1, p1, p2, p3, p4, p5, p6, p7, p8⟩ := re_reg hr q1
    refine ⟨r1, p1, by omega, fun a b => ?_⟩
    rw [p5, p6]
    exact q3 (by rw [← p2]; exact a) (by omega)
  | fx v n es => exact hx

theorem re_vals {w : World} {g : G} {regs : List (Nat × Reg)} {h : Nat} {r : Reg} {v : Value} {agg : Bool} {xs : List X} (hr : get regs h = some r) (ho : rkXs h r.gen xs = true) (hx : ValsOk w g regs v agg xs) : ValsOk w g (put regs h ⟨r.live, 0, r.iv, r.pure, r.n, r.es⟩) v agg (xs.map (rnX h)) := by
  cases agg with
  | false =>
    obtain ⟨x, rfl, hx⟩ := hx
    exact ⟨_, rfl, re_x hr (rkXs_at (j := 0) ho rfl) hx⟩
  | true =>
    obtain ⟨us, e, h1, h2⟩ := hx
    refine ⟨us, e, by rw [List.length_map]; exact h1, fun j y hj => ?_⟩
    rw [List.getElem?_map] at hj
    cases hxj : xs[j]? with
    | none => rw [hxj] at hj; cases hj
    | some x =>
      rw [hxj] at hj
      cases hj
      obtain ⟨u, e1, e2⟩ := h2 j x hxj
      exact ⟨u, e1, re_x hr (rkXs_at ho hxj) e2⟩

theorem re_box {h : Nat} {boxes : List (Nat × Box)} {b : Nat} {x : Box} (hb : get boxes b = some x) : get (boxes.map fun p => (p.1, (⟨p.2.gen, p.2.cells.map (rnX h)⟩ : Box))) b = some ⟨x.gen, x.cells.map (rnX h)⟩ := by
  rw [get_mapv (fun x : Box => (⟨x.gen, x.cells.map (rnX h)⟩ : Box)), hb]
  rfl

theorem re_e {w : World} {g : G} {boxes : List (Nat × Box)} {regs : List (Nat × Reg)} {h : Nat} {r : Reg} {v : Value} {e : V.E} (hr : get regs h = some r) (ho : rkE h r.gen e = true) (hx : EOk w g boxes regs v e) :
    EOk w g (boxes.map fun p => (p.1, (⟨p.2.gen, p.2.cells.map (rnX h)⟩ : Box))) (put regs h ⟨r.live, 0, r.iv, r.pure, r.n, r.es⟩) v (rnE h e) := by
  cases e with
  | mapv b k iv ks es =>
    obtain ⟨r0, q1, q2, q3⟩ := hx
    obtain ⟨r1, p1, p2, p3, -⟩ := re_reg hr q1
    exact ⟨r1, p1, by omega, fun a b => q3 (by rw [← p2]; exact a) (by omega)⟩
  | itv bi k iv b km im left cur =>
    obtain ⟨r0, q1, q2, r2, q3, q4, q5⟩ := hx
    obtain ⟨r1, p1, p2, p3, -⟩ := re_reg hr q1
    obtain ⟨r3, s1, s2, s3, -⟩ := re_reg hr q3
    exact ⟨r1, p1, by omega, r3, s1, by omega, fun a b c d => q5 (by rw [← p2]; exact a) (by omega) (by rw [← s2]; exact c) (by omega)⟩
  | vals agg xs => exact re_vals hr ho hx
  | bptr b gn off =>
    obtain ⟨x, q1, q2, q3⟩ := hx
    exact ⟨_, re_box q1, q2, q3⟩
  | clo f b gn =>
    obtain ⟨x, q1, q2, q3⟩ := hx
    exact ⟨_, re_box q1, q2, q3⟩
  | eptr k gn i off =>
    obtain ⟨r0, q1, q2, q3⟩ := hx
    obtain ⟨r1, p1, p2, p3, p4, p5, p6, p7, p8⟩ := re_reg hr q1
    simp only [rkE] at ho
    split at ho
    · cases ho
    · rename_i e
      cases p7 e
      exact ⟨r0, p1, q2, q3⟩
  | rptr ln row off => exact re_ln (φ := fun I => ∃ b o, v = .pointer (some ⟨b, o + off, none⟩) ∧ I b ∧ ∀ (j : Nat) (c : C), row[j]? = some c → ∃ u, w.cell? ⟨b, o + j, none⟩ = some u ∧ Rd w I u c) hr hx
  | tup ps =>
    obtain ⟨vs, h1, h2, h3⟩ := hx
    refine ⟨vs, h1, by rw [List.length_map]; exact h2, fun k p hk => ?_⟩
    rw [List.getElem?_map] at hk
    cases hp : ps[k]? with
    | none => rw [hp] at hk; cases hk
    | some q =>
      rw [hp] at hk
      cases hk
      obtain ⟨u, e1, e2⟩ := h3 k q hp
      exact ⟨u, e1, re_vals hr (rkPs_at ho hp) e2⟩

theorem re_ok {g : G} {s : S} {a : Act} {w : World} {h : Nat} {r : Reg} (hm : Mem w0 A B g s w) (hs : SlotsOk g s nt a w) (hr : get s.regs h = some r) (h1 : rkSl h r.gen s.slots = true) (h2 : rkBx h r.gen s.boxes = true) (hv : A.pr h → g.val h = A.pv h) :
    Mem w0 A B g (rnS s h r) w ∧ SlotsOk g (rnS s h r) nt a w := by
  refine ⟨⟨hm.ext, hm.lt, hm.fr, fun k r1 hk hl => ?_, fun b x hb => ?_, hm.im, ⟨fun b hb => ?_, fun d hd => ⟨(hm.pl.2 d hd).1, fun r1 hk hl h0 => ?_⟩⟩⟩, fun d e hd => ?_⟩
  · by_cases e : h = k
    · subst e
      have hk : get (put s.regs h ⟨r.live, 0, r.iv, r.pure, r.n, r.es⟩) h = some r1 := hk
      rw [get_put_same] at hk
      cases hk
      exact hm.regs h r hr hl
    · have hk : get (put s.regs h ⟨r.live, 0, r.iv, r.pure, r.n, r.es⟩) k = some r1 := hk
      rw [get_put_ne _ _ e] at hk
      exact hm.regs k r1 hk hl
  · have hb : get (s.boxes.map fun p => (p.1, (⟨p.2.gen, p.2.cells.map (rnX h)⟩ : Box))) b = some x := hb
    rw [get_mapv (fun x : Box => (⟨x.gen, x.cells.map (rnX h)⟩ : Box))] at hb
    cases hb0 : get s.boxes b with
    | none => rw [hb0] at hb; cases hb
    | some x0 =>
      rw [hb0] at hb
      cases hb
      obtain ⟨q1, q2, cs, e, q3, q4, q5⟩ := hm.boxes b x0 hb0
      refine ⟨q1, by rw [List.length_map]; exact q2, cs, e, q3, by rw [List.length_map]; exact q4, fun j y hj => ?_⟩
      rw [List.getElem?_map] at hj
      cases hxj : x0.cells[j]? with
      | none => rw [hxj] at hj; cases hj
      | some y0 =>
        rw [hxj] at hj
        cases hj
        obtain ⟨u, e1, e2, e3⟩ := q5 j y0 hxj
        exact ⟨u, e1, e2, re_x hr (rkXs_at (rkBx_at h2 hb0) hxj) e3⟩
  · obtain ⟨p1, x, p2, p3⟩ := hm.pl.1 b hb
    exact ⟨p1, _, re_box p2, p3⟩
  · by_cases e : h = d
    · subst e
      exact hv hd
    · have hk : get (put s.regs h ⟨r.live, 0, r.iv, r.pure, r.n, r.es⟩) d = some r1 := hk
      rw [get_put_ne _ _ e] at hk
      exact (hm.pl.2 d hd).2 r1 hk hl h0
  · have hd : get (s.slots.map fun p => (p.1, rnE h p.2)) d = some e := hd
    rw [get_mapv (rnE h)] at hd
    cases hd0 : get s.slots d with
    | none => rw [hd0] at hd; cases hd
    | some e0 =>
      rw [hd0] at hd
      cases hd
      obtain ⟨q1, q2⟩ := hs d e0 hd0
      exact ⟨q1, re_e hr (rkSl_at h1 hd0) q2⟩

end

def rgH (s : S) (x : X) : Option Nat :=
  match x with
  | .ref h 0 => if resv h = true then (match regAt s h 0 with
    | some _ => some h
    | none => none) else none
  | _ => none

def rgN (s : S) (t : Nat) (agg : Bool) (j h : Nat) : Option Reg :=
  match get s.slots t with
  | some (.vals b ys) => if b = agg then (match ys[j]? with
    | some (.ref h' gn) => if h' = h then regAt s h gn else none
    | _ => none) else none
  | _ => none

def regenW (t : Nat) (agg : Bool) (j : Nat) (hs : List (Option Nat)) (s : S) (k : S → Prop) : Prop :=
  match hs with
  | [] => k s
  | none :: r => regenW t agg (j + 1) r s k
  | some h :: r => (match rgN s t agg j h with
    | none => regenW t agg (j + 1) r s k
    | some rg => if rkSl h rg.gen s.slots = true then (if rkBx h rg.gen s.boxes = true then regenW t agg (j + 1) r (rnS s h rg) k else False) else False)

def callRW (P : Program) (nt : Nat) (o : Oper) (f : Nat) (ms : List Mode) (xs : List Operand) (s : S) (k : S → Prop) : Prop :=
  match xs with
  | .tmp t :: _ => (match o.dst with
    | some d => if d = t then callW P nt o f ms xs s k else (match get s.slots t with
      | some (.vals agg ys) => callW P nt o f ms xs s fun s2 => regenW t agg 0 (ys.map (rgH s)) s2 k
      | _ => callW P nt o f ms xs s k)
    | none => callW P nt o f ms xs s k)
  | _ => callW P nt o f ms xs s k

def CellAt (agg : Bool) (v : Value) (j : Nat) (u : Value) : Prop :=
  match agg with
  | false => u = v ∧ j = 0
  | true => ∃ us : Array Value, v = .agg us ∧ us[j]? = some u

section

variable {P : Program} {w0 : World} {A : AA} {B : List (Nat × Nat × Nat)} {nt : Nat} {τ : Nat → Option TD}

theorem vals_cell {w : World} {g : G} {regs : List (Nat × Reg)} {v : Value} {agg : Bool} {ys : List X} {j : Nat} {y : X} (h : ValsOk w g regs v agg ys) (hj : ys[j]? = some y) : ∃ u, CellAt agg v j u ∧ XOk w g regs u y := by
  cases agg with
  | false =>
    obtain ⟨x, rfl, hx⟩ := h
    cases j with
    | zero =>
      cases hj
      exact ⟨v, ⟨rfl, rfl⟩, hx⟩
    | succ j => cases hj
  | true =>
    obtain ⟨us, e, _, h2⟩ := h
    obtain ⟨u, e1, e2⟩ := h2 j y hj
    exact ⟨u, ⟨us, e, e1⟩, e2⟩

theorem cell_one {agg : Bool} {v u u' : Value} {j : Nat} (h : CellAt agg v j u) (h' : CellAt agg v j u') : u = u' := by
  cases agg with
  | false => exact h.1.trans h'.1.symm
  | true =>
    obtain ⟨us, e, e1⟩ := h
    obtain ⟨us', e', e1'⟩ := h'
    rw [e] at e'
    cases e'
    rw [e1] at e1'
    cases e1'
    rfl

theorem regen_ok {a : Act} {w : World} {g : G} {t : Nat} {agg : Bool} {k : S → Prop} (hdf : a.defers = []) (hsz : a.tmps.size = nt) : ∀ (hs : List (Option Nat)) (j : Nat) (s : S), Mem w0 A B g s w → SlotsOk g s nt a w →
    (∀ (i h : Nat), hs[i]? = some (some h) → A.pr h → ∀ u, CellAt agg (a.tmps.getD t undef) (j + i) u → u = A.pv h) → regenW t agg j hs s k → ∃ s', Real w0 A B nt s' a w ∧ k s'
  | [], j, s, hm, hs, H, hW => ⟨s, ⟨hdf, hsz, g, hm, hs⟩, hW⟩
  | none :: r, j, s, hm, hs, H, hW => regen_ok hdf hsz r (j + 1) s hm hs (fun i h hi hp u hu => H (i + 1) h hi hp u (by rw [show j + (i + 1) = j + 1 + i by omega]; exact hu)) hW
  | some h :: r, j, s, hm, hs, H, hW => by
    have H' : ∀ (i h : Nat), r[i]? = some (some h) → A.pr h → ∀ u, CellAt agg (a.tmps.getD t undef) (j + 1 + i) u → u = A.pv h := fun i h hi hp u hu => H (i + 1) h hi hp u (by rw [show j + (i + 1) = j + 1 + i by omega]; exact hu)
    simp only [regenW] at hW
    split at hW
    · exact regen_ok hdf hsz r (j + 1) s hm hs H' hW
    · rename_i rg hrg
      split at hW
      case isFalse => exact hW.elim
      rename_i k1
      split at hW
      case isFalse => exact hW.elim
      rename_i k2
      unfold rgN at hrg
      split at hrg
      case h_2 => cases hrg
      rename_i b ys hsl
      split at hrg
      case isFalse => cases hrg
      rename_i hb
      subst hb
      split at hrg
      case h_2 => cases hrg
      rename_i h' gn hj
      split at hrg
      case isFalse => cases hrg
      rename_i hh
      subst hh
      obtain ⟨p1, p2, p3⟩ := regAt_some hrg
      obtain ⟨u, c1, r0, q1, q2, q3⟩ := vals_cell (hs t _ hsl).2 hj
      rw [p1] at q1
      cases q1
      obtain ⟨hm', hs'⟩ := re_ok hm hs p1 k1 k2 fun hp => by rw [← q3 p2 p3.symm]; exact H 0 h' rfl hp u c1
      exact regen_ok hdf hsz r (j + 1) _ hm' hs' H' hW

theorem callR_sound (o : Oper) (f : Nat) (ms : List Mode) (xs : Array Operand) (ats : Array TypeId) (ho : o.op = .call { callee := .value (.func f), args := xs, argTypes := ats }) : Sound P w0 A B nt o (callRW P nt o f ms xs.toList) := by
  intro s a w k next Q hr hW hn
  unfold callRW at hW
  split at hW
  · rename_i t rest hxs0
    split at hW
    · rename_i d hd
      split at hW
      · exact call_sound o f ms xs ats ho s a w k next Q hr hW hn
      rename_i hdt
      split at hW
      · rename_i agg ys he
        obtain ⟨hdf, hsz, g, hm, hs⟩ := hr
        have hxs : (xs.toList.map a.eval).toArray = xs.map a.eval := by
          apply Array.ext'
          rw [Array.toList_map]
        refine call_core hdf hsz hm hs (esOk_map hs xs.toList) (fun fn c h1 h2 h3 => ?_) hW (fun g2 s2 a2 w2 c1 c2 c3 c4 c5 c6 hp => ?_)
        · rw [hxs]
          exact run_call_enter ho h1 h2 h3
        · obtain ⟨v, rfl⟩ := c6
          have hsame : (a.put o.dst v).tmps.getD t undef = a.tmps.getD t undef := by
            rw [hd]
            simp [Act.put, Array.getElem?_setIfInBounds, hdt]
          obtain ⟨s3, hr3, hk3⟩ := regen_ok c1 c2 _ 0 s2 c3 c4 (fun i h hi hpr u hu => by
            rw [hsame, Nat.zero_add] at hu
            rw [List.getElem?_map] at hi
            cases hy : ys[i]? with
            | none => rw [hy] at hi; cases hi
            | some y =>
              rw [hy] at hi
              have hi : rgH s y = some h := Option.some.inj hi
              unfold rgH at hi
              split at hi
              case h_2 => cases hi
              split at hi
              case isFalse => cases hi
              split at hi
              case h_2 => cases hi
              rename_i rg hrg
              cases hi
              obtain ⟨p1, p2, p3⟩ := regAt_some hrg
              obtain ⟨u', e1, r0, q1, q2, q3⟩ := vals_cell (hs t _ he).2 hy
              rw [p1] at q1
              cases q1
              rw [cell_one hu e1, q3 p2 p3.symm]
              exact (hm.pl.2 h hpr).2 rg p1 p2 p3) hp
          exact hn s3 _ _ hr3 hk3
      · exact call_sound o f ms xs ats ho s a w k next Q hr hW hn
    · exact call_sound o f ms xs ats ho s a w k next Q hr hW hn
  · exact call_sound o f ms xs ats ho s a w k next Q hr hW hn

end

def callIW (P : Program) (nt : Nat) (o : Oper) (f : Nat) (ms : List Mode) (xs : List Operand) (s : S) (k : S → Prop) : Prop :=
  match ms with
  | .mi :: ms' => (match xs with
    | .tmp t :: _ => (match o.dst with
      | some d => if d = t then False else (match get s.slots t with
        | some (.vals false [.inn h iv i j]) => extrW s (.tmp t) fun s1 => callW P nt o f (.mv [true] :: ms') xs s1 fun s2 => plugW s2 t h (iv + 1) i j k
        | _ => callRW P nt o f (.mv [true] :: ms') xs s k)
      | none => False)
    | _ => False)
  | .mv fl :: ms' => callRW P nt o f (.mv fl :: ms') xs s k
  | ms => callW P nt o f ms xs s k

section

variable {P : Program} {w0 : World} {A : AA} {B : List (Nat × Nat × Nat)} {nt : Nat} {τ : Nat → Option TD}

theorem plug_ok {s : S} {t h iv i j : Nat} {k : S → Prop} {a : Act} {w : World} {g : G} (hdf : a.defers = []) (hsz : a.tmps.size = nt) (hm : Mem w0 A B g s w) (hs : SlotsOk g s nt a w) (hx : XOk w g s.regs (a.tmps.getD t undef) (.inn h iv i j)) (hW : plugW s t h iv i j k) :
    ∃ s', Real w0 A B nt s' a w ∧ k s' := by
  unfold plugW at hW
  split at hW
  case h_2 => exact hW.elim
  rename_i gn he
  split at hW
  case h_2 => exact hW.elim
  rename_i rd hrd
  split at hW
  case h_2 => exact hW.elim
  rename_i r hr
  split at hW
  · exact hW.elim
  rename_i hne
  obtain ⟨row, h1, h2, hW⟩ := hW
  obtain ⟨q1, q2, q3⟩ := regIv_some hr
  obtain ⟨p1, p2, p3⟩ := regAt_some hrd
  obtain ⟨x', ex, hxo⟩ := (hs t _ he).2
  cases ex
  obtain ⟨r', q4, q5, q6⟩ := hxo
  rw [p1] at q4
  cases q4
  have hu := q6 p2 p3.symm
  obtain ⟨F1, u0, b, o, cap, o1, o2, o3, o4, o5, o5', o6, o7⟩ := (hm.regs h r q1 q2).opn (c0 := row[j]) h1 (List.getElem?_eq_getElem h2)
  obtain ⟨r2, q7, q8, q9⟩ := hx
  rw [q1] at q7
  cases q7
  obtain ⟨b', o', len', cap', e1, e2, e3, e4, e5⟩ := q9 q2 q3.symm
  rw [o3] at e1
  cases e1
  rw [o6] at e5
  have hu0 : u0 = g.val 6000000 := (Option.some.inj e5).trans hu
  have hdis : ∀ x, g.F 6000000 x → g.F h x → False := fun x hx hx' => by
    have hx : g.ow x = .reg 6000000 := hx
    have hx' : g.ow x = .reg h := hx'
    rw [hx] at hx'
    cases hx'
    exact hne rfl
  have hown : Own w (if (r.pure && rd.pure) then fun _ => False else g.I) ((g.merge [6000000] h).F h) (g.val h) (.sl true r.n (r.es.set i (row.set j (.sl true rd.n rd.es)))) := by
    have hI : ∀ (p q : Bool) (x : Nat), (if p then fun _ => False else g.I) x → (if (p && q) then fun _ => False else g.I) x := fun p q x hx => by
      cases p with
      | true => exact hx.elim
      | false => exact hx
    have hI' : ∀ (p q : Bool) (x : Nat), (if q then fun _ => False else g.I) x → (if (p && q) then fun _ => False else g.I) x := fun p q x hx => by
      cases q with
      | true => exact hx.elim
      | false => cases p <;> exact hx
    obtain ⟨F1, u1, b1, o1, cap1, s1, s2, s3, s4, s5, s6, s7, s8⟩ := ((hm.regs h r q1 q2).frame (hI r.pure rd.pure) (fun _ h => h) (fun _ _ => rfl) (fun _ _ => rfl)).opn (c0 := row[j]) h1 (List.getElem?_eq_getElem h2)
    rw [o3] at s3
    cases s3
    rw [o6] at s7
    have hu1 : u1 = g.val 6000000 := (Option.some.inj s7).symm.trans hu0
    refine s8 w _ (g.F 6000000) _ (fun _ _ _ => rfl) (fun _ _ => rfl) ?_ (fun x hx hx' => (hdis x hx hx').elim) (fun x hx _ => ?_) (fun x hx => ?_)
    · rw [hu1]
      exact (hm.regs 6000000 rd p1 p2).frame (hI' r.pure rd.pure) (fun _ h => h) (fun _ _ => rfl) (fun _ _ => rfl)
    · have hx' : g.ow x = .reg h := hx
      show (g.merge [6000000] h).ow x = .reg h
      rw [merge_reg hx']
      split <;> rfl
    · have hx' : g.ow x = .reg 6000000 := hx
      show (g.merge [6000000] h).ow x = .reg h
      rw [merge_reg hx']
      simp [memb]
  obtain ⟨hst, hm'⟩ := hm.setEl h r q1 q2 [6000000] (by simp [memb, Ne.symm hne]) (r.es.set i (row.set j (.sl true rd.n rd.es))) (r.pure && rd.pure) (by simp) (fun _ _ => rfl) rfl rfl rfl rfl hown
  exact ⟨_, ⟨hdf, hsz, _, hm', hs.step hst rfl⟩, hW⟩

theorem callI_sound (o : Oper) (f : Nat) (ms : List Mode) (xs : Array Operand) (ats : Array TypeId) (ho : o.op = .call { callee := .value (.func f), args := xs, argTypes := ats }) : Sound P w0 A B nt o (callIW P nt o f ms xs.toList) := by
  intro s a w k next Q hr hW hn
  unfold callIW at hW
  split at hW
  · rename_i ms'
    split at hW
    · rename_i t rest hxs0
      split at hW
      · rename_i d hd
        split at hW
        · exact hW.elim
        rename_i hdt
        split at hW
        · rename_i h iv i j he
          obtain ⟨hdf, hsz, g, hm, hs⟩ := hr
          rcases extr_ok hdf hsz hm hs hW with ⟨_, hno⟩ | ⟨t', h', iv', i', j', r, row, m, es2, g', s1, e1, e2, e3, e4, e5, e6, e7, hW, hm', hs', hx⟩
          · exact (hno t h iv i j rfl he).elim
          · cases e1
            rw [he] at e2
            cases e2
            have hiv : r.iv = iv := (regIv_some e3).2.2
            rw [hiv] at hx
            have hxs : (xs.toList.map a.eval).toArray = xs.map a.eval := by
              apply Array.ext'
              rw [Array.toList_map]
            refine call_core hdf hsz hm' hs' (esOk_map hs' xs.toList) (fun fn c h1 h2 h3 => ?_) hW (fun g2 s2 a2 w2 c1 c2 c3 c4 c5 c6 hp => ?_)
            · rw [hxs]
              exact run_call_enter ho h1 h2 h3
            · obtain ⟨v, rfl⟩ := c6
              have hsame : (a.put o.dst v).tmps.getD t undef = a.tmps.getD t undef := by
                rw [hd]
                simp [Act.put, Array.getElem?_setIfInBounds, hdt]
              obtain ⟨s3, hr3, hk3⟩ := plug_ok c1 c2 c3 c4 (by rw [hsame]; exact hx.step c5) hp
              exact hn s3 _ _ hr3 hk3
        · exact callR_sound o f _ xs ats ho s a w k next Q hr hW hn
      · exact hW.elim
    · exact hW.elim
  · exact callR_sound o f _ xs ats ho s a w k next Q hr hW hn
  · exact call_sound o f _ xs ats ho s a w k next Q hr hW hn

end

end Go.Proofs.YtppfojiogappaaaDoor.V

set_option linter.unusedVariables false

set_option linter.unusedSimpArgs false

namespace Go.Proofs.YtppfojiogappaaaDoor.V

open Go Classical

noncomputable def findV (v : Value) : List MapEntry → Nat → Option (Nat × Value)
  | [], _ => none
  | e :: r, i => if v = e.key then some (i, e.val) else findV v r (i + 1)

structure MapTy (P : Program) (t : Nat) (ks : Option (List K0)) : Prop where
  is : ∃ kt et, P.underlying t = some (.map kt et) ∧
    (∀ (w : World) (b : Bool) (v : Value), keyIs ks v → (Instr.checkKey b 10000 kt v).run P w = .ok () w) ∧
    (∀ (w : World) (v : Value) (l : List MapEntry), keyIs ks v → (∀ e ∈ l, keyIs ks e.key) → (Instr.findKey kt v l).run P w = .ok (findV v l 0) w) ∧
    (∀ w, (zeroValue et).run P w = .ok (.int .i64 0) w) ∧ ∀ w v, keyIs ks v → (Instr.keyThatStays v v).run P w = .ok v w

noncomputable def lookM (es : List (Value × Int)) (v : Value) : Int :=
  match es with
  | [] => 0
  | p :: r => if v = p.1 then p.2 else lookM r v

noncomputable def hasM (es : List (Value × Int)) (v : Value) : Bool :=
  match es with
  | [] => false
  | p :: r => if v = p.1 then true else hasM r v

noncomputable def updM (es : List (Value × Int)) (v : Value) (n : Int) : List (Value × Int) :=
  match es with
  | [] => [(v, n)]
  | p :: r => if v = p.1 then (v, n) :: r else p :: updM r v n

def keyE (e : V.E) : Option Value :=
  match e with
  | .vals false [.sc v] => some v
  | .vals true xs => (match scs xs with
    | some us => some (.agg ⟨us⟩)
    | none => none)
  | _ => none

def makeMapW (nt : Nat) (o : Oper) (r : Option Operand) (s : S) (k : S → Prop) : Prop :=
  match r, o.dst with
  | none, some d => ∃ ks, ∀ b : Nat, putK nt o { s with regs := put (kill s.regs [d]) d (newReg (kill s.regs [d]) d true 1 []) } (.mapv b d (newReg (kill s.regs [d]) d true 1 []).iv ks []) k
  | _, _ => False

noncomputable def lookupW (P : Program) (nt : Nat) (o : Oper) (t : Nat) (x ix : Operand) (ok : Bool) (s : S) (k : S → Prop) : Prop :=
  match s.ev x with
  | some (.mapv b h iv ks es) => (match regIv s h iv with
    | some _ => (match s.ev ix with
      | some e => (match keyE e with
        | some v => MapTy P t ks ∧ keyIs ks v ∧ (match ok with
          | true => putK nt o s (.tup [(false, [.sc (.int .i64 (lookM es v))]), (false, [.sc (.bool (hasM es v))])]) k
          | false => putK nt o s (.vals false [.sc (.int .i64 (lookM es v))]) k)
        | none => False)
      | none => False)
    | none => False)
  | _ => False

def allE (s : S) (e : V.E) : List Nat → Prop
  | [] => True
  | d :: r => get s.slots d = some e ∧ allE s e r

def putE (e : V.E) : List Nat → List (Nat × V.E) → List (Nat × V.E)
  | [], l => l
  | d :: r, l => putE e r (put l d e)

noncomputable def mapUpdateW (P : Program) (nt : Nat) (o : Oper) (t : Nat) (x ix y : Operand) (s : S) (k : S → Prop) : Prop :=
  match s.ev x with
  | some (.mapv b h iv ks es) => (match regIv s h iv with
    | some r => (match s.ev ix, s.ev y, o.dst with
      | some e, some (.vals false [.sc (.int .i64 n)]), none => (match keyE e with
        | some v => MapTy P t ks ∧ keyIs ks v ∧ ∃ L, allE s (.mapv b h iv ks es) L ∧
            k { s with slots := putE (.mapv b h (newReg (kill s.regs [h]) h true 1 []).iv ks (updM es v n)) L s.slots, regs := put (kill s.regs [h]) h (newReg (kill s.regs [h]) h true 1 []) }
        | none => False)
      | _, _, _ => False)
    | none => False)
  | _ => False

def rangeW (P : Program) (nt : Nat) (o : Oper) (t : Nat) (x : Operand) (s : S) (k : S → Prop) : Prop :=
  match s.ev x with
  | some (.mapv b h iv ks es) => (match regIv s h iv with
    | some _ => (match o.dst with
      | some d => if d = h then False else MapTy P t ks ∧ ∀ bi : Nat, putK nt o { s with regs := put (kill s.regs [d]) d (newReg (kill s.regs [d]) d true 1 []) } (.itv bi d (newReg (kill s.regs [d]) d true 1 []).iv b h iv es none) k
      | none => False)
    | none => False)
  | _ => False

def nextW (nt : Nat) (o : Oper) (x : Operand) (str : Bool) (s : S) (k : S → Prop) : Prop :=
  match str, s.ev x with
  | false, some (.itv bi h iv b hm im left cur) => (match regIv s h iv with
    | some _ => (match regIv s hm im with
      | some _ => if h = hm then False else (left = [] → putK nt o s (.tup [(false, [.sc (.bool false)])]) k) ∧
          ∃ L, allE s (.itv bi h iv b hm im left cur) L ∧ ∀ (l1 : List (Value × Int)) (p : Value × Int) (l2 : List (Value × Int)), left = l1 ++ p :: l2 →
            putK nt o { s with slots := putE (.itv bi h (newReg (kill s.regs [h]) h true 1 []).iv b hm im (l1 ++ l2) (some p)) L s.slots, regs := put (kill s.regs [h]) h (newReg (kill s.regs [h]) h true 1 []) }
              (.tup [(false, [.sc (.bool true)]), (false, [.sc p.1]), (false, [.sc (.int .i64 p.2)])]) k
      | none => False)
    | none => False)
  | _, _ => False

def entryW (nt : Nat) (o : Oper) (x : Operand) (s : S) (k : S → Prop) : Prop :=
  match s.ev x with
  | some (.itv bi h iv b hm im left (some p)) => (match regIv s h iv with
    | some _ => (match regIv s hm im with
      | some _ => putK nt o s (.tup [(false, [.sc p.1]), (false, [.sc (.int .i64 p.2)])]) k
      | none => False)
    | none => False)
  | _ => False

theorem findV_kv {v : Value} : ∀ {l : List MapEntry} {es : List (Value × Int)} {i : Nat}, l.map (fun e => (e.key, e.val)) = es.map (fun p => (p.1, Value.int .i64 p.2)) →
    (findV v l i = none ∧ hasM es v = false ∧ lookM es v = 0) ∨ ∃ j, findV v l i = some (i + j, .int .i64 (lookM es v)) ∧ hasM es v = true ∧ j < l.length ∧ (∃ e, l[j]? = some e ∧ e.key = v)
  | [], [], i, _ => .inl ⟨rfl, rfl, rfl⟩
  | [], p :: r, i, h => by cases h
  | e :: r, [], i, h => by cases h
  | e :: r, p :: r', i, h => by
    simp only [List.map_cons, List.cons.injEq, Prod.mk.injEq] at h
    obtain ⟨⟨h1, h2⟩, h3⟩ := h
    by_cases hv : v = e.key
    · refine .inr ⟨0, ?_, ?_, by simp, e, rfl, hv.symm⟩
      · simp only [findV, lookM, if_pos hv, ← h1, h2, Nat.add_zero]
      · simp only [hasM, ← h1, if_pos hv]
    · rcases findV_kv (v := v) (i := i + 1) h3 with ⟨q1, q2, q3⟩ | ⟨j, q1, q2, q3, q4⟩
      · exact .inl ⟨by simp only [findV, if_neg hv, q1], by simp only [hasM, ← h1, if_neg hv, q2], by simp only [lookM, ← h1, if_neg hv, q3]⟩
      · refine .inr ⟨j + 1, ?_, by simp only [hasM, ← h1, if_neg hv, q2], by simp; omega, ?_⟩
        · simp only [findV, if_neg hv, q1, lookM, ← h1]
          congr 2
          omega
        · simpa using q4

theorem updM_has {v : Value} {n : Int} : ∀ {es : List (Value × Int)}, hasM es v = false → updM es v n = es ++ [(v, n)]
  | [], _ => rfl
  | p :: r, h => by
    simp only [hasM] at h
    split at h
    · cases h
    · rename_i hv
      simp only [updM, if_neg hv, updM_has h, List.cons_append]

theorem updM_keys {ks : Option (List K0)} {v : Value} {n : Int} (hv : keyIs ks v) : ∀ {es : List (Value × Int)}, (∀ p ∈ es, keyIs ks p.1) → ∀ p ∈ updM es v n, keyIs ks p.1
  | [], _, p, hp => by
    simp only [updM, List.mem_singleton] at hp
    subst hp
    exact hv
  | q :: r, h, p, hp => by
    simp only [updM] at hp
    split at hp
    · rcases List.mem_cons.1 hp with rfl | hp
      · exact hv
      · exact h p (List.mem_cons_of_mem _ hp)
    · rcases List.mem_cons.1 hp with rfl | hp
      · exact h _ (List.mem_cons_self ..)
      · exact updM_keys hv (fun p hp => h p (List.mem_cons_of_mem _ hp)) p hp

theorem updM_set {v : Value} {n : Int} : ∀ {l : List MapEntry} {es : List (Value × Int)} {i j : Nat} {u : Value}, l.map (fun e => (e.key, e.val)) = es.map (fun p => (p.1, Value.int .i64 p.2)) → findV v l i = some (i + j, u) →
    (l.modify j fun e => { e with key := v, val := .int .i64 n }).map (fun e => (e.key, e.val)) = (updM es v n).map (fun p => (p.1, Value.int .i64 p.2))
  | [], _, i, j, u, _, h => by cases h
  | e :: r, [], i, j, u, h, _ => by cases h
  | e :: r, p :: r', i, j, u, h, hf => by
    simp only [List.map_cons, List.cons.injEq, Prod.mk.injEq] at h
    obtain ⟨⟨h1, h2⟩, h3⟩ := h
    simp only [findV] at hf
    split at hf
    · rename_i hv
      simp only [Option.some.injEq, Prod.mk.injEq] at hf
      obtain rfl : j = 0 := by omega
      simp only [updM, ← h1, if_pos hv]
      simp [h3]
    · rename_i hv
      have hlt : ∀ {l : List MapEntry} {i q : Nat} {u : Value}, findV v l i = some (q, u) → i ≤ q := by
        intro l
        induction l with
        | nil => intro i q u h; cases h
        | cons a l ih =>
          intro i q u h
          simp only [findV] at h
          split at h
          · cases h; exact Nat.le_refl _
          · have := ih h
            omega
      have := hlt hf
      obtain ⟨j', rfl⟩ : ∃ j', j = j' + 1 := ⟨j - 1, by omega⟩
      have := updM_set (n := n) h3 (i := i + 1) (j := j') (u := u) (by rw [hf]; congr 2; omega)
      simp only [updM, ← h1, if_neg hv]
      simp [this, h1, h2]

theorem modify_born {v n : Value} : ∀ (l : List MapEntry) (j : Nat), (l.modify j fun e => { e with key := v, val := n }).map (·.born) = l.map (·.born)
  | [], j => by simp
  | e :: r, 0 => by simp
  | e :: r, j + 1 => by simp [modify_born r j]

section

variable {P : Program} {w0 : World} {A : AA} {B : List (Nat × Nat × Nat)} {nt : Nat} {τ : Nat → Option TD}

theorem Mem.retag {g : G} {s : S} {w w' : World} (hm : Mem w0 A B g s w) (h : Nat) (hx : Ext w0 A B w') (hsz : w.heap.size ≤ w'.heap.size)
    (hk : ∀ x, x < w.heap.size → g.ow x ≠ .reg h → w'.heap[x]? = w.heap[x]?) (F : Nat → Prop) (hF : ∀ x, F x → (g.ow x = .reg h ∨ w.heap.size ≤ x) ∧ x < w'.heap.size) :
    ∃ g', Step g s w g' { s with regs := put (kill s.regs [h]) h (newReg (kill s.regs [h]) h true 1 []) } w' ∧ Mem w0 A B g' { s with regs := put (kill s.regs [h]) h (newReg (kill s.regs [h]) h true 1 []) } w' ∧
      (∀ x, F x → g'.ow x = .reg h) ∧ ∀ x k, k ≠ h → g.ow x = .reg k → g'.ow x = .reg k := by
  have hmb : ∀ k, memb [h] k = true ↔ k = h := fun k => by
    simp only [memb]
    split
    · rename_i e
      exact ⟨fun _ => e.symm, fun _ => rfl⟩
    · rename_i e
      exact ⟨fun h => (by cases h), fun h => absurd h.symm e⟩
  obtain ⟨hst1, hm1⟩ := hm.change [h] (fun _ => False) hx hsz (fun x hx' h1 _ => hk x hx' (h1 h ((hmb h).2 rfl)))
  have hm1 := hm1 (fun b x hb h => h.elim)
  obtain ⟨e1, e2, e3, e4, e5, e6⟩ := newReg_es (kill s.regs [h]) h true 1 []
  obtain ⟨hst2, hm2⟩ := hm1.adopt h (newReg (kill s.regs [h]) h true 1 []) F (.slice none 0 0) (fun x hx' => by
    obtain ⟨h1, h2⟩ := hF x hx'
    refine ⟨(release_none g [h] x).2 ?_, h2, ?_⟩
    · rcases h1 with h1 | h1
      · exact .inr ⟨h, h1, (hmb h).2 rfl⟩
      · refine .inl ?_
        by_cases h : g.ow x = .none
        · exact h
        · have := hm.lt x h
          omega
    · rcases h1 with h1 | h1
      · exact hm.fr x h h1
      · have := hm.ext.size
        exact .inr (by omega)) (by rw [e2, e3, e4]; exact .nil F 1) e5 (fun hp => e6 (hm1.pl.2 h hp).1)
  refine ⟨_, hst1.trans hst2, hm2, fun x hx' => ?_, fun x k hk' hx' => ?_⟩
  · show (if F x then Tag.reg h else (g.release [h]).ow x) = .reg h
    rw [if_pos hx']
  · have hr : (g.release [h]).ow x = .reg k := (release_reg g [h] x k).2 ⟨hx', by
      cases hb : memb [h] k with
      | true => exact absurd ((hmb k).1 hb) hk'
      | false => rfl⟩
    show (if F x then Tag.reg h else (g.release [h]).ow x) = .reg k
    rw [if_neg fun hf => ?_]
    · exact hr
    · rcases (hF x hf).1 with h1 | h1
      · rw [h1] at hx'
        cases hx'
        exact hk' rfl
      · have := hm.lt x (by rw [hx']; simp)
        omega

theorem get_kill_ne {l : List (Nat × Reg)} {d h : Nat} (hn : ¬ d = h) : get (kill l [d]) h = get l h := by
  have hm : memb [d] h = false := by
    simp only [memb]
    split
    · rename_i e
      exact absurd e hn
    · rfl
  rw [get_kill]
  cases get l h with
  | none => rfl
  | some r => simp [hm]

theorem new_iv (l : List (Nat × Reg)) (h : Nat) : ∃ r, get (put (kill l [h]) h (newReg (kill l [h]) h true 1 [])) h = some r ∧ r = newReg (kill l [h]) h true 1 [] := ⟨_, get_put_same _ _ _, rfl⟩

theorem makeMap_sound (o : Oper) (t : Nat) (r : Option Operand) (ho : o.op = .makeMap t r) : Sound P w0 A B nt o (makeMapW nt o r) := by
  intro s a w k next Q hr hW hn
  obtain ⟨hdf, hsz, g, hm, hs⟩ := hr
  unfold makeMapW at hW
  split at hW
  case h_2 => exact hW.elim
  rename_i d hd
  obtain ⟨ks, hW⟩ := hW
  have hW := hW w.heap.size
  obtain ⟨g', hst, hm', hF, -⟩ := hm.retag (w' := w.alloc (.map #[] 0)) d (hm.ext.alloc _) (by simp) (fun x hx _ => heap_alloc_old w _ hx) (fun x => x = w.heap.size) (fun x hx => by subst hx; exact ⟨.inr (Nat.le_refl _), by simp⟩)
  refine finish hdf hsz hs hst hm' rfl (v := .map (some w.heap.size)) ?_ ?_ hW hn
  · simp only [execOp, ho, Sem.run_bind, Option.map_none]
    rfl
  · obtain ⟨r', h1, h2⟩ := new_iv s.regs d
    refine ⟨r', h1, by rw [h2]; exact Nat.le_refl _, fun _ _ => ⟨rfl, hF _ rfl, #[], 0, heap_alloc_new w _, ⟨rfl, fun p hp => (by cases hp), fun e he => (by simp at he), by simp⟩⟩⟩

theorem keyE_ok {g : G} {s : S} {w : World} {v : Value} {e : V.E} {kv : Value} (hv : EOk w g s.boxes s.regs v e) (h : keyE e = some kv) : v = kv := by
  unfold keyE at h
  split at h
  · cases h
    obtain ⟨x, e1, e2⟩ := hv
    cases e1
    exact e2
  · rename_i xs
    split at h
    · rename_i us hus
      cases h
      obtain ⟨vs, e1, hc⟩ := hv
      rw [e1, ← scs_ok hus hc]
    · cases h
  · cases h

theorem lookup_sound (o : Oper) (t : Nat) (x ix : Operand) (ok : Bool) (ho : o.op = .lookup t x ix ok) : Sound P w0 A B nt o (lookupW P nt o t x ix ok) := by
  intro s a w k next Q hr hW hn
  obtain ⟨hdf, hsz, g, hm, hs⟩ := hr
  unfold lookupW at hW
  split at hW
  case h_2 => exact hW.elim
  rename_i b h iv ks es hx
  split at hW
  case h_2 => exact hW.elim
  rename_i r hr
  split at hW
  case h_2 => exact hW.elim
  rename_i e he
  split at hW
  case h_2 => exact hW.elim
  rename_i v hv
  obtain ⟨hT, hk, hW⟩ := hW
  obtain ⟨kt, et, t1, t2, t3, t4, t5⟩ := hT.is
  obtain ⟨q1, q2, q3⟩ := regIv_some hr
  obtain ⟨r', p1, p2, p3⟩ := ev_ok hs hx
  rw [q1] at p1
  cases p1
  obtain ⟨p4, p5, mes, clock, p6, p7⟩ := p3 q2 q3.symm
  have hkey : a.eval ix = v := keyE_ok (ev_ok hs he) hv
  have hks : ∀ e ∈ mes.toList, keyIs ks e.key := fun e he => by
    have : (e.key, e.val) ∈ mes.toList.map (fun e => (e.key, e.val)) := List.mem_map_of_mem he
    rw [p7.kv] at this
    obtain ⟨p, hp, e2⟩ := List.mem_map.1 this
    have := p7.keys p hp
    simp only [Prod.mk.injEq] at e2
    rw [← e2.1]
    exact this
  have hrun : (Instr.lookup t (.map (some b)) v ok).run P w = .ok (if ok then .tuple #[.int .i64 (lookM es v), .bool (hasM es v)] else .int .i64 (lookM es v)) w := by
    have hf := t3 w v mes.toList hk hks
    rcases findV_kv (v := v) (i := 0) p7.kv with ⟨f1, f2, f3⟩ | ⟨j, f1, f2, f3, f4⟩
    · rw [f1] at hf
      simp only [Instr.lookup, Sem.run_bind, run_underlying t1, Result.andThen, MapKept.run_getObj_map p6, Sem.run_pure, t2 w _ v hk, hf, t4, f2, f3]
    · rw [f1] at hf
      simp only [Instr.lookup, Sem.run_bind, run_underlying t1, Result.andThen, MapKept.run_getObj_map p6, Sem.run_pure, t2 w _ v hk, hf, f2]
  have hex : (execOp a.eval o).run P w = .ok (.value (if ok then .tuple #[.int .i64 (lookM es v), .bool (hasM es v)] else .int .i64 (lookM es v))) w := by
    simp only [execOp, ho, p4, hkey, Sem.run_bind, hrun, Result.andThen_ok, Sem.run_pure]
  cases ok with
  | true =>
    refine finish hdf hsz hs (Step.refl g s w) hm rfl hex ?_ hW hn
    refine ⟨_, rfl, rfl, fun j p hj => ?_⟩
    match j, hj with
    | 0, hj => cases hj; exact ⟨_, rfl, _, rfl, rfl⟩
    | 1, hj => cases hj; exact ⟨_, rfl, _, rfl, rfl⟩
  | false => exact finish hdf hsz hs (Step.refl g s w) hm rfl hex (sc_ok _ _ _ _ _) hW hn

theorem putE_get {e : V.E} : ∀ {L : List Nat} {l : List (Nat × V.E)} {d : Nat} {e' : V.E}, get (putE e L l) d = some e' → (e' = e ∧ d ∈ L) ∨ get l d = some e'
  | [], l, d, e', h => .inr h
  | d0 :: r, l, d, e', h => by
    rcases putE_get (L := r) h with ⟨h1, h2⟩ | h1
    · exact .inl ⟨h1, List.mem_cons_of_mem _ h2⟩
    · rw [get_put] at h1
      split at h1
      · rename_i hd
        cases h1
        exact .inl ⟨rfl, by rw [hd]; exact List.mem_cons_self ..⟩
      · exact .inr h1

theorem allE_mem {s : S} {e : V.E} : ∀ {L : List Nat}, allE s e L → ∀ d ∈ L, get s.slots d = some e
  | [], _, d, hd => by cases hd
  | d0 :: r, h, d, hd => by
    rcases List.mem_cons.1 hd with rfl | hd
    · exact h.1
    · exact allE_mem h.2 d hd

theorem SlotsOk.putE {g : G} {s : S} {nt : Nat} {a : Act} {w : World} (hs : SlotsOk g s nt a w) {L : List Nat} {e : V.E} (hL : ∀ d ∈ L, d < nt ∧ EOk w g s.boxes s.regs (a.tmps.getD d undef) e) : SlotsOk g { s with slots := putE e L s.slots } nt a w := by
  intro d e' hd
  rcases putE_get hd with ⟨rfl, h2⟩ | h
  · exact hL d h2
  · exact hs d e' h

theorem set_heap (w : World) (b : Nat) (o : Obj) : (∀ x, x ≠ b → ({ w with heap := w.heap.setIfInBounds b o } : World).heap[x]? = w.heap[x]?) ∧ (b < w.heap.size → ({ w with heap := w.heap.setIfInBounds b o } : World).heap[b]? = some o) := by
  refine ⟨fun x hx => ?_, fun h => ?_⟩
  · simp [Array.getElem?_setIfInBounds, Ne.symm hx]
  · simp [Array.getElem?_setIfInBounds, h]

theorem mapUpdate_sound (o : Oper) (t : Nat) (x ix y : Operand) (ho : o.op = .mapUpdate t x ix y) : Sound P w0 A B nt o (mapUpdateW P nt o t x ix y) := by
  intro s a w k next Q hr hW hn
  obtain ⟨hdf, hsz, g, hm, hs⟩ := hr
  unfold mapUpdateW at hW
  split at hW
  case h_2 => exact hW.elim
  rename_i b h iv ks es hx
  split at hW
  case h_2 => exact hW.elim
  rename_i r hr
  split at hW
  case h_2 => exact hW.elim
  rename_i e n he hy hd
  split at hW
  case h_2 => exact hW.elim
  rename_i v hv
  obtain ⟨hT, hk, L, hL, hW⟩ := hW
  obtain ⟨kt, et, t1, t2, t3, t4, t5⟩ := hT.is
  obtain ⟨q1, q2, q3⟩ := regIv_some hr
  obtain ⟨r', p1, p2, p3⟩ := ev_ok hs hx
  rw [q1] at p1
  cases p1
  obtain ⟨p4, p5, mes, clock, p6, p7⟩ := p3 q2 q3.symm
  have hkey : a.eval ix = v := keyE_ok (ev_ok hs he) hv
  have hval : a.eval y = .int .i64 n := by obtain ⟨z, z1, z2⟩ := ev_ok hs hy; cases z1; exact z2
  have hks : ∀ e ∈ mes.toList, keyIs ks e.key := fun e he => by
    have : (e.key, e.val) ∈ mes.toList.map (fun e => (e.key, e.val)) := List.mem_map_of_mem he
    rw [p7.kv] at this
    obtain ⟨p, hp, e2⟩ := List.mem_map.1 this
    have := p7.keys p hp
    simp only [Prod.mk.injEq] at e2
    rw [← e2.1]
    exact this
  have hblt : b < w.heap.size := (Array.getElem?_eq_some_iff.1 p6).1
  have hrun : ∃ mes' clock', (Instr.mapUpdate t (.map (some b)) v (.int .i64 n)).run P w = .ok () { w with heap := w.heap.setIfInBounds b (.map mes' clock') } ∧ MapIs ks mes' clock' (updM es v n) := by
    have hf := t3 w v mes.toList hk hks
    rcases findV_kv (v := v) (i := 0) p7.kv with ⟨f1, f2, f3⟩ | ⟨j, f1, f2, f3, e0, f4, f5⟩
    · rw [f1] at hf
      refine ⟨mes.push ⟨v, .int .i64 n, clock⟩, clock + 1, ?_, ?_, updM_keys hk p7.keys, fun e he => ?_, ?_⟩
      · simp only [Instr.mapUpdate, Sem.run_bind, run_underlying t1, Result.andThen, MapKept.run_getObj_map p6, t2 w _ v hk, hf, MapKept.run_setObj_map _ p6]
      · rw [updM_has f2, Array.toList_push, List.map_append, List.map_append, p7.kv]
        rfl
      · rw [Array.toList_push] at he
        rcases List.mem_append.1 he with he | he
        · have := p7.born e he
          omega
        · rw [List.mem_singleton.1 he]
          exact Nat.lt_succ_self _
      · rw [Array.toList_push, List.map_append]
        refine List.nodup_append.2 ⟨p7.nodup, by simp, fun x hx y hy => ?_⟩
        obtain ⟨e, he, rfl⟩ := List.mem_map.1 hx
        have := p7.born e he
        have : y = clock := by simpa using hy
        omega
    · rw [f1, Nat.zero_add] at hf
      have hj : mes[j]? = some e0 := by rw [← Array.getElem?_toList]; exact f4
      refine ⟨mes.modify j fun e => { e with key := v, val := .int .i64 n }, clock, ?_, ?_, updM_keys hk p7.keys, fun e he => ?_, ?_⟩
      · simp only [Instr.mapUpdate, Sem.run_bind, run_underlying t1, Result.andThen, MapKept.run_getObj_map p6, t2 w _ v hk, hf, hj, Option.map_some, Option.getD_some, f5, t5 w v hk, MapKept.run_setObj_map _ p6]
      · rw [Array.toList_modify]
        exact updM_set p7.kv f1
      · rw [Array.toList_modify] at he
        have hm : e.born ∈ (mes.toList.modify j fun e => { e with key := v, val := .int .i64 n }).map (·.born) := List.mem_map_of_mem he
        rw [modify_born] at hm
        obtain ⟨e', he', e2⟩ := List.mem_map.1 hm
        rw [← e2]
        exact p7.born e' he'
      · rw [Array.toList_modify, modify_born]
        exact p7.nodup
  obtain ⟨mes', clock', hrun, hM⟩ := hrun
  obtain ⟨hh1, hh2⟩ := set_heap w b (.map mes' clock')
  have hA : A b ∨ w0.heap.size ≤ b := hm.fr b h p5
  obtain ⟨g', hst, hm', hF, -⟩ := hm.retag (w' := { w with heap := w.heap.setIfInBounds b (.map mes' clock') }) h
    (hm.ext.same rfl rfl rfl (by simp) fun x hx hx2 => hh1 x (fun e => by subst e; rcases hA with h | h; exact hx2 h; omega)) (by simp)
    (fun x hx hx2 => hh1 x fun e => by subst e; exact hx2 p5) (fun x => x = b) (fun x hx => by subst hx; exact ⟨.inl p5, by simpa using hblt⟩)
  have hs' := hs.step hst rfl
  obtain ⟨r', h1, h2⟩ := new_iv s.regs h
  have hex : (execOp a.eval o).run P w = .ok .skip { w with heap := w.heap.setIfInBounds b (.map mes' clock') } := by
    simp only [execOp, ho, p4, hkey, hval, Sem.run_bind, hrun, Result.andThen_ok, Sem.run_pure]
  unfold Oper.wp
  rw [hex]
  show next (a.put o.dst undef) _
  rw [hd]
  have hs'' := hs'.putE (L := L) (e := .mapv b h (newReg (kill s.regs [h]) h true 1 []).iv ks (updM es v n)) fun d hdL => by
    have hsl := allE_mem hL d hdL
    obtain ⟨hlt, r2, z1, z2, z3⟩ := hs d _ hsl
    rw [q1] at z1
    cases z1
    exact ⟨hlt, r', h1, by rw [h2]; exact Nat.le_refl _, fun _ _ => ⟨(z3 q2 q3.symm).1, hF _ rfl, mes', clock', hh2 hblt, hM⟩⟩
  exact hn { s with slots := putE (.mapv b h (newReg (kill s.regs [h]) h true 1 []).iv ks (updM es v n)) L s.slots, regs := put (kill s.regs [h]) h (newReg (kill s.regs [h]) h true 1 []) } (a.put none undef) _ ⟨hdf, hsz, g', ⟨hm'.ext, hm'.lt, hm'.fr, hm'.regs, hm'.boxes, hm'.im, hm'.pl⟩, hs''⟩ hW

theorem range_sound (o : Oper) (t : Nat) (x : Operand) (ho : o.op = .range t x) : Sound P w0 A B nt o (rangeW P nt o t x) := by
  intro s a w k next Q hr hW hn
  obtain ⟨hdf, hsz, g, hm, hs⟩ := hr
  unfold rangeW at hW
  split at hW
  case h_2 => exact hW.elim
  rename_i b h iv ks es hx
  split at hW
  case h_2 => exact hW.elim
  rename_i r hr
  split at hW
  case h_2 => exact hW.elim
  rename_i d hd
  split at hW
  · exact hW.elim
  rename_i hdh
  obtain ⟨hT, hW⟩ := hW
  obtain ⟨kt, et, t1, -⟩ := hT.is
  obtain ⟨q1, q2, q3⟩ := regIv_some hr
  obtain ⟨r', p1, p2, p3⟩ := ev_ok hs hx
  rw [q1] at p1
  cases p1
  obtain ⟨p4, p5, mes, clock, p6, p7⟩ := p3 q2 q3.symm
  have hW := hW w.heap.size
  have hlt : b < w.heap.size := (Array.getElem?_eq_some_iff.1 p6).1
  obtain ⟨g', hst, hm', hF, hK⟩ := hm.retag (w' := w.alloc (.mapIter (some b) clock #[] clock)) d (hm.ext.alloc _) (by simp) (fun x hx _ => heap_alloc_old w _ hx) (fun x => x = w.heap.size) (fun x hx => by subst hx; exact ⟨.inr (Nat.le_refl _), by simp⟩)
  have hrun := run_range_map (P := P) w t kt et b mes clock t1 p6
  refine finish hdf hsz hs hst hm' rfl (v := .pointer (some ⟨w.heap.size, 0, none⟩)) ?_ ?_ hW hn
  · simp only [execOp, ho, p4, Sem.run_bind, hrun, Result.andThen_ok, Sem.run_pure]
  · obtain ⟨r', h1, h2⟩ := new_iv s.regs d
    have hr2 : get (put (kill s.regs [d]) d (newReg (kill s.regs [d]) d true 1 [])) h = some r := by
      rw [get_put_ne _ _ hdh, get_kill_ne hdh, q1]
    refine ⟨r', h1, by rw [h2]; exact Nat.le_refl _, r, hr2, by omega, fun _ _ _ _ => ⟨rfl, hF _ rfl, hK b h (Ne.symm hdh) p5, ⟨mes, clock, clock, #[], ?_, heap_alloc_new w _, p7.born, Nat.le_refl _, p7.nodup, ?_, fun p hp => by cases hp⟩⟩⟩
    · rw [heap_alloc_old w _ hlt]; exact p6
    · rw [← p7.kv]
      congr 1
      exact List.filter_eq_self.2 fun e _ => by simp

theorem map_erase {α β : Type} (f : α → β) : ∀ (l : List α) (j : Nat), (l.eraseIdx j).map f = (l.map f).eraseIdx j
  | [], _ => by simp
  | _ :: _, 0 => by simp
  | a :: r, j + 1 => by simp [map_erase f r j]

theorem filter_mid {es : List MapEntry} {seen : Array Nat} {e : MapEntry} {i : Nat} (hn : (es.map (·.born)).Nodup) (hi : (es.filter fun e => !seen.contains e.born)[i]? = some e) :
    (es.filter fun e' => !(seen.push e.born).contains e'.born) = (es.filter fun e => !seen.contains e.born).eraseIdx i := by
  have h1 : (es.filter fun e' => !(seen.push e.born).contains e'.born) = (es.filter fun e => !seen.contains e.born).filter fun e' => e'.born ≠ e.born := by
    rw [List.filter_filter]
    congr 1
    funext e'
    simp only [Array.contains_push, Bool.not_or]
    rw [Bool.and_comm]
    congr 1
    by_cases h : e'.born = e.born <;> simp [h]
  rw [h1]
  have hn' : ((es.filter fun e => !seen.contains e.born).map (·.born)).Nodup := hn.sublist ((List.filter_sublist).map _)
  generalize (es.filter fun e => !seen.contains e.born) = L at hi hn'
  induction L generalizing i with
  | nil => simp at hi
  | cons x r ih =>
    rw [List.map_cons, List.nodup_cons] at hn'
    cases i with
    | zero =>
      cases hi
      simp only [List.eraseIdx_zero, List.tail_cons]
      rw [List.filter_cons_of_neg (by simp), List.filter_eq_self]
      intro y hy
      simp only [ne_eq, decide_not, Bool.not_eq_eq_eq_not, Bool.not_true, decide_eq_false_iff_not]
      intro h
      exact hn'.1 (by rw [← h]; exact List.mem_map_of_mem hy)
    | succ i =>
      have hi' : r[i]? = some e := by simpa using hi
      have hne : x.born ≠ e.born := fun h => hn'.1 (by rw [h]; exact List.mem_map_of_mem (List.mem_of_getElem? hi'))
      rw [List.filter_cons_of_pos (by simpa using hne), List.eraseIdx_cons_succ, ih hi' hn'.2]

theorem run_next_it {w : World} {ty : TypeId} {bi b since clock : Nat} {seen : Array Nat} {mes : Array MapEntry} (hb : w.heap[b]? = some (.map mes clock)) (hi : w.heap[bi]? = some (.mapIter (some b) since seen clock)) (hold : ∀ e ∈ mes.toList, e.born < since) (hsc : since ≤ clock) :
    ((mes.toList.filter fun e => !seen.contains e.born) = [] ∧ (Instr.next (.pointer (some ⟨bi, 0, none⟩)) false ty).run P w = .ok (.tuple #[.bool false]) w) ∨
    ∃ (i : Nat) (e : MapEntry) (w1 : World), (mes.toList.filter fun e => !seen.contains e.born)[i]? = some e ∧ (w1 = w ∨ w1 = { w with drawn := w.drawn + 1 }) ∧
      (Instr.next (.pointer (some ⟨bi, 0, none⟩)) false ty).run P w = .ok (.tuple #[.bool true, e.key, e.val]) { w1 with heap := w1.heap.setIfInBounds bi (.mapIter (some b) since (seen.push e.born) clock) } := by
  have hL : (mes.filter fun e => !seen.contains e.born).toList = mes.toList.filter fun e => !seen.contains e.born := by simp
  have hg1 : (getObj bi).run P w = .ok (.mapIter (some b) since seen clock) w := by simp [getObj, Sem.run, hi]
  have hg2 : (getObj b).run P w = .ok (.map mes clock) w := MapKept.run_getObj_map hb
  simp only [Instr.next, Sem.run_bind, hg1, hg2, Result.andThen, next_test_false seen mes since clock hold hsc, Bool.false_eq_true, if_false]
  have hmem : ∀ x ∈ (Array.filter (fun e => !seen.contains e.born) mes).toList, x.born < since := fun x hx => hold x (by simp at hx ⊢; exact hx.1)
  rw [← hL]
  generalize Array.filter (fun e => !seen.contains e.born) mes = L at hmem ⊢
  have e1 : L.filter (fun x => decide (x.born < since)) = L := Array.filter_eq_self.2 (fun x hx => by simpa using hmem x (by simpa using hx))
  have e2 : L.filter (fun x => decide (x.born ≥ since)) = #[] := by
    rw [Array.filter_eq_empty_iff]
    intro x hx
    have := hmem x (by simpa using hx)
    simp
    omega
  simp only [e1, e2, Array.append_empty]
  by_cases h0 : L.size = 0
  · left
    have : L = #[] := Array.eq_empty_of_size_eq_zero h0
    subst this
    refine ⟨rfl, ?_⟩
    simp [choose, Sem.run, Question.forced]
  · right
    have hne : L.isEmpty = false := by simp [Array.isEmpty, h0]
    simp only [hne, Bool.false_eq_true, if_false, Array.empty_append, Array.size_map]
    have hch : ∃ (j : Nat) (w1 : World), j < L.size ∧ (w1 = w ∨ w1 = { w with drawn := w.drawn + 1 }) ∧ (choose (Question.mapNext L.size)).run P w = .ok j w1 := by
      by_cases hf : L.size ≤ 1
      · exact ⟨0, w, by omega, .inl rfl, by simp [choose, Sem.run, Question.forced, hf]⟩
      · exact ⟨_, _, Nat.mod_lt _ (by omega), .inr rfl, by
          simp only [choose, Sem.run, Question.forced, decide_eq_true_eq, hf, if_false, Question.cut]
          rfl⟩
    obtain ⟨j, w1, hj, hal, hrun⟩ := hch
    have hi1 : w1.heap[bi]? = some (.mapIter (some b) since seen clock) := by rcases hal with rfl | rfl <;> exact hi
    refine ⟨j, L[j], w1, by simp [hj], hal, ?_⟩
    have hset : ∀ o' : Obj, (setObj bi o').run P w1 = .ok () { w1 with heap := w1.heap.setIfInBounds bi o' } := fun o' => by
      simp [setObj, Sem.run, hi1]
    simp only [hrun, Array.getElem?_map, Array.getElem?_eq_getElem hj, Option.map_some, Sem.run_bind, hset, Result.andThen]
    rfl

theorem next_sound (o : Oper) (x : Operand) (str : Bool) (ho : o.op = .next x str) : Sound P w0 A B nt o (nextW nt o x str) := by
  intro s a w k next Q hr hW hn
  have hr00 := hr
  obtain ⟨hdf, hsz, g, hm, hs⟩ := hr
  unfold nextW at hW
  split at hW
  case h_2 => exact hW.elim
  rename_i bi h iv b hm0 im left cur hx
  split at hW
  case h_2 => exact hW.elim
  rename_i r hr
  split at hW
  case h_2 => exact hW.elim
  rename_i r2 hr2
  split at hW
  · exact hW.elim
  rename_i hne
  obtain ⟨hE, L, hL, hN⟩ := hW
  obtain ⟨q1, q2, q3⟩ := regIv_some hr
  obtain ⟨m1, m2, m3⟩ := regIv_some hr2
  obtain ⟨r', p1, p2, r2', p3, p4, p5⟩ := ev_ok hs hx
  rw [q1] at p1
  cases p1
  rw [m1] at p3
  cases p3
  obtain ⟨v1, v2, v3, v4⟩ := p5 q2 q3.symm m2 m3.symm
  obtain ⟨mes, clock, since, seen, i1, i2, i3, i4, i5, i6, i7⟩ := v4.is
  rcases run_next_it (P := P) (ty := o.type) i1 i2 i3 i4 with ⟨n1, n2⟩ | ⟨i, e, w1, n1, n2, n3⟩
  · have hl : left = [] := by
      rw [n1] at i6
      cases left with
      | nil => rfl
      | cons p r => cases i6
    refine finish hdf hsz hs (Step.refl g s w) hm rfl (v := .tuple #[.bool false]) ?_ ?_ (hE hl) hn
    · simp only [execOp, ho, v1, Sem.run_bind, n2, Result.andThen_ok, Sem.run_pure]
    · refine ⟨_, rfl, rfl, fun j p hj => ?_⟩
      match j, hj with
      | 0, hj => cases hj; exact ⟨_, rfl, _, rfl, rfl⟩
  · have hlen := congrArg List.length i6
    simp only [List.length_map] at hlen
    have hilt := (List.getElem?_eq_some_iff.1 n1).1
    have hil : i < left.length := by omega
    have hp : (e.key, e.val) = ((left[i]).1, Value.int .i64 (left[i]).2) := by
      have h1 : (List.map (fun e => (e.key, e.val)) (List.filter (fun e => !seen.contains e.born) mes.toList))[i]? = some (e.key, e.val) := by rw [List.getElem?_map, n1]; rfl
      rw [i6, List.getElem?_map, List.getElem?_eq_getElem hil] at h1
      simpa using h1.symm
    simp only [Prod.mk.injEq] at hp
    have hsplit : left = left.take i ++ left[i] :: left.drop (i + 1) := by rw [List.getElem_cons_drop, List.take_append_drop]
    have hN := hN _ _ _ hsplit
    have hh1 : w1.heap = w.heap := by rcases n2 with rfl | rfl <;> rfl
    have hbi : bi < w.heap.size := (Array.getElem?_eq_some_iff.1 i2).1
    have hb : b < w.heap.size := (Array.getElem?_eq_some_iff.1 i1).1
    have hbb : b ≠ bi := fun e => by rw [e, v2] at v3; cases v3; exact hne rfl
    obtain ⟨hs1, hs2⟩ := set_heap w1 bi (.mapIter (some b) since (seen.push e.born) clock)
    have hA : A bi ∨ w0.heap.size ≤ bi := hm.fr bi h v2
    have hx1 : Ext w0 A B w1 := by rcases n2 with rfl | rfl; exact hm.ext; exact hm.ext.same rfl rfl rfl (Nat.le_refl _) fun _ _ _ => rfl
    obtain ⟨g', hst, hm', hF, hK⟩ := hm.retag (w' := { w1 with heap := w1.heap.setIfInBounds bi (.mapIter (some b) since (seen.push e.born) clock) }) h
      (hx1.same rfl rfl rfl (by simp) fun x hx hx2 => hs1 x (fun e => by subst e; rcases hA with h | h; exact hx2 h; omega)) (by simp [hh1])
      (fun x hx hx2 => (hs1 x fun e => by subst e; exact hx2 v2).trans (by rw [hh1])) (fun x => x = bi) (fun x hx => by subst hx; exact ⟨.inl v2, by simpa [hh1] using hbi⟩)
    have hs' := hs.step hst rfl
    obtain ⟨r', h1, h2⟩ := new_iv s.regs h
    have hg2 : get (put (kill s.regs [h]) h (newReg (kill s.regs [h]) h true 1 [])) hm0 = some r2 := by
      rw [get_put_ne _ _ hne, get_kill_ne hne, m1]
    have hs'' := hs'.putE (L := L) (e := .itv bi h (newReg (kill s.regs [h]) h true 1 []).iv b hm0 im (left.take i ++ left.drop (i + 1)) (some left[i])) fun d hdL => by
      have hsl := allE_mem hL d hdL
      obtain ⟨hlt, r3, z1, z2, r4, z3, z4, z5⟩ := hs d _ hsl
      rw [q1] at z1
      cases z1
      rw [m1] at z3
      cases z3
      refine ⟨hlt, r', h1, by rw [h2]; exact Nat.le_refl _, r2, hg2, by omega, fun _ _ _ _ => ⟨(z5 q2 q3.symm m2 m3.symm).1, hF _ rfl, hK b hm0 (Ne.symm hne) v3, ⟨mes, clock, since, seen.push e.born, ?_, hs2 (by rw [hh1]; exact hbi), i3, i4, i5, ?_, fun p hp => ?_⟩⟩⟩
      · rw [hs1 b hbb, hh1]; exact i1
      · rw [filter_mid i5 n1, map_erase, i6, List.map_append, List.eraseIdx_eq_take_drop_succ, List.map_take, List.map_drop]
      · cases hp
        refine ⟨e, ?_, by simp, hp.1, hp.2⟩
        exact (List.mem_filter.1 (List.mem_of_getElem? n1)).1
    have hex : (execOp a.eval o).run P w = .ok (.value (.tuple #[.bool true, e.key, e.val])) { w1 with heap := w1.heap.setIfInBounds bi (.mapIter (some b) since (seen.push e.born) clock) } := by
      simp only [execOp, ho, v1, Sem.run_bind, n3, Result.andThen_ok, Sem.run_pure]
    unfold Oper.wp
    rw [hex]
    show next (a.put o.dst (.tuple #[.bool true, e.key, e.val])) _
    unfold putK at hN
    cases hd : o.dst with
    | none => rw [hd] at hN; exact hN.elim
    | some d =>
      rw [hd] at hN
      simp only at hN
      split at hN
      · rename_i hlt
        refine hn _ _ _ ⟨by simp [Act.put, hdf], by simp [Act.put, hsz], g', ?_, hs''.put hsz hlt (e := .tup [(false, [.sc (.bool true)]), (false, [.sc (left[i]).1]), (false, [.sc (.int .i64 (left[i]).2)])]) ?_⟩ hN
        · exact ⟨hm'.ext, hm'.lt, hm'.fr, hm'.regs, hm'.boxes, hm'.im, hm'.pl⟩
        · refine ⟨_, rfl, rfl, fun j p hj => ?_⟩
          match j, hj with
          | 0, hj => cases hj; exact ⟨_, rfl, _, rfl, rfl⟩
          | 1, hj => cases hj; exact ⟨_, rfl, _, rfl, hp.1⟩
          | 2, hj => cases hj; exact ⟨_, rfl, _, rfl, hp.2⟩
      · exact hN.elim

theorem entry_sound (o : Oper) (x : Operand) (ho : o.op = .entry x) : Sound P w0 A B nt o (entryW nt o x) := by
  intro s a w k next Q hr hW hn
  obtain ⟨hdf, hsz, g, hm, hs⟩ := hr
  unfold entryW at hW
  split at hW
  case h_2 => exact hW.elim
  rename_i bi h iv b hm0 im left p hx
  split at hW
  case h_2 => exact hW.elim
  rename_i r hr
  split at hW
  case h_2 => exact hW.elim
  rename_i r2 hr2
  obtain ⟨q1, q2, q3⟩ := regIv_some hr
  obtain ⟨m1, m2, m3⟩ := regIv_some hr2
  obtain ⟨r', p1, p2, r2', p3, p4, p5⟩ := ev_ok hs hx
  rw [q1] at p1
  cases p1
  rw [m1] at p3
  cases p3
  obtain ⟨v1, v2, v3, v4⟩ := p5 q2 q3.symm m2 m3.symm
  obtain ⟨mes, clock, since, seen, i1, i2, i3, i4, i5, i6, i7⟩ := v4.is
  obtain ⟨e, e1, e2, e3, e4⟩ := i7 p rfl
  have hf : mes.find? (fun x => x.born == e.born) = some e := by
    rw [← Array.find?_toList]
    exact find_born e mes.toList i5 e1
  have hrun : (Instr.entry (.pointer (some ⟨bi, 0, none⟩))).run P w = .ok (.tuple #[e.key, e.val]) w := by
    have hg1 : (getObj bi).run P w = .ok (.mapIter (some b) since seen clock) w := by simp [getObj, Sem.run, i2]
    simp only [Instr.entry, Sem.run_bind, hg1, Result.andThen, e2, MapKept.run_getObj_map i1]
    simp [hf]
  refine finish hdf hsz hs (Step.refl g s w) hm rfl (v := .tuple #[e.key, e.val]) ?_ ?_ hW hn
  · simp only [execOp, ho, v1, Sem.run_bind, hrun, Result.andThen_ok, Sem.run_pure]
  · refine ⟨_, rfl, rfl, fun j q hj => ?_⟩
    match j, hj with
    | 0, hj => cases hj; exact ⟨_, rfl, _, rfl, e3⟩
    | 1, hj => cases hj; exact ⟨_, rfl, _, rfl, e4⟩

end

end Go.Proofs.YtppfojiogappaaaDoor.V

set_option linter.unusedVariables false

set_option linter.unusedSimpArgs false

namespace Go.Proofs.YtppfojiogappaaaDoor.V

open Go Classical

def noSelL : List Oper → Bool
  | [] => true
  | o :: r => match o.op with
    | .select _ _ => false
    | _ => noSelL r

theorem noSelL_ok {ops : Array Oper} (h : noSelL ops.toList = true) : Region.noSelect ops = true := by
  unfold Region.noSelect
  rw [Array.all_eq_true_iff_forall_mem]
  intro o ho
  have key : ∀ l : List Oper, noSelL l = true → ∀ o ∈ l, (match o.op with | .select .. => false | _ => true) = true := by
    intro l
    induction l with
    | nil => intro _ o ho; cases ho
    | cons a r ih =>
      intro h o ho
      simp only [noSelL] at h
      split at h
      · cases h
      · rename_i hn
        cases ho with
        | head =>
          split
          · rename_i e
            exact absurd e (hn _ _)
          · rfl
        | tail _ ho => exact ih h o ho
  exact key _ h o (by simpa using ho)

def bindsL (e : Edge) : Bool :=
  match e.ground with
  | .textOnly _ => false
  | .gcOnly _ => false
  | _ => true

theorem bindsL_eq (e : Edge) : Region.binds .any e = bindsL e := by
  unfold Region.binds bindsL
  cases e.ground <;> rfl

def edgesL (done : List Nat) : List Edge → Bool
  | [] => true
  | e :: r => match bindsL e with
    | true => (match memb done e.on with
      | true => edgesL done r
      | false => false)
    | false => edgesL done r

def readyL (done : List Nat) : Nat → List Oper → List Nat
  | _, [] => []
  | i, o :: r => match memb done i with
    | true => readyL done (i + 1) r
    | false => (match edgesL done o.after.toList with
      | true => i :: readyL done (i + 1) r
      | false => readyL done (i + 1) r)

structure LD (ops : Array Oper) (listed : Array Bool) (done : List Nat) : Prop where
  size : listed.size = ops.size
  at_ : ∀ i, i < ops.size → listed[i]? = some (memb done i)
  lt : ∀ i ∈ done, i < ops.size

theorem LD.start (ops : Array Oper) : LD ops (Array.replicate ops.size false) [] :=
  ⟨by simp, fun i hi => by simp [hi, memb], fun i hi => (by cases hi)⟩

theorem LD.put {ops : Array Oper} {listed : Array Bool} {done : List Nat} (h : LD ops listed done) {i : Nat} (hi : i < ops.size) : LD ops (listed.setIfInBounds i true) (i :: done) := by
  refine ⟨by simp [h.size], fun j hj => ?_, fun j hj => ?_⟩
  · rw [Array.getElem?_setIfInBounds]
    by_cases hij : i = j
    · subst hij
      simp [h.size, hi, memb]
    · simp [hij, h.at_ j hj, memb]
  · cases hj with
    | head => exact hi
    | tail _ hj => exact h.lt j hj

theorem LD.getT {ops : Array Oper} {listed : Array Bool} {done : List Nat} (h : LD ops listed done) {i : Nat} (hi : i < ops.size) : listed.getD i true = memb done i := by
  simp [Array.getD_eq_getD_getElem?, h.at_ i hi]

theorem LD.getF {ops : Array Oper} {listed : Array Bool} {done : List Nat} (h : LD ops listed done) (i : Nat) : listed.getD i false = memb done i := by
  by_cases hi : i < ops.size
  · simp [Array.getD_eq_getD_getElem?, h.at_ i hi]
  · have h1 : listed[i]? = Option.none := by
      rw [Array.getElem?_eq_none_iff, h.size]
      omega
    have h2 : memb done i = false := by
      cases hm : memb done i with
      | false => rfl
      | true => exact absurd (h.lt i (memb_mem.1 hm)) hi
    simp [Array.getD_eq_getD_getElem?, h1, h2]

theorem edgesL_eq {ops : Array Oper} {listed : Array Bool} {done : List Nat} (h : LD ops listed done) (es : Array Edge) : (es.all fun e => !Region.binds .any e || listed.getD e.on false) = edgesL done es.toList := by
  rw [← Array.all_toList]
  induction es.toList with
  | nil => rfl
  | cons e r ih =>
    simp only [List.all_cons, edgesL]
    rw [ih, bindsL_eq, h.getF]
    cases bindsL e <;> cases memb done e.on <;> simp

theorem ready_eq {ops : Array Oper} {listed : Array Bool} {done : List Nat} (h : LD ops listed done) : Region.ready .any ops listed = readyL done 0 ops.toList := by
  unfold Region.ready
  rw [List.range_eq_range']
  have key : ∀ (l : List Oper) (i : Nat), ops.toList.drop i = l → ((List.range' i l.length).filter fun i => !listed.getD i true && ((ops[i]?).map (·.after.all fun e => !Region.binds .any e || listed.getD e.on false)).getD false) = readyL done i l := by
    intro l
    induction l with
    | nil => intro i _; rfl
    | cons o r ih =>
      intro i hd
      have ho : ops[i]? = some o := by
        have : (ops.toList.drop i)[0]? = some o := by rw [hd]; rfl
        simpa using this
      have hlt : i < ops.size := (Array.getElem?_eq_some_iff.1 ho).1
      have hd' : ops.toList.drop (i + 1) = r := by
        rw [← List.drop_drop, hd]
        rfl
      show List.filter _ (i :: List.range' (i + 1) r.length) = _
      rw [List.filter_cons, ih (i + 1) hd']
      simp only [readyL, ho, Option.map_some, Option.getD_some, edgesL_eq h, h.getT hlt]
      cases memb done i <;> cases edgesL done o.after.toList <;> simp
  have := key ops.toList 0 rfl
  simpa using this

def opsL (op : Op) : List Operand :=
  match op with
  | .call ⟨.value f, xs, _⟩ => f :: xs.toList
  | .call ⟨.builtin _, xs, _⟩ => xs.toList
  | .move x => [x]
  | .assign x => [x]
  | .load _ x => [x]
  | .nilCheck x => [x]
  | .unOp _ _ x => [x]
  | .convert _ _ x => [x]
  | .fieldAddr _ x _ => [x]
  | .field _ x _ => [x]
  | .extract x _ => [x]
  | .pick c a b => [c, a, b]
  | .store _ a v => [a, v]
  | .binOp _ _ a v _ => [a, v]
  | .indexAddr _ a v => [a, v]
  | .index _ a v => [a, v]
  | op => op.operands.toList

theorem opsL_eq (op : Op) : op.operands.toList = opsL op := by
  cases op <;> try rfl
  rename_i c
  obtain ⟨callee, xs, ts⟩ := c
  cases callee <;> simp [opsL, Op.operands, Call.operands]

def tmpsL : List Operand → List Nat
  | [] => []
  | .tmp t :: r => t :: tmpsL r
  | _ :: r => tmpsL r

theorem tmpsL_eq (l : List Operand) : (l.filterMap fun | .tmp t => some t | _ => none) = tmpsL l := by
  induction l with
  | nil => rfl
  | cons x r ih => cases x <;> simp [tmpsL, ih]

def looksL (ops : Array Oper) (o : Oper) : List Nat :=
  match o.guard with
  | none => tmpsL (opsL o.op)
  | some (g, _) => (match ops[g]? with
    | some og => (match og.dst with
      | some t => tmpsL (opsL o.op) ++ [t]
      | none => tmpsL (opsL o.op))
    | none => tmpsL (opsL o.op))

theorem looksL_eq (ops : Array Oper) (o : Oper) : o.looksAt ops = looksL ops o := by
  unfold Oper.looksAt looksL
  rw [opsL_eq]
  have := tmpsL_eq (opsL o.op)
  cases hg : o.guard with
  | none => simp only [List.append_nil]; exact this
  | some p =>
    obtain ⟨g, b⟩ := p
    simp only
    cases hog : ops[g]? with
    | none => simp only [Option.bind_none, Option.toList_none, List.append_nil]; exact this
    | some og =>
      cases hd : og.dst with
      | none => simp only [Option.bind_some, hd, Option.toList_none, List.append_nil]; exact this
      | some t => simp only [Option.bind_some, hd, Option.toList_some]; exact congrArg (· ++ [t]) this

def apartO (ops : Array Oper) (x y : Oper) : Bool :=
  (match x.dst with
  | some d => (match memb (looksL ops y) d with
    | true => false
    | false => (match y.dst with
      | some d' => if d' = d then false else true
      | none => true))
  | none => true) &&
  (match y.dst with
  | some d => (match memb (looksL ops x) d with
    | true => false
    | false => true)
  | none => true)

theorem contains_memb (l : List Nat) (d : Nat) : l.contains d = memb l d := by
  cases h : memb l d with
  | true => simpa using memb_mem.1 h
  | false =>
    have : ¬ d ∈ l := fun hx => by rw [memb_mem.2 hx] at h; cases h
    simpa using this

theorem apartO_eq (ops : Array Oper) (x y : Oper) : x.apart ops y = apartO ops x y := by
  unfold Oper.apart apartO
  simp only [looksL_eq, contains_memb]
  congr 1
  · cases x.dst with
    | none => rfl
    | some d =>
      simp only
      cases memb (looksL ops y) d with
      | true => rfl
      | false =>
        cases hy : y.dst with
        | none => rfl
        | some d' =>
          by_cases h : d' = d <;> simp [h]

def hasEdge (i : Nat) : List Edge → Bool
  | [] => false
  | e :: r => match bindsL e with
    | true => if e.on = i then true else hasEdge i r
    | false => hasEdge i r

theorem hasEdge_eq (i : Nat) (es : Array Edge) : es.any (fun e => Region.binds .any e && e.on == i) = hasEdge i es.toList := by
  rw [← Array.any_toList]
  induction es.toList with
  | nil => rfl
  | cons e r ih =>
    simp only [List.any_cons, hasEdge]
    rw [ih, bindsL_eq]
    cases bindsL e
    · simp
    · by_cases h : e.on = i <;> simp [h]

def freeL (ops : Array Oper) (done : List Nat) (i : Nat) (oi : Oper) : Nat → List Oper → Bool
  | _, [] => true
  | j, oj :: r => (if j = i then freeL ops done i oi (j + 1) r else match memb done j with
    | true => freeL ops done i oi (j + 1) r
    | false => (match hasEdge i oj.after.toList with
      | true => freeL ops done i oi (j + 1) r
      | false => (match apartO ops oi oj with
        | true => freeL ops done i oi (j + 1) r
        | false => false)))

theorem free_eq {ops : Array Oper} {listed : Array Bool} {done : List Nat} (h : LD ops listed done) {i : Nat} {oi : Oper} (hi : ops[i]? = some oi) : Region.free .any ops listed i = freeL ops done i oi 0 ops.toList := by
  unfold Region.free
  simp only [hi]
  rw [List.range_eq_range']
  have key : ∀ (l : List Oper) (j : Nat), ops.toList.drop j = l → ((List.range' j l.length).all fun j => j == i || listed.getD j true || match ops[j]? with
      | some oj => oj.after.any (fun e => Region.binds .any e && e.on == i) || oi.apart ops oj
      | none => true) = freeL ops done i oi j l := by
    intro l
    induction l with
    | nil => intro j _; rfl
    | cons o r ih =>
      intro j hd
      have ho : ops[j]? = some o := by
        have : (ops.toList.drop j)[0]? = some o := by rw [hd]; rfl
        simpa using this
      have hlt : j < ops.size := (Array.getElem?_eq_some_iff.1 ho).1
      have hd' : ops.toList.drop (j + 1) = r := by
        rw [← List.drop_drop, hd]
        rfl
      show List.all (j :: List.range' (j + 1) r.length) _ = _
      rw [List.all_cons, ih (j + 1) hd']
      simp only [freeL, ho, hasEdge_eq, apartO_eq, h.getT hlt]
      by_cases hji : j = i
      · simp [hji]
      · simp only [hji, if_false, beq_iff_eq, Bool.false_or, beq_eq_false_iff_ne.2 hji]
        cases memb done j <;> cases hasEdge i o.after.toList <;> cases apartO ops oi o <;> simp
  exact key ops.toList 0 rfl

end Go.Proofs.YtppfojiogappaaaDoor.V

set_option linter.unusedVariables false

set_option linter.unusedSimpArgs false

namespace Go.Proofs.YtppfojiogappaaaDoor.V

open Go Classical

section

variable {P : Program} {w0 : World} {A : AA} {B : List (Nat × Nat × Nat)} {nt : Nat} {τ : Nat → Option TD}

def lenK (τ : Nat → Option TD) (t : Nat) (x : Operand) (s : S) (k : E → Prop) : Prop :=
  match τ t, s.ev x with
  | some { kind := .str, .. }, some (.vals false [.sc (.string b)]) => k (.vals false [.sc (.int .i64 (b.size : Int))])
  | some { kind := .slice _, .. }, some (.vals false [y]) => withC s y fun _ es => k (.vals false [.sc (.int .i64 (es.length : Int))])
  | _, _ => False

theorem len_still (hτ : ∀ t d, τ t = some d → TyOk P t d) (o : Oper) (t : Nat) (x : Operand) (ho : o.op = .call { callee := .builtin .len, args := #[x], argTypes := #[t] }) {s : S} {a : Act} {w : World} {g : G} (hm : Mem w0 A B g s w) (hs : SlotsOk g s nt a w) {k : E → Prop} (hW : lenK τ t x s k) :
    ∃ e u, k e ∧ (∀ w1, (execOp a.eval o).run P w1 = .ok (.value u) w1) ∧ EOk w g s.boxes s.regs u e := by
  unfold lenK at hW
  split at hW
  · rename_i b ht hx
    obtain ⟨y, e1, hv⟩ := ev_ok hs hx
    cases e1
    have hv' : a.eval x = .string b := hv
    have hu : P.underlying t = some .string := (hτ _ _ ht).kind
    refine ⟨_, _, hW, fun w => ?_, (sc_ok _ _ _ _ _)⟩
    simp [execOp, ho, resolve, invoke, builtin, hv', Builtin.len_, run_underlying hu, goInt]
  · rename_i e y ht hx
    obtain ⟨y', e1, hv⟩ := ev_ok hs hx
    cases e1
    obtain ⟨n, es, hR, hK⟩ := withC_rd hm hv hW
    obtain ⟨b, cap, hf⟩ := hR.form
    have hu : P.underlying t = some (.slice _) := (hτ _ _ ht).kind
    refine ⟨_, _, hK, fun w => ?_, (sc_ok _ _ _ _ _)⟩
    simp [execOp, ho, resolve, invoke, builtin, hf, Builtin.len_, run_underlying hu, goInt]
  · exact hW.elim

def indexK (τ : Nat → Option TD) (t : Nat) (x i : Operand) (s : S) (k : E → Prop) : Prop :=
  match τ t, s.ev x, s.ev i with
  | some { kind := .str, .. }, some (.vals false [.sc (.string b)]), some (.vals false [.sc (.int _ n)]) => 0 ≤ n ∧ n < (b.size : Int) ∧ k (.vals false [.sc (.int .u8 (btOf b n))])
  | _, _, _ => False

theorem index_still (hτ : ∀ t d, τ t = some d → TyOk P t d) (o : Oper) (t : Nat) (x i : Operand) (ho : o.op = .index t x i) {s : S} {a : Act} {w : World} {g : G} (hm : Mem w0 A B g s w) (hs : SlotsOk g s nt a w) {k : E → Prop} (hW : indexK τ t x i s k) :
    ∃ e u, k e ∧ (∀ w1, (execOp a.eval o).run P w1 = .ok (.value u) w1) ∧ EOk w g s.boxes s.regs u e := by
  unfold indexK at hW
  split at hW
  · rename_i b _ n ht hx hi
    obtain ⟨y, e1, hv⟩ := ev_ok hs hx
    cases e1
    obtain ⟨y, e1, hv2⟩ := ev_ok hs hi
    cases e1
    have hv' : a.eval x = .string b := hv
    have hv2' : a.eval i = .int _ n := hv2
    have hu : P.underlying t = some .string := (hτ _ _ ht).kind
    obtain ⟨h0, h1, hK⟩ := hW
    refine ⟨_, _, hK, fun w => ?_, (sc_ok _ _ _ _ _)⟩
    have hlt : n.toNat < b.size := by omega
    have hb : b[n.toNat]? = some b[n.toNat] := by simp [hlt]
    simp [execOp, ho, Instr.index, hv', hv2', asIntOf, run_underlying hu, h0, hb, btOf_eq, hlt]
  · exact hW.elim

def pickK (c x y : Operand) (s : S) (k : E → Prop) : Prop :=
  match s.ev c with
  | some (.vals false [.sc (.bool t)]) => br t (match s.ev x with | some e => k e | none => False) (match s.ev y with | some e => k e | none => False)
  | _ => False

theorem pick_still (o : Oper) (c x y : Operand) (ho : o.op = .pick c x y) {s : S} {a : Act} {w : World} {g : G} (hm : Mem w0 A B g s w) (hs : SlotsOk g s nt a w) {k : E → Prop} (hW : pickK c x y s k) :
    ∃ e u, k e ∧ (∀ w1, (execOp a.eval o).run P w1 = .ok (.value u) w1) ∧ EOk w g s.boxes s.regs u e := by
  unfold pickK at hW
  split at hW
  · rename_i t h
    obtain ⟨x', hx', hv⟩ := ev_ok hs h
    cases hx'
    have hv' : a.eval c = .bool t := hv
    have hrun : ∀ w, (execOp a.eval o).run P w = .ok (.value (if t then a.eval x else a.eval y)) w := fun w => by simp [execOp, ho, hv', asBool]
    cases t with
    | true =>
      have hW' : (match s.ev x with | some e => k e | none => False) := by rw [br_t] at hW; exact hW
      split at hW'
      · rename_i e h
        exact ⟨_, _, hW', hrun, (ev_ok hs h)⟩
      · exact hW'.elim
    | false =>
      have hW' : (match s.ev y with | some e => k e | none => False) := by rw [br_f] at hW; exact hW
      split at hW'
      · rename_i e h
        exact ⟨_, _, hW', hrun, (ev_ok hs h)⟩
      · exact hW'.elim
  · exact hW.elim

def indexAddrK (τ : Nat → Option TD) (t : Nat) (x i : Operand) (s : S) (k : E → Prop) : Prop :=
  match τ t, s.ev x, s.ev i with
  | some { kind := .slice e, .. }, some (.vals false [y]), some (.vals false [.sc (.int _ n)]) => (match τ e with
    | some de => (match y with
      | .rd ln m es => if lnLive s ln then (if m = de.size then 0 ≤ n ∧ ∃ row, es[n.toNat]? = some row ∧ k (.rptr ln row 0) else False) else False
      | .ref h g => (match regAt s h g with
        | some r => if r.n = de.size then 0 ≤ n ∧ n < (r.es.length : Int) ∧ k (.eptr h g n.toNat 0) else False
        | none => False)
      | .sub h g lo hi => (match regAt s h g with
        | some r => if r.n = de.size then 0 ≤ n ∧ n < ((hi - lo : Nat) : Int) ∧ k (.eptr h g (lo + n.toNat) 0) else False
        | none => False)
      | .inn h iv a b => (match regIv s h iv with
        | some r => ∃ row0 m es row, r.es[a]? = some row0 ∧ row0[b]? = some (.sl true m es) ∧ m = de.size ∧ 0 ≤ n ∧ es[n.toNat]? = some row ∧ k (.rptr (some (h, iv)) row 0)
        | none => False)
      | _ => False)
    | none => False)
  | _, _, _ => False

theorem indexAddr_still (hτ : ∀ t d, τ t = some d → TyOk P t d) (o : Oper) (t : Nat) (x i : Operand) (ho : o.op = .indexAddr t x i) {s : S} {a : Act} {w : World} {g : G} (hm : Mem w0 A B g s w) (hs : SlotsOk g s nt a w) {k : E → Prop} (hW : indexAddrK τ t x i s k) :
    ∃ e u, k e ∧ (∀ w1, (execOp a.eval o).run P w1 = .ok (.value u) w1) ∧ EOk w g s.boxes s.regs u e := by
  unfold indexAddrK at hW
  split at hW
  · rename_i e _ _ _ y k1 n ht hx hi
    have hu : P.underlying t = some (.slice e) := (hτ _ _ ht).kind
    have hv2 : a.eval i = .int k1 n := by obtain ⟨y, q1, q2⟩ := ev_ok hs hi; cases q1; exact q2
    obtain ⟨y', q1, hvx⟩ := ev_ok hs hx
    cases q1
    split at hW
    · rename_i de hde
      split at hW
      · rename_i ln m es
        split at hW
        · rename_i hl
          split at hW
          · rename_i hmd
            obtain ⟨h0, row, hrow, hK⟩ := hW
            obtain ⟨b, o', cap, e1, e2⟩ := rdptr_ok hvx hl hrow
            subst hmd
            refine ⟨_, _, hK, fun w => ?_, e2⟩
            have hlt : n.toNat < es.length := (List.getElem?_eq_some_iff.1 hrow).1
            simp only [execOp, ho, e1, hv2, Sem.run_bind, indexAddr_run hτ hu hde w b o' es.length cap k1 n h0 hlt, Result.andThen_ok, Sem.run_pure, Nat.add_zero]
          · exact hW.elim
        · exact hW.elim
      · rename_i h gn
        split at hW
        · rename_i r hreg
          split at hW
          · rename_i hrn
            obtain ⟨h0, hlt, hK⟩ := hW
            obtain ⟨h1, h2, h3⟩ := regAt_some hreg
            obtain ⟨r', h4, h5, h6⟩ := hvx
            rw [h1] at h4
            cases h4
            have hlt' : n.toNat < r.es.length := by omega
            obtain ⟨b, o', cap, e1, _, _, _⟩ := own_cells (hm.regs h r h1 h2) (i := n.toNat) (row := r.es[n.toNat]) (by simp)
            have hval : a.eval x = g.val h := h6 h2 h3.symm
            refine ⟨.eptr h gn n.toNat 0, .pointer (some ⟨b, o' + n.toNat * de.size, none⟩), hK, fun w => ?_, ⟨r, h1, by omega, fun _ _ => ⟨b, o', r.es.length, cap, e1, hlt', by rw [hrn]; rfl⟩⟩⟩
            simp only [execOp, ho, hval, e1, hv2, Sem.run_bind, indexAddr_run hτ hu hde w b o' r.es.length cap k1 n h0 hlt', Result.andThen_ok, Sem.run_pure]
          · exact hW.elim
        · exact hW.elim
      · rename_i h gn lo hi'
        split at hW
        · rename_i r hreg
          split at hW
          · rename_i hrn
            obtain ⟨h0, hlt, hK⟩ := hW
            obtain ⟨h1, h2, h3⟩ := regAt_some hreg
            obtain ⟨r', h4, h5, h6⟩ := hvx
            rw [h1] at h4
            cases h4
            obtain ⟨h7, h8, h9⟩ := h6 h2 h3.symm
            have hlt' : lo + n.toNat < r.es.length := by omega
            obtain ⟨b, o', cap, e1, _, _, _⟩ := own_cells (hm.regs h r h1 h2) (i := lo + n.toNat) (row := r.es[lo + n.toNat]) (by simp)
            rcases h7 with ⟨e2, _⟩ | ⟨gb, og, leng, capg, os, caps, e2, e3, e4, e5, e6⟩
            · rw [e1] at e2; cases e2
            · rw [e1] at e2
              cases e2
              have hos : os = o' + lo * r.n := by
                rcases e6 with h | ⟨h, _⟩
                · exact h
                · omega
              subst hos
              have haddr : o' + lo * r.n + n.toNat * de.size = o' + (lo + n.toNat) * r.n + 0 := by rw [← hrn, Nat.add_mul]; omega
              refine ⟨.eptr h gn (lo + n.toNat) 0, .pointer (some ⟨b, o' + lo * r.n + n.toNat * de.size, none⟩), hK, fun w => ?_, ⟨r, h1, by omega, fun _ _ => ⟨b, o', _, _, e1, hlt', by rw [haddr]⟩⟩⟩
              simp only [execOp, ho, e3, hv2, Sem.run_bind, indexAddr_run hτ hu hde w b (o' + lo * r.n) (hi' - lo) caps k1 n h0 (by omega), Result.andThen_ok, Sem.run_pure]
          · exact hW.elim
        · exact hW.elim
      · rename_i h iv c d
        split at hW
        · rename_i r hreg
          obtain ⟨row0, m, es, row, hr0, hj, hmd, h0, hrow, hK⟩ := hW
          obtain ⟨hl, hrd⟩ := inn_rd hm hvx hreg hr0 hj
          obtain ⟨b, o', cap, e1, e2⟩ := rdptr_ok hrd hl hrow
          subst hmd
          refine ⟨_, _, hK, fun w => ?_, e2⟩
          have hlt : n.toNat < es.length := (List.getElem?_eq_some_iff.1 hrow).1
          simp only [execOp, ho, e1, hv2, Sem.run_bind, indexAddr_run hτ hu hde w b o' es.length cap k1 n h0 hlt, Result.andThen_ok, Sem.run_pure, Nat.add_zero]
        · exact hW.elim
      · exact hW.elim
    · exact hW.elim
  · exact hW.elim

end

end Go.Proofs.YtppfojiogappaaaDoor.V

set_option linter.unusedVariables false

set_option linter.unusedSimpArgs false

namespace Go.Proofs.YtppfojiogappaaaDoor.V

open Go Classical

structure Env where
  τ : Nat → Option TD
  md : Nat → List Mode

noncomputable def opW (P : Program) (E : Env) (nt : Nat) (o : Oper) (s : S) (k : S → Prop) : Prop :=
  match o.op with
  | .move x => moveW E.τ nt o x s k
  | .assign x => moveW E.τ nt o x s k
  | .pick c x y => pickW nt o c x y s k
  | .alloc el => allocW E.τ nt o el s k
  | .box _ x => boxW nt o x s k
  | .build t ps => buildW E.τ nt o t ps s k
  | .buildSlice t n ps => buildSliceW E.τ nt o t n ps s k
  | .load t p => loadW E.τ nt o t p s k
  | .store t p x => storeW E.τ t p x o s k
  | .nilCheck p => nilCheckW nt o p s k
  | .binOp op t x y _ => cmpW P E.τ nt o op t x y s k
  | .unOp op _ x => unW nt o op x s k
  | .convert src dst x => convSW E.τ nt o src dst x s k
  | .makeSlice t l c => makeSliceW E.τ nt o t l c s k
  | .slice t x lo hi mx => sliceW E.τ nt o t x lo hi mx s k
  | .fieldAddr t p f => fieldAddrW E.τ nt o t p f s k
  | .field t x f => fieldW E.τ nt o t x f s k
  | .indexAddr t x i => indexAddrW E.τ nt o t x i s k
  | .index t x i => indexW E.τ nt o t x i s k
  | .extract t i => extractW nt o t i s k
  | .makeFunc fn first captured => makeFuncW nt o fn first captured s k
  | .makeMap _ r => makeMapW nt o r s k
  | .lookup t x ix ok => lookupW P nt o t x ix ok s k
  | .mapUpdate t x ix y => mapUpdateW P nt o t x ix y s k
  | .range t x => rangeW P nt o t x s k
  | .next x b => nextW nt o x b s k
  | .entry x => entryW nt o x s k
  | .call c => (match c with
    | ⟨.builtin .len, ⟨[x]⟩, ⟨[t]⟩⟩ => lenW E.τ nt o t x s k
    | ⟨.builtin .append, ⟨[b, x]⟩, ⟨[t, t2]⟩⟩ => (match E.τ t2 with
      | some { kind := .int _, .. } => appendZW E.τ nt o t t2 b x s k
      | _ => extrW s b fun s => appendW E.τ nt o t t2 b x s k)
    | ⟨.builtin .cap, ⟨[x]⟩, ⟨[t]⟩⟩ => capW E.τ nt o t x s k
    | ⟨.builtin .max, ⟨[x, y]⟩, _⟩ => minW nt o true x y s k
    | ⟨.builtin .min, ⟨[x, y]⟩, _⟩ => minW nt o false x y s k
    | ⟨.value (.func f), xs, _⟩ => callIW P nt o f (E.md f) xs.toList s k
    | ⟨.value (.tmp t), xs, _⟩ => callVW P nt o E.md t xs.toList s k
    | _ => False)
  | _ => False

def fN (n : Nat) (k : Nat → Prop) : Prop :=
  match n with
  | 0 => k 0
  | m + 1 => k (m + 1)

theorem fN_eq (n : Nat) (k : Nat → Prop) : fN n k = k n := by cases n <;> rfl

def fNs (n : Nat) : (Nat → Prop) → Prop := Nat.rec (motive := fun _ => (Nat → Prop) → Prop) (fun k => k 0) (fun _ ih k => ih fun m => k (m + 1)) n

theorem fNs_eq (n : Nat) : ∀ k : Nat → Prop, fNs n k = k n := by
  induction n with
  | zero => intro k; rfl
  | succ n ih => intro k; exact ih fun m => k (m + 1)

def fB (b : Bool) (k : Bool → Prop) : Prop :=
  match b with
  | true => k true
  | false => k false

theorem fB_eq (n : Bool) (k : Bool → Prop) : fB n k = k n := by cases n <;> rfl

def fLn (ln : Option (Nat × Nat)) (k : Option (Nat × Nat) → Prop) : Prop :=
  match ln with
  | none => k none
  | some (h, g) => fN h fun h => fN g fun g => k (some (h, g))

theorem fLn_eq (n : Option (Nat × Nat)) (k : Option (Nat × Nat) → Prop) : fLn n k = k n := by
  cases n with
  | none => rfl
  | some p => simp only [fLn, fN_eq]

def fX (x : X) (k : X → Prop) : Prop :=
  match x with
  | .sc v => k (.sc v)
  | .nil n => fN n fun n => k (.nil n)
  | .rd ln n es => fLn ln fun ln => fN n fun n => k (.rd ln n es)
  | .ref h g => fN h fun h => fN g fun g => k (.ref h g)
  | .sub h g lo hi => fN h fun h => fN g fun g => k (.sub h g lo hi)
  | .inn h g i j => fN h fun h => fN g fun g => k (.inn h g i j)
  | .fx u n es => fN n fun n => k (.fx u n es)

theorem fX_eq (x : X) (k : X → Prop) : fX x k = k x := by cases x <;> simp only [fX, fN_eq, fLn_eq]

def fXs : List X → (List X → Prop) → Prop
  | [], k => k []
  | x :: r, k => fX x fun x => fXs r fun r => k (x :: r)

theorem fXs_eq : ∀ (l : List X) (k : List X → Prop), fXs l k = k l
  | [], k => rfl
  | x :: r, k => by simp only [fXs, fX_eq, fXs_eq r]

def fPs : List (Bool × List X) → (List (Bool × List X) → Prop) → Prop
  | [], k => k []
  | (b, xs) :: r, k => fB b fun b => fXs xs fun xs => fPs r fun r => k ((b, xs) :: r)

theorem fPs_eq : ∀ (l : List (Bool × List X)) (k : List (Bool × List X) → Prop), fPs l k = k l
  | [], k => rfl
  | (b, xs) :: r, k => by simp only [fPs, fB_eq, fXs_eq, fPs_eq r]

def fE (e : V.E) (k : V.E → Prop) : Prop :=
  match e with
  | .vals agg xs => fB agg fun agg => fXs xs fun xs => k (.vals agg xs)
  | .bptr b g off => fN b fun b => fN g fun g => fN off fun off => k (.bptr b g off)
  | .clo f b g => fN b fun b => fN g fun g => k (.clo f b g)
  | .eptr h g i off => fN h fun h => fN g fun g => fN off fun off => k (.eptr h g i off)
  | .rptr ln row off => fLn ln fun ln => fN off fun off => k (.rptr ln row off)
  | .tup ps => fPs ps fun ps => k (.tup ps)
  | .mapv b h iv ks es => fN h fun h => fNs iv fun iv => k (.mapv b h iv ks es)
  | .itv bi h iv b hm im left cur => fN h fun h => fNs iv fun iv => fN hm fun hm => fNs im fun im => k (.itv bi h iv b hm im left cur)

theorem fE_eq (e : V.E) (k : V.E → Prop) : fE e k = k e := by cases e <;> simp only [fE, fB_eq, fXs_eq, fN_eq, fNs_eq, fLn_eq, fPs_eq]

def fSl : List (Nat × V.E) → (List (Nat × V.E) → Prop) → Prop
  | [], k => k []
  | (d, e) :: r, k => fE e fun e => fSl r fun r => k ((d, e) :: r)

theorem fSl_eq : ∀ (l : List (Nat × V.E)) (k : List (Nat × V.E) → Prop), fSl l k = k l
  | [], k => rfl
  | (d, e) :: r, k => by simp only [fSl, fE_eq, fSl_eq r]

def fBx : List (Nat × Box) → (List (Nat × Box) → Prop) → Prop
  | [], k => k []
  | (d, ⟨g, xs⟩) :: r, k => fN g fun g => fXs xs fun xs => fBx r fun r => k ((d, ⟨g, xs⟩) :: r)

theorem fBx_eq : ∀ (l : List (Nat × Box)) (k : List (Nat × Box) → Prop), fBx l k = k l
  | [], k => rfl
  | (d, ⟨g, xs⟩) :: r, k => by simp only [fBx, fN_eq, fXs_eq, fBx_eq r]

def fRg : List (Nat × Reg) → (List (Nat × Reg) → Prop) → Prop
  | [], k => k []
  | (d, ⟨l, g, iv, p, n, es⟩) :: r, k => fB l fun l => fNs g fun g => fNs iv fun iv => fB p fun p => fN n fun n => fRg r fun r => k ((d, ⟨l, g, iv, p, n, es⟩) :: r)

theorem fRg_eq : ∀ (l : List (Nat × Reg)) (k : List (Nat × Reg) → Prop), fRg l k = k l
  | [], k => rfl
  | (d, ⟨l, g, iv, p, n, es⟩) :: r, k => by simp only [fRg, fB_eq, fN_eq, fNs_eq, fRg_eq r]

def fS (s : S) (k : S → Prop) : Prop :=
  match s with
  | ⟨sl, bx, rg⟩ => fSl sl fun sl => fBx bx fun bx => fRg rg fun rg => k ⟨sl, bx, rg⟩

theorem fS_eq (s : S) (k : S → Prop) : fS s k = k s := by cases s; simp only [fS, fSl_eq, fBx_eq, fRg_eq]

section

variable {P : Program} {w0 : World} {A : AA} {B : List (Nat × Nat × Nat)} {nt : Nat} {E : Env}

theorem op_sound (hτ : ∀ t d, E.τ t = some d → TyOk P t d) (o : Oper) : Sound P w0 A B nt o (opW P E nt o) := by
  intro s a w k next Q hr hW hn
  unfold opW at hW
  split at hW
  · rename_i h; exact move_sound E.τ o _ (.inl h) s a w k next Q hr hW hn
  · rename_i h; exact move_sound E.τ o _ (.inr h) s a w k next Q hr hW hn
  · rename_i h; exact pick_sound o _ _ _ h s a w k next Q hr hW hn
  · rename_i h; exact alloc_sound hτ o _ h s a w k next Q hr hW hn
  · rename_i h; exact box_sound o _ _ h s a w k next Q hr hW hn
  · rename_i h; exact build_sound hτ o _ _ h s a w k next Q hr hW hn
  · rename_i h; exact buildSlice_sound hτ o _ _ _ h s a w k next Q hr hW hn
  · rename_i h; exact load_sound hτ o _ _ h s a w k next Q hr hW hn
  · rename_i h; exact store_sound hτ o _ _ _ h s a w k next Q hr hW hn
  · rename_i h; exact nilCheck_sound o _ h s a w k next Q hr hW hn
  · rename_i h; exact cmp_sound hτ o _ _ _ _ _ h s a w k next Q hr hW hn
  · rename_i h; exact un_sound o _ _ _ h s a w k next Q hr hW hn
  · rename_i h; exact convS_sound hτ o _ _ _ h s a w k next Q hr hW hn
  · rename_i h; exact makeSlice_sound hτ o _ _ _ h s a w k next Q hr hW hn
  · rename_i h; exact slice_sound hτ o _ _ _ _ _ h s a w k next Q hr hW hn
  · rename_i h; exact fieldAddr_sound hτ o _ _ _ h s a w k next Q hr hW hn
  · rename_i h; exact field_sound hτ o _ _ _ h s a w k next Q hr hW hn
  · rename_i h; exact indexAddr_sound hτ o _ _ _ h s a w k next Q hr hW hn
  · rename_i h; exact index_sound hτ o _ _ _ h s a w k next Q hr hW hn
  · rename_i h; exact extract_sound o _ _ h s a w k next Q hr hW hn
  · rename_i h; exact makeFunc_sound o _ _ _ h s a w k next Q hr hW hn
  · rename_i h; exact makeMap_sound o _ _ h s a w k next Q hr hW hn
  · rename_i h; exact lookup_sound o _ _ _ _ h s a w k next Q hr hW hn
  · rename_i h; exact mapUpdate_sound o _ _ _ _ h s a w k next Q hr hW hn
  · rename_i h; exact range_sound o _ _ h s a w k next Q hr hW hn
  · rename_i h; exact next_sound o _ _ h s a w k next Q hr hW hn
  · rename_i h; exact entry_sound o _ h s a w k next Q hr hW hn
  · rename_i h
    split at hW
    · exact len_sound hτ o _ _ h s a w k next Q hr hW hn
    · split at hW
      · exact appendZ_sound hτ o _ _ _ _ h s a w k next Q hr hW hn
      · obtain ⟨hdf, hsz, g, hm, hs⟩ := hr
        rcases extr_ok hdf hsz hm hs hW with ⟨hW, _⟩ | ⟨t', h', iv, i, j, r, row, m, es2, g', s1, e1, e2, e3, e4, e5, e6, e7, hW, hm', hs', _⟩
        · exact append_sound hτ o _ _ _ _ h s a w k next Q ⟨hdf, hsz, g, hm, hs⟩ hW hn
        · exact append_sound hτ o _ _ _ _ h s1 a w k next Q ⟨hdf, hsz, g', hm', hs'⟩ hW hn
    · exact cap_sound hτ o _ _ h s a w k next Q hr hW hn
    · exact max_sound o _ _ _ h s a w k next Q hr hW hn
    · exact min_sound o _ _ _ h s a w k next Q hr hW hn
    · exact callI_sound o _ _ _ _ h s a w k next Q hr hW hn
    · exact callv_sound o _ _ _ _ h s a w k next Q hr hW hn
    · exact hW.elim
  · exact hW.elim

def skipW (nt : Nat) (o : Oper) (s : S) (k : S → Prop) : Prop :=
  match o.dst with
  | some d => if d < nt then k { s with slots := put s.slots d (.vals false [.sc undef]) } else False
  | none => k s

theorem skip_sound (o : Oper) {s : S} {a : Act} {w : World} {k : S → Prop} {next : Act → World → Prop} (hr : Real w0 A B nt s a w) (hW : skipW nt o s k) (hn : ∀ s' a' w', Real w0 A B nt s' a' w' → k s' → next a' w') :
    next (a.put o.dst undef) w := by
  obtain ⟨hdf, hsz, g, hm, hs⟩ := hr
  unfold skipW at hW
  split at hW
  · rename_i d hd
    rw [hd]
    split at hW
    · rename_i hlt
      refine hn { s with slots := put s.slots d (.vals false [.sc undef]) } _ _ ⟨?_, ?_, g, ⟨hm.ext, hm.lt, hm.fr, hm.regs, hm.boxes, hm.im, hm.pl⟩, hs.put hsz hlt (e := .vals false [.sc undef]) ⟨_, rfl, rfl⟩⟩ hW
      · simp [Act.put, hdf]
      · simp [Act.put, hsz]
    · exact hW.elim
  · rename_i hd
    rw [hd]
    exact hn s _ _ ⟨hdf, hsz, g, hm, hs⟩ hW

def atO (P : Program) (E : Env) (nt : Nat) (ops : Array Oper) (o : Oper) (s : S) (k : S → Prop) : Prop :=
    (match o.guard with
    | none => opW P E nt o s k
    | some (j, want) => (match (ops[j]?).bind (·.dst) with
      | some d => (match get s.slots d with
        | some (.vals false [.sc (.bool t)]) => (match want with
          | true => br t (opW P E nt o s k) (skipW nt o s k)
          | false => br t (skipW nt o s k) (opW P E nt o s k))
        | some (.vals false [.sc (.tuple _)]) => skipW nt o s k
        | _ => False)
      | none => False))

def atW (P : Program) (E : Env) (nt : Nat) (ops : Array Oper) (i : Nat) (s : S) (k : S → Prop) : Prop :=
  match ops[i]? with
  | none => k s
  | some o => atO P E nt ops o s k

theorem at_sound (hτ : ∀ t d, E.τ t = some d → TyOk P t d) (ops : Array Oper) (i : Nat) {s : S} {a : Act} {w : World} {k : S → Prop} {K : Act → World → Prop} {Q : Exit → Act → World → Prop} (hr : Real w0 A B nt s a w)
    (hW : atW P E nt ops i s k) (hn : ∀ s' a' w', Real w0 A B nt s' a' w' → k s' → K a' w') : wpOp P ops Q i K a w := by
  unfold atW at hW
  unfold wpOp
  split at hW
  · rename_i h
    rw [h]
    exact hn _ _ _ hr hW
  · rename_i o h
    rw [h]
    have run : opW P E nt o s k → o.wp P a w K Q := fun hW => op_sound hτ o s a w k K Q hr hW hn
    have skip : skipW nt o s k → K (a.put o.dst undef) w := fun hW => skip_sound o hr hW hn
    unfold atO at hW
    split at hW
    · rename_i hg
      have : Region.wanted o (yielded ops a.tmps) = true := by simp [Region.wanted, hg]
      simp only [this, if_true]
      exact .inl (run hW)
    · rename_i j want hg
      split at hW
      · rename_i d hd
        have hslot : ∀ e, get s.slots d = some e → ∃ g, EOk w g s.boxes s.regs (a.tmps.getD d undef) e ∧ a.tmps[d]? = some (a.tmps.getD d undef) := by
          intro e he
          obtain ⟨_, hsz, g, hm, hs⟩ := hr
          refine ⟨g, (hs d e he).2, ?_⟩
          have hlt : d < a.tmps.size := by rw [hsz]; exact (hs d e he).1
          simp [hlt]
        split at hW
        · rename_i t hs
          obtain ⟨g, ⟨x, e1, e2⟩, e3⟩ := hslot _ hs
          cases e1
          have e2 : a.tmps.getD d undef = .bool t := e2
          have hy : yielded ops a.tmps j = some t := by
            unfold yielded
            rw [hd]
            simp only [Option.bind_some, e3, e2]
          have hwn : Region.wanted o (yielded ops a.tmps) = (t == want) := by simp [Region.wanted, hg, hy]
          simp only [hwn]
          cases want <;> cases t <;> simp only [br_t, br_f] at hW
          · exact .inl (run hW)
          · exact skip hW
          · exact skip hW
          · exact .inl (run hW)
        · rename_i vs hs
          obtain ⟨g, ⟨x, e1, e2⟩, e3⟩ := hslot _ hs
          cases e1
          have e2 : a.tmps.getD d undef = .tuple vs := e2
          have hy : yielded ops a.tmps j = none := by
            unfold yielded
            rw [hd]
            simp only [Option.bind_some, e3, e2]
          have hwn : Region.wanted o (yielded ops a.tmps) = false := by simp [Region.wanted, hg, hy]
          simp only [hwn]
          exact skip hW
        · exact hW.elim
      · exact hW.elim

def gdW (ops : Array Oper) (o : Oper) (s : S) (x y : Prop) : Prop :=
  match o.guard with
  | none => x
  | some (j, want) => (match (ops[j]?).bind (·.dst) with
    | some d => (match get s.slots d with
      | some (.vals false [.sc (.bool t)]) => (match want with
        | true => br t x y
        | false => br t y x)
      | some (.vals false [.sc (.tuple _)]) => y
      | _ => False)
    | none => False)

theorem gd_ok (ops : Array Oper) (o : Oper) {s : S} {a : Act} {w : World} {g : G} (hsz : a.tmps.size = nt) (hs : SlotsOk g s nt a w) {x y : Prop} (hW : gdW ops o s x y) :
    (Region.wanted o (yielded ops a.tmps) = true ∧ x) ∨ (Region.wanted o (yielded ops a.tmps) = false ∧ y) := by
  unfold gdW at hW
  split at hW
  · rename_i hg
    exact .inl ⟨by simp [Region.wanted, hg], hW⟩
  · rename_i j want hg
    split at hW
    · rename_i d hd
      have hslot : ∀ e, get s.slots d = some e → EOk w g s.boxes s.regs (a.tmps.getD d undef) e ∧ a.tmps[d]? = some (a.tmps.getD d undef) := by
        intro e he
        refine ⟨(hs d e he).2, ?_⟩
        have hlt : d < a.tmps.size := by rw [hsz]; exact (hs d e he).1
        simp [hlt]
      split at hW
      · rename_i t hs
        obtain ⟨⟨x, e1, e2⟩, e3⟩ := hslot _ hs
        cases e1
        have e2 : a.tmps.getD d undef = .bool t := e2
        have hy : yielded ops a.tmps j = some t := by
          unfold yielded
          rw [hd]
          simp only [Option.bind_some, e3, e2]
        have hwn : Region.wanted o (yielded ops a.tmps) = (t == want) := by simp [Region.wanted, hg, hy]
        rw [hwn]
        cases want <;> cases t <;> simp only [br_t, br_f] at hW
        · exact .inl ⟨rfl, hW⟩
        · exact .inr ⟨rfl, hW⟩
        · exact .inr ⟨rfl, hW⟩
        · exact .inl ⟨rfl, hW⟩
      · rename_i vs hs
        obtain ⟨⟨x, e1, e2⟩, e3⟩ := hslot _ hs
        cases e1
        have e2 : a.tmps.getD d undef = .tuple vs := e2
        have hy : yielded ops a.tmps j = none := by
          unfold yielded
          rw [hd]
          simp only [Option.bind_some, e3, e2]
        have hwn : Region.wanted o (yielded ops a.tmps) = false := by simp [Region.wanted, hg, hy]
        exact .inr ⟨hwn, hW⟩
      · exact hW.elim
    · exact hW.elim

def opsW (P : Program) (E : Env) (nt : Nat) (ops : Array Oper) (k : S → Prop) (l : List Oper) : S → Prop :=
  List.rec (motive := fun _ => S → Prop) k (fun o _ f s => atO P E nt ops o s fun s' => fS s' f) l

theorem ops_sound (hτ : ∀ t d, E.τ t = some d → TyOk P t d) (ops : Array Oper) {k : S → Prop} {Q : Exit → Act → World → Prop} (hn : ∀ s' a' w', Real w0 A B nt s' a' w' → k s' → Q .normal a' w') : ∀ (l : List Oper) (i n : Nat) {s : S} {a : Act} {w : World},
    ops.toList.drop i = l → l.length = n → Real w0 A B nt s a w → opsW P E nt ops k l s → wpOps P ops Q (List.range' i n) a w
  | [], i, n, s, a, w, hd, hl, hr, h => by
    subst hl
    exact hn _ _ _ hr h
  | o :: r, i, n, s, a, w, hd, hl, hr, h => by
    subst hl
    have ho : ops[i]? = some o := by
      have : (ops.toList.drop i)[0]? = some o := by rw [hd]; rfl
      simpa using this
    have hd' : ops.toList.drop (i + 1) = r := by
      rw [← List.drop_drop, hd]
      rfl
    show wpOps P ops Q (i :: List.range' (i + 1) r.length) a w
    rw [wpOps_cons]
    exact at_sound hτ ops i hr (by unfold atW; rw [ho]; exact h) fun s' a' w' hr' h' => ops_sound hτ ops hn r (i + 1) _ hd' rfl hr' (by rw [fS_eq] at h'; exact h')

def takeV (E : Env) (o : Oper) (x : Operand) (s : S) (k : V.E → Prop) : Prop :=
  match s.ev x with
  | some (.vals false [.nil _]) => (match E.τ o.type with
    | some { kind := .slice e, .. } => (match E.τ e with
      | some d => k (.vals false [.nil d.size])
      | none => False)
    | _ => k (.vals false [.nil 0]))
  | some e => k e
  | none => False

theorem takeV_ok (E : Env) (o : Oper) (x : Operand) (ho : o.op = .move x ∨ o.op = .assign x) {s : S} {a : Act} {w : World} {g : G} (hs : SlotsOk g s nt a w) {k : V.E → Prop} (h : takeV E o x s k) :
    ∃ v e, k e ∧ EOk w g s.boxes s.regs v e ∧ ∀ w', (execOp a.eval o).run P w' = .ok (.value v) w' := by
  have hrun : ∀ w', (execOp a.eval o).run P w' = .ok (.value (a.eval x)) w' := fun w' => by
    rcases ho with ho | ho <;> simp [execOp, ho]
  unfold takeV at h
  split at h
  · rename_i n he
    have hv : ∀ m, EOk w g s.boxes s.regs (a.eval x) (.vals false [.nil m]) := fun m => by
      obtain ⟨y, e1, e2⟩ := ev_ok hs he
      cases e1
      exact ⟨_, rfl, e2⟩
    split at h
    · split at h
      · exact ⟨_, _, h, hv _, hrun⟩
      · exact h.elim
    · exact ⟨_, _, h, hv _, hrun⟩
  · rename_i e _ he
    exact ⟨_, _, h, ev_ok hs he, hrun⟩
  · exact h.elim

def takeK (E : Env) (o : Oper) (s : S) (k : V.E → Prop) : Prop :=
  match o.op with
  | .move x => takeV E o x s k
  | .assign x => takeV E o x s k
  | .nilCheck p => (match s.ev p with
    | some e => ptrK s e 0 k
    | none => False)
  | .fieldAddr t p f => (match E.τ t, s.ev p with
    | some { kind := .struct fs, .. }, some e => (match fs[f]? with
      | some (off, ft) => (match E.τ ft with
        | some df => if df.size = 0 then False else ptrK s e off k
        | none => False)
      | none => False)
    | _, _ => False)
  | .binOp op t x y _ => (match s.ev x, s.ev y with
    | some (.vals false [.sc u]), some (.vals false [.sc v]) => (match binV E.τ op t u v with
      | some (c, r) => (match needsC op u with
        | true => c ∧ k (.vals false [.sc r])
        | false => k (.vals false [.sc r]))
      | none => False)
    | _, _ => False)
  | .unOp op _ x => (match s.ev x with
    | some (.vals false [.sc u]) => (match unV op u with
      | some r => k (.vals false [.sc r])
      | none => False)
    | _ => False)
  | .extract t i => (match s.ev t with
    | some (.tup ps) => (match ps[i]? with
      | some p => k (.vals p.1 p.2)
      | none => False)
    | _ => False)
  | .convert src dst x => (match s.ev x, E.τ src, E.τ dst with
    | some (.vals false [.sc (.int _ n)]), some { kind := .int _, .. }, some { kind := .int q, .. } => k (.vals false [.sc (.int q (wrp q n))])
    | _, _, _ => False)
  | .indexAddr t x i => indexAddrK E.τ t x i s k
  | .index t x i => indexK E.τ t x i s k
  | .pick c x y => pickK c x y s k
  | .call c => (match c with
    | ⟨.builtin .len, ⟨[x]⟩, ⟨[t]⟩⟩ => lenK E.τ t x s k
    | _ => False)
  | _ => False

theorem take_ok (hτ : ∀ t d, E.τ t = some d → TyOk P t d) (o : Oper) {s : S} {a : Act} {w : World} {g : G} (hm : Mem w0 A B g s w) (hs : SlotsOk g s nt a w) {k : V.E → Prop} (h : takeK E o s k) :
    ∃ v e, k e ∧ EOk w g s.boxes s.regs v e ∧ ∀ w', (execOp a.eval o).run P w' = .ok (.value v) w' := by
  unfold takeK at h
  split at h
  · rename_i x ho
    exact takeV_ok E o x (.inl ho) hs h
  · rename_i x ho
    exact takeV_ok E o x (.inr ho) hs h
  · rename_i p ho
    split at h
    · rename_i e he
      obtain ⟨b, oo, e', h1, h2, h3⟩ := ptrK_ok (ev_ok hs he) h
      exact ⟨_, _, h3, h2, fun w' => by simp [execOp, ho, h1]⟩
    · exact h.elim
  · rename_i t p f ho
    split at h
    · rename_i fs _ _ _ e ht he
      split at h
      · rename_i off ft hf
        split at h
        · rename_i df hdf'
          split at h
          · exact h.elim
          · rename_i hsz0
            obtain ⟨b, oo, e', h1, h2, h3⟩ := ptrK_ok (ev_ok hs he) h
            refine ⟨_, _, h3, h2, fun w' => ?_⟩
            obtain ⟨arr, hu, ha⟩ := (hτ _ _ ht).kind
            obtain ⟨i, z, hi, hisz, _⟩ := (hτ _ _ hdf').info
            have hfld : ∃ fl, arr[f]? = some fl ∧ fl.offset = off ∧ fl.type = ft := by
              rw [← ha] at hf
              simp only [List.getElem?_map, Array.getElem?_toList] at hf
              cases hq : arr[f]? with
              | none => rw [hq] at hf; cases hf
              | some fl => rw [hq] at hf; cases hf; exact ⟨fl, rfl, rfl, rfl⟩
            obtain ⟨fl, g1, g2, g3⟩ := hfld
            subst g2
            subst g3
            have : ¬ (i.size = 0) := by rw [hisz]; exact hsz0
            simp [execOp, ho, h1, Instr.fieldAt, run_underlying hu, g1, Instr.sureAddr, fieldPlace, sizeOf, typeInfo, hi, this, add_eq]
        · exact h.elim
      · exact h.elim
    · exact h.elim
  · rename_i op t x y yt ho
    split at h
    · rename_i u v h1 h2
      split at h
      · rename_i c r hb
        obtain ⟨x1, e1, hv1⟩ := ev_ok hs h1
        obtain ⟨x2, e2, hv2⟩ := ev_ok hs h2
        cases e1
        cases e2
        have hv1' : a.eval x = u := hv1
        have hv2' : a.eval y = v := hv2
        have hW' : c ∧ k (.vals false [.sc r]) := by
          split at h
          · exact h
          · rename_i hnd
            exact ⟨needs_no hb hnd, h⟩
        rw [← hv1', ← hv2'] at hb
        exact ⟨_, _, hW'.2, sc_ok _ _ _ _ _, fun w' => bin_run P E.τ hτ a w' o op t x y yt ho c r hb hW'.1⟩
      · exact h.elim
    · exact h.elim
  · rename_i op t x ho
    split at h
    · rename_i u h1
      split at h
      · rename_i r hb
        obtain ⟨x1, e1, hv1⟩ := ev_ok hs h1
        cases e1
        have hv1' : a.eval x = u := hv1
        refine ⟨_, _, h, sc_ok _ _ _ _ _, fun w' => ?_⟩
        unfold unV at hb
        split at hb
        · cases hb
          simp [execOp, ho, hv1', Op.unary, notB_eq]
        · cases hb
          simp [execOp, ho, hv1', Op.unary, Op.intArith, wrp_eq]
        · cases hb
      · exact h.elim
    · exact h.elim
  · rename_i t i ho
    split at h
    · rename_i ps ht
      split at h
      · rename_i p hp
        obtain ⟨vs, h1, h2, h3⟩ := ev_ok hs ht
        obtain ⟨u, hu, hv⟩ := h3 i p hp
        exact ⟨u, _, h, hv, fun w' => by simp [execOp, ho, h1, Instr.extract, hu]⟩
      · exact h.elim
    · exact h.elim
  · rename_i src dst x ho
    split at h
    · rename_i q0 n _ _ _ _ q _ _ _ hx h1 h2
      have hv : a.eval x = .int q0 n := by obtain ⟨y, e1, e2⟩ := ev_ok hs hx; cases e1; exact e2
      have hu1 : P.underlying src = some (.int _) := (hτ _ _ h1).kind
      have hu2 : P.underlying dst = some (.int q) := (hτ _ _ h2).kind
      refine ⟨_, _, h, sc_ok _ _ _ _ _, fun w' => ?_⟩
      simp [execOp, ho, hv, convert, run_underlying hu1, run_underlying hu2, Conv.intToInt, wrp_eq]
    · exact h.elim
  · rename_i ho
    obtain ⟨e, u, h1, h2, h3⟩ := indexAddr_still hτ o _ _ _ ho hm hs h
    exact ⟨u, e, h1, h3, h2⟩
  · rename_i ho
    obtain ⟨e, u, h1, h2, h3⟩ := index_still hτ o _ _ _ ho hm hs h
    exact ⟨u, e, h1, h3, h2⟩
  · rename_i ho
    obtain ⟨e, u, h1, h2, h3⟩ := pick_still o _ _ _ ho hm hs h
    exact ⟨u, e, h1, h3, h2⟩
  · rename_i ho
    split at h
    · obtain ⟨e, u, h1, h2, h3⟩ := len_still hτ o _ _ ho hm hs h
      exact ⟨u, e, h1, h3, h2⟩
    · exact h.elim
  · exact h.elim

def isTake (E : Env) (o : Oper) : Bool :=
  match o.op with
  | .assign _ => true
  | .binOp _ _ _ _ _ => true
  | .unOp _ _ _ => true
  | .extract _ _ => true
  | .convert src dst _ => (match E.τ src, E.τ dst with
    | some { kind := .int _, .. }, some { kind := .int _, .. } => true
    | _, _ => false)
  | .move _ => true
  | .nilCheck _ => true
  | .fieldAddr _ _ _ => true
  | .indexAddr _ _ _ => true
  | .index _ _ _ => true
  | .pick _ _ _ => true
  | .call c => (match c with
    | ⟨.builtin .len, ⟨[_]⟩, ⟨[_]⟩⟩ => true
    | _ => false)
  | _ => false

def stillB (E : Env) (o : Oper) : Bool :=
  match o.op with
  | .load _ _ => true
  | _ => isTake E o

def stillK (E : Env) (o : Oper) (s : S) (k : V.E → Prop) : Prop :=
  match o.op with
  | .load t x => loadK E.τ t x s k
  | _ => takeK E o s k

theorem still_ok (hτ : ∀ t d, E.τ t = some d → TyOk P t d) (o : Oper) {s : S} {a : Act} {w : World} {g : G} (hm : Mem w0 A B g s w) (hs : SlotsOk g s nt a w) {k : V.E → Prop} (h : stillK E o s k) :
    ∃ e u, k e ∧ (execOp a.eval o).run P w = .ok (.value u) w ∧ EOk w g s.boxes s.regs u e := by
  unfold stillK at h
  split at h
  · rename_i ho
    exact load_ok hτ o _ _ ho hm hs h
  · obtain ⟨v, e, h1, h2, h3⟩ := take_ok hτ o hm hs h
    exact ⟨e, v, h1, h3 w, h2⟩

structure LN where
  done : List Nat
  rk : Nat
  edges : List (Nat × Nat)

inductive Plan where
  | done
  | take (i : Nat) (p : Plan)
  | early (i : Nat) (p : Plan)
  | calm (i : Nat) (p : Plan)
  | or (i : Nat) (p q : Plan)
  | nil
  | one (p : Plan)
  | lat (N : List LN)

def Plan.isCalm : Plan → Bool
  | .calm _ _ => true
  | .done => true
  | _ => false

def Plan.alts : Plan → List Nat
  | .or i _ q => i :: q.alts
  | _ => []

def lookFree (ops : Array Oper) (o : Oper) : List Nat → Bool
  | [] => true
  | j :: r => (match ops[j]?, o.dst with
    | some oj, some d => !memb (looksL ops oj) d
    | _, _ => true) && lookFree ops o r

def takeB (E : Env) (ops : Array Oper) (D done : List Nat) (i : Nat) : Bool :=
  match ops[i]? with
  | some o => isTake E o && (memb (readyL done 0 ops.toList) i && (freeL ops done i o 0 ops.toList && lookFree ops o D))
  | none => false

def calmB (E : Env) (ops : Array Oper) (D done : List Nat) (i : Nat) : Bool :=
  match ops[i]? with
  | some o => stillB E o && (memb (readyL done 0 ops.toList) i && (freeL ops done i o 0 ops.toList && lookFree ops o D))
  | none => false

def earlyB (ops : Array Oper) (D done : List Nat) (i : Nat) : Bool :=
  match ops[i]? with
  | some o => memb (readyL done 0 ops.toList) i && (freeL ops done i o 0 ops.toList && lookFree ops o (i :: D))
  | none => false

def sameL (a b : List Nat) : Bool := a.all (memb b) && b.all (memb a)

def latN (ops : Array Oper) (N : List LN) (n : LN) : Bool :=
  (readyL n.done 0 ops.toList == n.edges.map (·.1)) && n.edges.all fun e => match N[e.2]? with
    | some n' => sameL n'.done (e.1 :: n.done) && Nat.blt n'.rk n.rk
    | none => false

def latOk (ops : Array Oper) (N : List LN) : Bool := N.all (latN ops N)

def planOk (E : Env) (ops : Array Oper) : Plan → List Nat → Bool → Nat → List Nat → Bool
  | .done, _, h, _, done => h && (readyL done 0 ops.toList == [])
  | .take i p, D, h, n, done => (match n with
    | 0 => false
    | n + 1 => h && (takeB E ops D done i && planOk E ops p D true n (i :: done)))
  | .early i p, D, h, n, done => (match n with
    | 0 => false
    | n + 1 => h && (earlyB ops D done i && planOk E ops p (i :: D) true n (i :: done)))
  | .calm i p, D, h, n, done => (match n with
    | 0 => false
    | n + 1 => h && (p.isCalm && (calmB E ops D done i && planOk E ops p D true n (i :: done))))
  | .or i p q, D, h, n, done => (match n with
    | 0 => false
    | n + 1 => (!h || (readyL done 0 ops.toList == i :: q.alts)) && (planOk E ops p D true n (i :: done) && planOk E ops q D false (n + 1) done))
  | .nil, _, h, _, _ => !h
  | .one _, _, _, _, _ => false
  | .lat N, _, h, n, done => h && (match N with
    | n0 :: _ => sameL n0.done done && (Nat.ble n0.rk n && latOk ops N)
    | [] => false)

def planOk1 (E : Env) (ops : Array Oper) (p : Plan) : Bool :=
  match p with
  | .one q => planOk E ops q [] true ops.size []
  | p => planOk E ops p [] true ops.size []

def exX : X → Option Value
  | .sc v => some v
  | .nil _ => some (.slice none 0 0)
  | .fx u _ _ => some u
  | _ => none

def exXs : List X → Option (List Value)
  | [] => some []
  | x :: r => (match exX x with
    | some u => (match exXs r with
      | some us => some (u :: us)
      | none => none)
    | none => none)

def exE (e : V.E) : Option Value :=
  match e with
  | .vals false [x] => exX x
  | .vals true xs => (match exXs xs with
    | some us => some (.agg ⟨us⟩)
    | none => none)
  | _ => none

def fzX (u : Value) (x : X) : X :=
  match x with
  | .rd none n es => .fx u n es
  | x => x

def fzXs (u : Nat → Value) : Nat → List X → List X
  | _, [] => []
  | j, x :: r => fzX (u j) x :: fzXs u (j + 1) r

def thX (x : X) : X :=
  match x with
  | .fx _ n es => .rd none n es
  | x => x

def thXs : List X → List X
  | [] => []
  | x :: r => thX x :: thXs r

def thE (e : V.E) : V.E :=
  match e with
  | .vals agg xs => .vals agg (thXs xs)
  | e => e

def thSl : List (Nat × V.E) → List (Nat × V.E)
  | [] => []
  | (d, e) :: r => (d, thE e) :: thSl r

def thBx : List (Nat × Box) → List (Nat × Box)
  | [] => []
  | (b, ⟨g, xs⟩) :: r => (b, ⟨g, thXs xs⟩) :: thBx r

def fzOf (s : S) (x : Operand) : Option (Nat × Box) :=
  match s.ev x with
  | some (.bptr b g _) => (match get s.boxes b with
    | some bx => if bx.gen = g then some (b, bx) else none
    | none => none)
  | _ => none

def debtW (E : Env) (ops : Array Oper) (s : S) (p : Nat × Option Value) (R : Prop) : Prop :=
  match p.2 with
  | none => R
  | some v => (match ops[p.1]? with
    | some o => (match o.op with
      | .load t x => loadK E.τ t x s fun e => (match exE e with
        | some v' => v' = v ∧ R
        | none => False)
      | _ => False)
    | none => False)

def debtsW (E : Env) (ops : Array Oper) (s : S) (R : Prop) (D : List (Nat × Option Value)) : Prop :=
  List.rec (motive := fun _ => Prop) R (fun p _ r => debtW E ops s p r) D

def loadX (τ : Nat → Option TD) (t : Nat) (p : Operand) (s : S) : Option Value :=
  match τ t with
  | none => none
  | some d => (match okKind d.kind with
    | false => none
    | true => (match s.ev p with
      | some (.bptr b g off) => (match boxAt s b g with
        | some cells => (match mkE d ((cells.drop off).take d.size) with
          | some e => exE e
          | none => none)
        | none => none)
      | some (.rptr ln row off) => (match lnLive s ln with
        | true => (match rXs ln ((row.drop off).take d.size) with
          | some xs => (match mkE d xs with
            | some e => exE e
            | none => none)
          | none => none)
        | false => none)
      | _ => none))

def debtV (E : Env) (ops : Array Oper) (s : S) (p : Nat × Option Value) : Option Value :=
  match p.2 with
  | none => none
  | some _ => (match ops[p.1]? with
    | some o => (match o.op with
      | .load t x => loadX E.τ t x s
      | _ => none)
    | none => none)

def debtsC (E : Env) (ops : Array Oper) (s : S) (D : List (Nat × Option Value)) : Prop := D.map (debtV E ops s) = D.map (·.2)

def insA {α : Type} (k : Nat) (v : α) : List (Nat × α) → List (Nat × α)
  | [] => [(k, v)]
  | (k', v') :: r => (match Nat.ble k k' with
    | true => (k, v) :: (k', v') :: r
    | false => (k', v') :: insA k v r)

def sortA {α : Type} : List (Nat × α) → List (Nat × α)
  | [] => []
  | (k, v) :: r => insA k v (sortA r)

def fKeys {α : Type} : List (Nat × α) → (List (Nat × α) → Prop) → Prop
  | [], k => k []
  | (d, e) :: r, k => fN d fun d => fKeys r fun r => k ((d, e) :: r)

theorem fKeys_eq {α : Type} : ∀ (l : List (Nat × α)) (k : List (Nat × α) → Prop), fKeys l k = k l
  | [], k => rfl
  | (d, e) :: r, k => by simp only [fKeys, fN_eq, fKeys_eq r]

def fKS (s : S) (k : S → Prop) : Prop := fKeys s.slots fun sl => fKeys s.boxes fun bx => fKeys s.regs fun rg => k ⟨sl, bx, rg⟩

theorem fKS_eq (s : S) (k : S → Prop) : fKS s k = k s := by cases s; simp only [fKS, fKeys_eq]

def canonS (s : S) : S := ⟨sortA s.slots, sortA s.boxes, sortA s.regs⟩

def insK {α : Type} (d : Nat) (e : α) : List (Nat × α) → (List (Nat × α) → Prop) → Prop
  | [], k => k [(d, e)]
  | (d', e') :: r, k => (match Nat.ble d d' with
    | true => k ((d, e) :: (d', e') :: r)
    | false => insK d e r fun r' => k ((d', e') :: r'))

theorem insK_eq {α : Type} (d : Nat) (e : α) : ∀ (l : List (Nat × α)) (k : List (Nat × α) → Prop), insK d e l k = k (insA d e l)
  | [], k => rfl
  | (d', e') :: r, k => by
    simp only [insK, insA]
    split
    · rfl
    · rw [insK_eq d e r]

def sortK {α : Type} : List (Nat × α) → (List (Nat × α) → Prop) → Prop
  | [], k => k []
  | (d, e) :: r, k => sortK r fun r' => insK d e r' k

theorem sortK_eq {α : Type} : ∀ (l : List (Nat × α)) (k : List (Nat × α) → Prop), sortK l k = k (sortA l)
  | [], k => rfl
  | (d, e) :: r, k => by simp only [sortK, sortA, sortK_eq r, insK_eq]

def canK (s : S) (k : S → Prop) : Prop := sortK s.slots fun sl => sortK s.boxes fun bx => sortK s.regs fun rg => k ⟨sl, bx, rg⟩

theorem canK_eq (s : S) (k : S → Prop) : canK s k = k (canonS s) := by simp only [canK, sortK_eq, canonS]

structure Fin' (p : Prop) : Prop where
  h : p

structure EdgeP (p q : Prop) : Prop where
  l : p
  r : q

structure NodeP (p q : Prop) : Prop where
  l : p
  r : q

structure DebtP (p q : Prop) : Prop where
  l : p
  r : q

structure RootP (p q : Prop) : Prop where
  l : p
  r : q

@[reducible] def PT := List (Nat × Option Value) → S → Prop

def bindN (N : List LN) (f : List S → Prop) : Prop :=
  List.rec (motive := fun _ => (List S → Prop) → Prop) (fun f => f []) (fun _ _ ih f => ∃ s, ih fun r => f (s :: r)) N f

def latE (P : Program) (E : Env) (nt : Nat) (ops : Array Oper) (D : List (Nat × Option Value)) (full : List S) (s : S) (es : List (Nat × Nat)) : Prop :=
  List.rec (motive := fun _ => Prop) True (fun e _ ih => EdgeP (atW P E nt ops e.1 s fun s' => fS ⟨thSl s'.slots, s'.boxes, s'.regs⟩ fun s' => DebtP (debtsC E ops s' D) (fKS s' fun s' => canK s' fun s' => fS s' fun s'' => (match full[e.2]? with
    | some s2 => s'' = s2
    | none => False))) ih) es

def latA (P : Program) (E : Env) (nt : Nat) (ops : Array Oper) (k : S → Prop) (D : List (Nat × Option Value)) (full : List S) (N : List LN) (ss : List S) : Prop :=
  List.rec (motive := fun _ => List S → Prop) (fun _ => True) (fun n _ ih ss => (match ss with
    | [] => False
    | s :: r => NodeP (match n.edges with
      | [] => Fin' (k ⟨thSl s.slots, thBx s.boxes, s.regs⟩)
      | _ => latE P E nt ops D full s n.edges) (ih r))) N ss

def pLat (P : Program) (E : Env) (nt : Nat) (ops : Array Oper) (k : S → Prop) (N : List LN) : PT := fun D s =>
  bindN N fun full => RootP (fKS s fun s => canK s fun s => fS s fun s' => (match full with
    | s0 :: _ => s' = s0
    | [] => False)) (latA P E nt ops k D full N full)

def pDone (k : S → Prop) : PT := fun _ s => k ⟨thSl s.slots, thBx s.boxes, s.regs⟩

def pTake (E : Env) (nt : Nat) (ops : Array Oper) (i : Nat) (f : PT) : PT := fun D s =>
  match ops[i]? with
    | some o => gdW ops o s (takeK E o s fun e => putK nt o s e fun s' => fS s' fun s' => f D s') (skipW nt o s fun s' => fS s' fun s' => f D s')
    | none => False

def pCalm (E : Env) (nt : Nat) (ops : Array Oper) (i : Nat) (f : PT) : PT := fun D s =>
  match ops[i]? with
    | some o => gdW ops o s (stillK E o s fun e => putK nt o s e fun s' => fS s' fun s' => f D s') (skipW nt o s fun s' => fS s' fun s' => f D s')
    | none => False

def pEarly (E : Env) (nt : Nat) (ops : Array Oper) (i : Nat) (f : PT) : PT := fun D s =>
  match ops[i]? with
    | some o => gdW ops o s (match o.op with
      | .load t x => loadK E.τ t x s fun e => (match exE e with
        | some v => putK nt o s (thE e) fun s' => fS s' fun s' => f ((i, some v) :: D) s'
        | none => (match fzOf s x with
          | some (b, bx) => ∀ u : Nat → Value, fS { s with boxes := put s.boxes b ⟨bx.gen, fzXs u 0 bx.cells⟩ } fun s => loadK E.τ t x s fun e => (match exE e with
            | some v => putK nt o s (thE e) fun s' => fS s' fun s' => f ((i, some v) :: D) s'
            | none => False)
          | none => False))
      | _ => False) (skipW nt o s fun s' => fS s' fun s' => f ((i, none) :: D) s')
    | none => False

def pOr (P : Program) (E : Env) (nt : Nat) (ops : Array Oper) (i : Nat) (q : Plan) (f g : PT) : PT := fun D s =>
  match q with
  | .nil => atW P E nt ops i s fun s' => fS ⟨thSl s'.slots, s'.boxes, s'.regs⟩ fun s' => debtsW E ops s' (f D s') D
  | _ => (atW P E nt ops i s fun s' => fS ⟨thSl s'.slots, s'.boxes, s'.regs⟩ fun s' => debtsW E ops s' (f D s') D) ∧ g D s

def planW (P : Program) (E : Env) (nt : Nat) (ops : Array Oper) (k : S → Prop) (p : Plan) : PT :=
  Plan.rec (motive := fun _ => PT) (pDone k) (fun i _ f => pTake E nt ops i f) (fun i _ f => pEarly E nt ops i f) (fun i _ f => pCalm E nt ops i f) (fun i _ q f g => pOr P E nt ops i q f g) (fun _ _ => True) (fun _ _ => fun _ _ => False) (fun N => pLat P E nt ops k N) p

theorem planW_or {P : Program} {E : Env} {nt : Nat} {ops : Array Oper} {k : S → Prop} {i : Nat} {p q : Plan} {D : List (Nat × Option Value)} {s : S} (h : planW P E nt ops k (.or i p q) D s) :
    (atW P E nt ops i s fun s' => fS ⟨thSl s'.slots, s'.boxes, s'.regs⟩ fun s' => debtsW E ops s' (planW P E nt ops k p D s') D) ∧ planW P E nt ops k q D s := by
  cases q with
  | nil => exact ⟨h, trivial⟩
  | _ => exact h

theorem lookFree_spec {ops : Array Oper} {o : Oper} : ∀ {D : List Nat}, lookFree ops o D = true → ∀ j ∈ D, ∀ oj, ops[j]? = some oj → ∀ d, o.dst = some d → d ∉ oj.looksAt ops
  | j :: r, h, j', hj, oj, ho, d, hd => by
    simp only [lookFree, Bool.and_eq_true] at h
    cases hj with
    | head =>
      have h1 := h.1
      rw [ho, hd] at h1
      simp only [Bool.not_eq_true'] at h1
      rw [looksL_eq]
      exact fun hm => by rw [memb_mem.2 hm] at h1; cases h1
    | tail _ hj => exact lookFree_spec h.2 j' hj oj ho d hd

theorem takeB_spec {E : Env} {ops : Array Oper} {listed : Array Bool} {D done : List Nat} (hd : LD ops listed done) {i : Nat} (h : takeB E ops D done i = true) : ∃ o, ops[i]? = some o ∧ i ∈ Region.ready .any ops listed ∧ Region.free .any ops listed i = true ∧ lookFree ops o D = true := by
  unfold takeB at h
  split at h
  · rename_i o ho
    simp only [Bool.and_eq_true] at h
    obtain ⟨h1, h2, h3, h4⟩ := h
    exact ⟨o, ho, by rw [ready_eq hd]; exact memb_mem.1 h2, by rw [free_eq hd ho]; exact h3, h4⟩
  · cases h

theorem calmB_spec {E : Env} {ops : Array Oper} {listed : Array Bool} {D done : List Nat} (hd : LD ops listed done) {i : Nat} (h : calmB E ops D done i = true) : ∃ o, ops[i]? = some o ∧ i ∈ Region.ready .any ops listed ∧ Region.free .any ops listed i = true ∧ lookFree ops o D = true := by
  unfold calmB at h
  split at h
  · rename_i o ho
    simp only [Bool.and_eq_true] at h
    obtain ⟨h1, h2, h3, h4⟩ := h
    exact ⟨o, ho, by rw [ready_eq hd]; exact memb_mem.1 h2, by rw [free_eq hd ho]; exact h3, h4⟩
  · cases h

theorem earlyB_spec {ops : Array Oper} {listed : Array Bool} {D done : List Nat} (hd : LD ops listed done) {i : Nat} (h : earlyB ops D done i = true) : ∃ o, ops[i]? = some o ∧ i ∈ Region.ready .any ops listed ∧ Region.free .any ops listed i = true ∧ lookFree ops o (i :: D) = true := by
  unfold earlyB at h
  split at h
  · rename_i o ho
    simp only [Bool.and_eq_true] at h
    obtain ⟨h2, h3, h4⟩ := h
    exact ⟨o, ho, by rw [ready_eq hd]; exact memb_mem.1 h2, by rw [free_eq hd ho]; exact h3, h4⟩
  · cases h

def wpAnyJ (P : Program) (ops : Array Oper) (Q : Exit → Act → World → Prop) (J : Act → World → Prop) : Nat → Array Bool → Act → World → Prop
  | 0, listed, a, w => Region.ready .any ops listed = [] ∧ Q .normal a w
  | fuel + 1, listed, a, w => (Region.ready .any ops listed = [] → Q .normal a w) ∧
    ∀ i ∈ Region.ready .any ops listed, wpOp P ops Q i (fun a w => J a w ∧ wpAnyJ P ops Q J fuel (listed.setIfInBounds i true) a w) a w

theorem wpAnyJ_mono {ops : Array Oper} {Q : Exit → Act → World → Prop} {J J' : Act → World → Prop} (hJ : ∀ a w, J a w → J' a w) : ∀ (fuel : Nat) {listed : Array Bool} {a : Act} {w : World}, wpAnyJ P ops Q J fuel listed a w → wpAnyJ P ops Q J' fuel listed a w
  | 0, _, _, _, h => h
  | fuel + 1, _, _, _, h => ⟨h.1, fun i hi => wpOp_mono (fun a w h' => ⟨hJ _ _ h'.1, wpAnyJ_mono hJ fuel h'.2⟩) (h.2 i hi)⟩

theorem wpAnyJ_any {ops : Array Oper} {Q : Exit → Act → World → Prop} {J : Act → World → Prop} : ∀ (fuel : Nat) {listed : Array Bool} {a : Act} {w : World}, wpAnyJ P ops Q J fuel listed a w → wpAny P .any ops Q fuel listed a w
  | 0, _, _, _, h => h
  | fuel + 1, _, _, _, h => ⟨h.1, fun i hi => wpOp_mono (fun a w h' => wpAnyJ_any fuel h'.2) (h.2 i hi)⟩

theorem wpOp_here {ops : Array Oper} {Q K} {i : Nat} {oi : Oper} {v : Value} {a : Act} {w : World} (hi : ops[i]? = some oi) (this : Region.wanted oi (yielded ops a.tmps) = true) (hrun : (execOp a.eval oi).run P w = .ok (.value v) w) (h : K (a.put oi.dst v) w) : wpOp P ops Q i K a w := by
  unfold wpOp
  rw [hi]
  simp only [this, if_true, Oper.wp, hrun, Oper.upon]
  exact .inl h

theorem wpOp_rel {ops : Array Oper} {Q K} {j : Nat} {oj : Oper} {a : Act} {w : World} (hj : ops[j]? = some oj) (h : wpOp P ops Q j K a w) : wpOp P ops Q j (fun a' w' => (∃ u, a'.tmps = (a.put oj.dst u).tmps) ∧ K a' w') a w := by
  unfold wpOp at *
  rw [hj] at *
  simp only at *
  by_cases hw : Region.wanted oj (yielded ops a.tmps) = true
  · rw [if_pos hw] at *
    rcases h with h | h
    case inr => exact .inr h
    refine .inl ?_
    unfold Oper.wp at *
    generalize (execOp a.eval oj).run P w = r at *
    cases r with
    | ok n w' =>
      cases n <;> simp only [Oper.upon] at h ⊢
      case value u => exact ⟨⟨u, rfl⟩, h⟩
      case skip => exact ⟨⟨undef, rfl⟩, h⟩
      case defer d => exact ⟨⟨undef, by cases oj.dst <;> rfl⟩, h⟩
      case enter f args =>
        refine Calls.mono h fun e w'' he => ?_
        cases e with
        | returned u => exact ⟨⟨u, rfl⟩, he⟩
        | panicked c => exact he
        | outgrown => exact he
      case row row args => exact Rows.mono h fun u w'' he => ⟨⟨u, rfl⟩, he⟩
    | halt x w' => cases x <;> simp only [Oper.upon] at h ⊢; exact h
  · rw [if_neg hw] at *
    exact ⟨⟨undef, rfl⟩, h⟩

theorem eval_tmps {a a' : Act} (h : a'.tmps = a.tmps) : a'.eval = a.eval := by
  funext x
  cases x <;> simp [Act.eval, h]

theorem const_apart {ops : Array Oper} {oi oj : Oper} {v : Value} (hap : oi.apart ops oj = true) : ({ oi with op := .assign (.const v), guard := none } : Oper).apart ops oj = true := by
  obtain ⟨q1, q2, q3⟩ := Oper.apart_spec hap
  unfold Oper.apart
  cases hd : oi.dst with
  | none => cases hd2 : oj.dst <;> simp [Oper.looksAt, Op.operands]
  | some d =>
    have e1 := q1 d hd
    have e2 := q2 d hd
    cases hd2 : oj.dst with
    | none => simp [Oper.looksAt, Op.operands] at e1 ⊢; exact e1
    | some d2 =>
      rw [hd2] at e2
      simp [Oper.looksAt, Op.operands] at e1 e2 ⊢
      exact ⟨e1, e2⟩

theorem wpOp_before {ops : Array Oper} {Q K} {j : Nat} {oi oj : Oper} {v : Value} {a : Act} {w : World} (hj : ops[j]? = some oj) (hsi : ∀ cs b, oi.op ≠ .select cs b) (hsj : ∀ cs b, oj.op ≠ .select cs b) (hap : oi.apart ops oj = true)
    (hQ : ∀ c a w, Q (.panic c) (a.put oi.dst v) w → Q (.panic c) a w) (h : wpOp P ops Q j K (a.put oi.dst v) w) :
    wpOp P ops Q j (fun a' w' => (execOp a'.eval oi = execOp a.eval oi ∧ Region.wanted oi (yielded ops a'.tmps) = Region.wanted oi (yielded ops a.tmps)) ∧ K (a'.put oi.dst v) w') a w := by
  have hyf : Yields P ops ({ oi with op := .assign (.const v), guard := none } : Oper) v a := .inl ⟨by simp [Region.wanted], fun w => by simp [execOp, Act.eval]⟩
  have h2 := wpOp_put (oi := { oi with op := .assign (.const v), guard := none }) hj (const_apart hap) (fun cs b h => by cases h) hsj hQ hyf h
  refine wpOp_mono (fun a' w' h3 => ?_) (wpOp_rel hj h2)
  obtain ⟨⟨u, hu⟩, -, h4⟩ := h3
  have h5 := (Oper.apart_spec hap).2.2
  refine ⟨⟨?_, ?_⟩, h4⟩
  · rw [eval_tmps hu]
    exact execOp_put oi hsi a oj.dst u h5
  · rw [hu]
    exact wanted_put oi a oj.dst u h5

theorem hall_ne {ops : Array Oper} {listed : Array Bool} {i : Nat} {oj : Oper} (hr : i ∈ Region.ready .any ops listed) (hall : ∀ e ∈ oj.after, Region.binds .any e = true → listed.getD e.on false = true) : ∀ e ∈ oj.after, Region.binds .any e = true → e.on ≠ i := fun e he hb heq => by
  have h1 := hall e he hb
  have h0 := (mem_ready.1 hr).1
  rw [heq] at h1
  rcases Nat.lt_or_ge i listed.size with h' | h'
  · simp [h'] at h0 h1; rw [h0] at h1; cases h1
  · simp [Array.getElem?_eq_none h'] at h1

def Free (ops : Array Oper) (listed : Array Bool) (i : Nat) (oi : Oper) : Prop :=
  ∀ j oj, ops[j]? = some oj → j ≠ i → listed.getD j true = false → (∀ e ∈ oj.after, Region.binds .any e = true → e.on ≠ i) → oi.apart ops oj = true

theorem Free.put {ops : Array Oper} {listed : Array Bool} {i j : Nat} {oi : Oper} (h : Free ops listed i oi) (hjun : listed.getD j true = false) : Free ops (listed.setIfInBounds j true) i oi := fun k ok hk hki hun hno => by
  refine h k ok hk hki ?_ hno
  by_cases hjk : j = k
  · subst hjk; exact hjun
  · rw [getD_set_ne true hjk] at hun; exact hun

theorem anyJ_take {ops : Array Oper} {Q : Exit → Act → World → Prop} {J : Act → World → Prop} {i : Nat} {oi : Oper} {v : Value} (hi : ops[i]? = some oi) (hsel : ∀ (j : Nat) (o : Oper) cs b, ops[j]? = some o → o.op ≠ .select cs b)
    (hQ : ∀ c a w, Q (.panic c) (a.put oi.dst v) w → Q (.panic c) a w) (hp : ∀ a w, J (a.put oi.dst v) w ↔ J a w) : ∀ (fuel : Nat) {listed : Array Bool} {a : Act} {w : World}, Free ops listed i oi →
      i ∈ Region.ready .any ops listed → J a w → Yields P ops oi v a → wpAnyJ P ops Q J fuel (listed.setIfInBounds i true) (a.put oi.dst v) w → wpAnyJ P ops Q J (fuel + 1) listed a w
  | 0, listed, a, w, _, hr, hJ, hy, H => by
    refine ⟨fun h => (by rw [h] at hr; cases hr), fun j hj => ?_⟩
    by_cases hji : j = i
    · subst hji; exact hy.wpOp hi ⟨(hp _ _).2 hJ, H⟩
    · have := ready_mono hj hji
      rw [H.1] at this
      cases this
  | fuel + 1, listed, a, w, hfree, hr, hJ, hy, H => by
    refine ⟨fun h => (by rw [h] at hr; cases hr), fun j hj => ?_⟩
    by_cases hji : j = i
    · subst hji; exact hy.wpOp hi ⟨(hp _ _).2 hJ, H⟩
    · have h1 := H.2 j (ready_mono hj hji)
      obtain ⟨hjun, oj, hoj, hall⟩ := mem_ready.1 hj
      have h2 := wpOp_put hoj (hfree j oj hoj hji hjun (hall_ne hr hall)) (fun cs b => hsel i oi cs b hi) (fun cs b => hsel j oj cs b hoj) hQ hy h1
      refine wpOp_mono (fun a' w' h3 => ⟨(hp _ _).1 h3.2.1, anyJ_take hi hsel hQ hp fuel (hfree.put hjun) (ready_mono hr (Ne.symm hji)) ((hp _ _).1 h3.2.1) h3.1 ?_⟩) h2
      rw [Array.setIfInBounds_comm _ _ hji]
      exact h3.2.2

theorem anyJ_early {ops : Array Oper} {Q : Exit → Act → World → Prop} {J : Act → World → Prop} {i : Nat} {oi : Oper} {v : Value} (hi : ops[i]? = some oi) (hsel : ∀ (j : Nat) (o : Oper) cs b, ops[j]? = some o → o.op ≠ .select cs b)
    (hQ : ∀ c a w, Q (.panic c) (a.put oi.dst v) w → Q (.panic c) a w) (hp : ∀ a w, J (a.put oi.dst v) w ↔ J a w) (hself : ∀ a : Act, execOp (a.put oi.dst v).eval oi = execOp a.eval oi) : ∀ (fuel : Nat) {listed : Array Bool} {a : Act} {w : World}, Free ops listed i oi →
      i ∈ Region.ready .any ops listed → J a w → Region.wanted oi (yielded ops a.tmps) = true → (execOp a.eval oi).run P w = .ok (.value v) w →
      wpAnyJ P ops Q (fun a w => J a w ∧ (execOp a.eval oi).run P w = .ok (.value v) w) fuel (listed.setIfInBounds i true) (a.put oi.dst v) w → wpAnyJ P ops Q J (fuel + 1) listed a w
  | 0, listed, a, w, _, hr, hJ, hg, hy, H => by
    refine ⟨fun h => (by rw [h] at hr; cases hr), fun j hj => ?_⟩
    by_cases hji : j = i
    · subst hji; exact wpOp_here hi hg hy ⟨(hp _ _).2 hJ, H⟩
    · have := ready_mono hj hji
      rw [H.1] at this
      cases this
  | fuel + 1, listed, a, w, hfree, hr, hJ, hg, hy, H => by
    refine ⟨fun h => (by rw [h] at hr; cases hr), fun j hj => ?_⟩
    by_cases hji : j = i
    · subst hji; exact wpOp_here hi hg hy ⟨(hp _ _).2 hJ, wpAnyJ_mono (fun _ _ h => h.1) _ H⟩
    · have h1 := H.2 j (ready_mono hj hji)
      obtain ⟨hjun, oj, hoj, hall⟩ := mem_ready.1 hj
      have h2 := wpOp_before hoj (fun cs b => hsel i oi cs b hi) (fun cs b => hsel j oj cs b hoj) (hfree j oj hoj hji hjun (hall_ne hr hall)) hQ h1
      refine wpOp_mono (fun a' w' h3 => ?_) h2
      obtain ⟨⟨_, hw'⟩, ⟨h30, h31⟩, h32⟩ := h3
      have h4 : J a' w' := (hp _ _).1 h30
      have h5 : (execOp a'.eval oi).run P w' = .ok (.value v) w' := by
        rw [hself] at h31
        exact h31
      refine ⟨h4, anyJ_early hi hsel hQ hp hself fuel (hfree.put hjun) (ready_mono hr (Ne.symm hji)) h4 (hw'.trans hg) h5 ?_⟩
      rw [Array.setIfInBounds_comm _ _ hji]
      exact h32

theorem anyJ_still {ops : Array Oper} {Q : Exit → Act → World → Prop} {J : Act → World → Prop} {w : World} {i : Nat} {oi : Oper} {v : Value} (hi : ops[i]? = some oi) (hsel : ∀ (j : Nat) (o : Oper) cs b, ops[j]? = some o → o.op ≠ .select cs b)
    (hQ : ∀ c a w, Q (.panic c) (a.put oi.dst v) w → Q (.panic c) a w) (hJw : ∀ a w', J a w' → w' = w) (hp : ∀ a, J (a.put oi.dst v) w ↔ J a w) : ∀ (fuel : Nat) {listed : Array Bool} {a : Act}, Free ops listed i oi →
      i ∈ Region.ready .any ops listed → J a w → (Region.wanted oi (yielded ops a.tmps) = true ∧ (execOp a.eval oi).run P w = .ok (.value v) w ∨ Region.wanted oi (yielded ops a.tmps) = false ∧ v = undef) →
      wpAnyJ P ops Q J fuel (listed.setIfInBounds i true) (a.put oi.dst v) w → wpAnyJ P ops Q J (fuel + 1) listed a w := by
  have here : ∀ {a : Act} {K : Act → World → Prop}, (Region.wanted oi (yielded ops a.tmps) = true ∧ (execOp a.eval oi).run P w = .ok (.value v) w ∨ Region.wanted oi (yielded ops a.tmps) = false ∧ v = undef) → K (a.put oi.dst v) w → wpOp P ops Q i K a w := by
    intro a K hy h
    rcases hy with ⟨h1, h2⟩ | ⟨h1, h2⟩
    · exact wpOp_here hi h1 h2 h
    · unfold wpOp
      rw [hi]
      simp only [h1, Bool.false_eq_true, if_false]
      rw [← h2]
      exact h
  intro fuel
  induction fuel with
  | zero =>
    intro listed a _ hr hJ hy H
    refine ⟨fun h => (by rw [h] at hr; cases hr), fun j hj => ?_⟩
    by_cases hji : j = i
    · subst hji; exact here hy ⟨(hp _).2 hJ, H⟩
    · have := ready_mono hj hji
      rw [H.1] at this
      cases this
  | succ fuel ih =>
    intro listed a hfree hr hJ hy H
    refine ⟨fun h => (by rw [h] at hr; cases hr), fun j hj => ?_⟩
    by_cases hji : j = i
    · subst hji; exact here hy ⟨(hp _).2 hJ, H⟩
    · have h1 := H.2 j (ready_mono hj hji)
      obtain ⟨hjun, oj, hoj, hall⟩ := mem_ready.1 hj
      have h2 := wpOp_before hoj (fun cs b => hsel i oi cs b hi) (fun cs b => hsel j oj cs b hoj) (hfree j oj hoj hji hjun (hall_ne hr hall)) hQ h1
      refine wpOp_mono (fun a' w' h3 => ?_) h2
      obtain ⟨⟨he', hw'⟩, h30, h32⟩ := h3
      have hww := hJw _ _ h30
      subst hww
      have h4 := (hp _).1 h30
      refine ⟨h4, ih (hfree.put hjun) (ready_mono hr (Ne.symm hji)) h4 ?_ ?_⟩
      · rw [he', hw']
        exact hy
      · rw [Array.setIfInBounds_comm _ _ hji]
        exact h32

def Debts (P : Program) (ops : Array Oper) (D : List (Nat × Option Value)) (a : Act) (w : World) : Prop :=
  ∀ p ∈ D, ∀ v, p.2 = some v → ∃ o t x, ops[p.1]? = some o ∧ o.op = .load t x ∧ (execOp a.eval o).run P w = .ok (.value v) w

theorem Debts.put {ops : Array Oper} {o : Oper} {D : List (Nat × Option Value)} (h : lookFree ops o (D.map (·.1)) = true) (v : Value) (a : Act) (w : World) : Debts P ops D (a.put o.dst v) w ↔ Debts P ops D a w := by
  have key : ∀ p ∈ D, ∀ o' t x, ops[p.1]? = some o' → o'.op = .load t x → execOp (a.put o.dst v).eval o' = execOp a.eval o' := fun p hp o' t x h1 h2 =>
    execOp_put o' (fun cs b e => by rw [h2] at e; cases e) a o.dst v (lookFree_spec h p.1 (List.mem_map_of_mem hp) o' h1)
  constructor
  · intro hd p hp u hu
    obtain ⟨o', t, x, h1, h2, h3⟩ := hd p hp u hu
    exact ⟨o', t, x, h1, h2, by rw [← key p hp o' t x h1 h2]; exact h3⟩
  · intro hd p hp u hu
    obtain ⟨o', t, x, h1, h2, h3⟩ := hd p hp u hu
    exact ⟨o', t, x, h1, h2, by rw [key p hp o' t x h1 h2]; exact h3⟩

theorem exX_val {w : World} {g : G} {rs : List (Nat × Reg)} {u v : Value} {x : X} (h : XOk w g rs u x) (he : exX x = some v) : u = v := by
  cases x with
  | sc v' => cases he; exact h
  | nil n => cases he; exact h
  | fx v' n es => cases he; exact h.1
  | rd ln n es => cases he
  | ref h g => cases he
  | sub h g lo hi => cases he
  | inn h iv i j => cases he

theorem exXs_val {w : World} {g : G} {rs : List (Nat × Reg)} : ∀ {xs : List X} {vs : List Value}, exXs xs = some vs → vs.length = xs.length ∧ ∀ (j : Nat) (x : X), xs[j]? = some x → ∀ u, XOk w g rs u x → vs[j]? = some u
  | [], vs, e => by cases e; exact ⟨rfl, fun j x hj => (by simp at hj)⟩
  | x :: r, vs, e => by
    simp only [exXs] at e
    split at e
    · rename_i u0 h1
      split at e
      · rename_i us h2
        cases e
        obtain ⟨i1, i2⟩ := exXs_val h2
        refine ⟨by simp [i1], fun j y hj u hu => ?_⟩
        cases j with
        | zero => cases hj; rw [exX_val hu h1]; rfl
        | succ j => exact i2 j y hj u hu
      · cases e
    · cases e

theorem exE_val {w : World} {g : G} {bs : List (Nat × Box)} {rs : List (Nat × Reg)} {u v : Value} {e : V.E} (h : EOk w g bs rs u e) (he : exE e = some v) : u = v := by
  unfold exE at he
  split at he
  · obtain ⟨x, e1, e2⟩ := h
    cases e1
    exact exX_val e2 he
  · rename_i xs
    obtain ⟨us, rfl, h1, h2⟩ := h
    split at he
    · rename_i vs hvs
      cases he
      obtain ⟨i1, i2⟩ := exXs_val (w := w) (g := g) (rs := rs) hvs
      congr 1
      apply Array.ext'
      apply List.ext_getElem?
      intro j
      rw [Array.getElem?_toList]
      rcases Nat.lt_or_ge j xs.length with hlt | hge
      · have hx : xs[j]? = some xs[j] := List.getElem?_eq_getElem hlt
        obtain ⟨u, q1, q2⟩ := h2 j _ hx
        rw [q1]
        exact (i2 j _ hx u q2).symm
      · rw [Array.getElem?_eq_none (by omega)]
        exact (List.getElem?_eq_none (by show vs.length ≤ j; omega)).symm
    · cases he
  · cases he

theorem thX_ok {w : World} {g : G} {rs : List (Nat × Reg)} {u : Value} {x : X} (h : XOk w g rs u x) : XOk w g rs u (thX x) := by
  cases x with
  | fx v n es => exact h.2
  | _ => exact h

theorem thXs_len : ∀ xs : List X, (thXs xs).length = xs.length
  | [] => rfl
  | x :: r => by simp [thXs, thXs_len r]

theorem thXs_at : ∀ {xs : List X} {j : Nat} {y : X}, (thXs xs)[j]? = some y → ∃ x, xs[j]? = some x ∧ y = thX x
  | [], j, y, h => by simp [thXs] at h
  | x :: r, 0, y, h => by cases h; exact ⟨x, rfl, rfl⟩
  | x :: r, j + 1, y, h => thXs_at (xs := r) h

theorem thE_ok {w : World} {g : G} {bs : List (Nat × Box)} {rs : List (Nat × Reg)} {u : Value} {e : V.E} (h : EOk w g bs rs u e) : EOk w g bs rs u (thE e) := by
  cases e with
  | vals agg xs =>
    cases agg with
    | false => obtain ⟨x, rfl, h2⟩ := h; exact ⟨_, rfl, thX_ok h2⟩
    | true =>
      obtain ⟨us, e1, h1, h2⟩ := h
      refine ⟨us, e1, by rw [thXs_len]; exact h1, fun j y hj => ?_⟩
      obtain ⟨x, q1, rfl⟩ := thXs_at hj
      obtain ⟨u, q2, q3⟩ := h2 j x q1
      exact ⟨u, q2, thX_ok q3⟩
  | _ => exact h

theorem get_thSl : ∀ {l : List (Nat × V.E)} {d : Nat} {e : V.E}, get (thSl l) d = some e → ∃ e0, get l d = some e0 ∧ e = thE e0
  | (k, v) :: r, d, e, h => by
    simp only [thSl, get] at h ⊢
    split at h
    · rename_i hk
      cases h
      exact ⟨v, by rw [if_pos hk], rfl⟩
    · rename_i hk
      obtain ⟨e0, h1, h2⟩ := get_thSl (l := r) h
      exact ⟨e0, by rw [if_neg hk]; exact h1, h2⟩
  | [], d, e, h => by cases h

theorem get_thBx (l : List (Nat × Box)) (b : Nat) : get (thBx l) b = (get l b).map fun x => ⟨x.gen, thXs x.cells⟩ := by
  induction l with
  | nil => rfl
  | cons p r ih =>
    obtain ⟨k, g, xs⟩ := p
    simp only [thBx, get]
    split
    · rfl
    · exact ih

theorem th_slots {g : G} {s : S} {a : Act} {w : World} (hs : SlotsOk g s nt a w) : SlotsOk g ⟨thSl s.slots, s.boxes, s.regs⟩ nt a w := fun d e hd => by
  obtain ⟨e0, h1, rfl⟩ := get_thSl hd
  obtain ⟨h2, h3⟩ := hs d e0 h1
  exact ⟨h2, thE_ok h3⟩

theorem Real.thaw {s : S} {a : Act} {w : World} (h : Real w0 A B nt s a w) : Real w0 A B nt ⟨thSl s.slots, s.boxes, s.regs⟩ a w := by
  obtain ⟨h1, h2, g, hm, hs⟩ := h
  exact ⟨h1, h2, g, ⟨hm.ext, hm.lt, hm.fr, hm.regs, hm.boxes, hm.im, hm.pl⟩, th_slots hs⟩

theorem Real.retell {s : S} {a : Act} {w : World} (h : Real w0 A B nt s a w) {bx : List (Nat × Box)} (hb : ∀ g, Mem w0 A B g s w → ∀ b x, get bx b = some x → ∃ x0, get s.boxes b = some x0 ∧ x.gen = x0.gen ∧ x.cells.length = x0.cells.length ∧
      ∀ (j : Nat) (y : X), x.cells[j]? = some y → ∃ y0, x0.cells[j]? = some y0 ∧ ∀ u, w.cell? ⟨(g.loc b).1, (g.loc b).2 + j, none⟩ = some u → XOk w g s.regs u y0 → XOk w g s.regs u y)
    (hk : ∀ b x0, get s.boxes b = some x0 → ∃ x, get bx b = some x ∧ x.gen = x0.gen ∧ x.cells.length = x0.cells.length) : Real w0 A B nt ⟨s.slots, bx, s.regs⟩ a w := by
  obtain ⟨h1, h2, g, hm, hs⟩ := h
  have hst : Step g s w g ⟨s.slots, bx, s.regs⟩ w := by
    refine ⟨fun x h => ⟨h, rfl⟩, fun h r hr => ⟨r, hr, Nat.le_refl _, Nat.le_refl _, fun hl _ => ⟨hl, rfl, rfl, rfl⟩, fun hl _ => ⟨hl, rfl, fun x hx => ⟨hx, rfl⟩⟩⟩, fun b x hx => ?_⟩
    obtain ⟨x', q1, q2, q3⟩ := hk b x hx
    exact ⟨x', q1, by omega, fun _ => rfl⟩
  refine ⟨h1, h2, g, ⟨hm.ext, hm.lt, hm.fr, hm.regs, fun b x hx => ?_, hm.im, ⟨fun c hc => ?_, hm.pl.2⟩⟩, fun d e hd => ?_⟩
  · obtain ⟨x0, q1, q2, q3, q4⟩ := hb g hm b x hx
    obtain ⟨t1, t2, cs, e, t3, t4, t5⟩ := hm.boxes b x0 q1
    refine ⟨t1, by rw [q3]; exact t2, cs, e, t3, by rw [q3]; exact t4, fun j y hj => ?_⟩
    obtain ⟨y0, r1, r2⟩ := q4 j y hj
    obtain ⟨u, r3, r4, r5⟩ := t5 j y0 r1
    exact ⟨u, r3, r4, r2 u ((cell_of t3).trans r3) r5⟩
  · obtain ⟨p1, x, p2, p3⟩ := hm.pl.1 c hc
    obtain ⟨x', q1, q2, q3⟩ := hk c x p2
    exact ⟨p1, x', q1, fun e => p3 (by omega)⟩
  · obtain ⟨q1, q2⟩ := hs d e hd
    exact ⟨q1, q2.step hst⟩

theorem Real.thawB {s : S} {a : Act} {w : World} (h : Real w0 A B nt s a w) : Real w0 A B nt ⟨thSl s.slots, thBx s.boxes, s.regs⟩ a w := by
  refine (Real.retell h.thaw (bx := thBx s.boxes) (fun g hm b x hx => ?_) (fun b x0 hx => ?_))
  · rw [get_thBx] at hx
    cases h0 : get s.boxes b with
    | none => rw [h0] at hx; cases hx
    | some x0 =>
      rw [h0] at hx
      cases hx
      refine ⟨x0, rfl, rfl, thXs_len _, fun j y hj => ?_⟩
      obtain ⟨y0, r1, rfl⟩ := thXs_at hj
      exact ⟨y0, r1, fun u _ hu => thX_ok hu⟩
  · have e : get (thBx s.boxes) b = some ⟨x0.gen, thXs x0.cells⟩ := by rw [get_thBx, show get s.boxes b = some x0 from hx]; rfl
    exact ⟨_, e, rfl, thXs_len _⟩

theorem fzXs_len (u : Nat → Value) : ∀ (i : Nat) (xs : List X), (fzXs u i xs).length = xs.length
  | _, [] => rfl
  | i, x :: r => by simp [fzXs, fzXs_len u (i + 1) r]

theorem fzXs_at (u : Nat → Value) : ∀ {i : Nat} {xs : List X} {j : Nat} {y : X}, (fzXs u i xs)[j]? = some y → ∃ x, xs[j]? = some x ∧ y = fzX (u (i + j)) x
  | i, [], j, y, h => by simp [fzXs] at h
  | i, x :: r, 0, y, h => by cases h; exact ⟨x, rfl, rfl⟩
  | i, x :: r, j + 1, y, h => by
    obtain ⟨x', h1, h2⟩ := fzXs_at u (i := i + 1) (xs := r) h
    exact ⟨x', h1, by rw [h2, show i + 1 + j = i + (j + 1) by omega]⟩

theorem fzX_ok {w : World} {g : G} {rs : List (Nat × Reg)} {u : Value} {x : X} (h : XOk w g rs u x) : XOk w g rs u (fzX u x) := by
  unfold fzX
  split
  · exact ⟨rfl, h⟩
  · exact h

theorem Real.freeze {s : S} {a : Act} {w : World} (h : Real w0 A B nt s a w) {x : Operand} {b : Nat} {bx : Box} (hx : fzOf s x = some (b, bx)) :
    ∃ u : Nat → Value, Real w0 A B nt { s with boxes := put s.boxes b ⟨bx.gen, fzXs u 0 bx.cells⟩ } a w := by
  have hb : get s.boxes b = some bx := by
    unfold fzOf at hx
    split at hx
    · split at hx
      · split at hx
        · cases hx; assumption
        · cases hx
      · cases hx
    · cases hx
  obtain ⟨h1, h2, g, hm, hs⟩ := h
  have hst : ∀ u : Nat → Value, Step g s w g { s with boxes := put s.boxes b ⟨bx.gen, fzXs u 0 bx.cells⟩ } w := fun u => by
    refine ⟨fun x h => ⟨h, rfl⟩, fun h r hr => ⟨r, hr, Nat.le_refl _, Nat.le_refl _, fun hl _ => ⟨hl, rfl, rfl, rfl⟩, fun hl _ => ⟨hl, rfl, fun x hx => ⟨hx, rfl⟩⟩⟩, fun c x hx => ?_⟩
    by_cases hc : b = c
    · subst hc
      rw [hb] at hx
      cases hx
      exact ⟨_, get_put_same .., Nat.le_refl _, fun _ => rfl⟩
    · exact ⟨x, by rw [get_put_ne _ _ hc]; exact hx, Nat.le_refl _, fun _ => rfl⟩
  refine ⟨fun j => (w.cell? ⟨(g.loc b).1, (g.loc b).2 + j, none⟩).getD undef, h1, h2, g, ⟨hm.ext, hm.lt, hm.fr, hm.regs, fun c x hx => ?_, hm.im, ⟨fun c hc => ?_, hm.pl.2⟩⟩, fun d e hd => ?_⟩
  · by_cases hc : b = c
    · subst hc
      rw [get_put_same] at hx
      cases hx
      obtain ⟨t1, t2, cs, e, t3, t4, t5⟩ := hm.boxes b bx hb
      refine ⟨t1, by rw [fzXs_len]; exact t2, cs, e, t3, by rw [fzXs_len]; exact t4, fun j y hj => ?_⟩
      obtain ⟨y0, r1, rfl⟩ := fzXs_at _ hj
      obtain ⟨u, r3, r4, r5⟩ := t5 j y0 r1
      refine ⟨u, r3, r4, ?_⟩
      have : w.cell? ⟨(g.loc b).1, (g.loc b).2 + (0 + j), none⟩ = some u := by rw [Nat.zero_add]; exact (cell_of t3).trans r3
      rw [this]
      exact fzX_ok r5
    · rw [get_put_ne _ _ hc] at hx
      exact hm.boxes c x hx
  · obtain ⟨p1, x, p2, p3⟩ := hm.pl.1 c hc
    by_cases hcb : b = c
    · subst hcb
      rw [hb] at p2
      cases p2
      exact ⟨p1, _, get_put_same .., by first | exact p3 | (rw [← p3])⟩
    · exact ⟨p1, x, by rw [get_put_ne _ _ hcb]; exact p2, p3⟩
  · obtain ⟨q1, q2⟩ := hs d e hd
    exact ⟨q1, q2.step (hst _)⟩

theorem debts_ok (hτ : ∀ t d, E.τ t = some d → TyOk P t d) {ops : Array Oper} {s : S} {a : Act} {w : World} {R : Prop} (hr : Real w0 A B nt s a w) : ∀ {D : List (Nat × Option Value)}, debtsW E ops s R D → Debts P ops D a w ∧ R
  | [], h => ⟨fun p hp => (by cases hp), h⟩
  | (i, none) :: r, h => by
    replace h : debtsW E ops s R r := h
    obtain ⟨i1, i2⟩ := debts_ok hτ hr h
    refine ⟨fun p hp u hu => ?_, i2⟩
    cases hp with
    | head => cases hu
    | tail _ hp => exact i1 p hp u hu
  | (i, some v) :: r, h => by
    replace h : debtW E ops s (i, some v) (debtsW E ops s R r) := h
    unfold debtW at h
    simp only at h
    split at h
    · rename_i o ho
      split at h
      · rename_i t x hop
        obtain ⟨hdf, hsz, g, hm, hs⟩ := hr
        obtain ⟨e, u, h1, h2, h3⟩ := load_ok hτ o t x hop hm hs h
        split at h1
        · rename_i v' hv'
          obtain ⟨h4, h5⟩ := h1
          subst h4
          obtain ⟨i1, i2⟩ := debts_ok hτ ⟨hdf, hsz, g, hm, hs⟩ h5
          rw [exE_val h3 hv'] at h2
          refine ⟨fun p hp u hu => ?_, i2⟩
          cases hp with
          | head => cases hu; exact ⟨o, t, x, ho, hop, h2⟩
          | tail _ hp => exact i1 p hp u hu
        · exact h1.elim
      · exact h.elim
    · exact h.elim

theorem loadX_K {τ : Nat → Option TD} {t : Nat} {p : Operand} {s : S} {v : Value} (h : loadX τ t p s = some v) : loadK τ t p s fun e => exE e = some v := by
  unfold loadX at h
  unfold loadK
  split at h
  · cases h
  · rename_i d hd
    split at h
    · cases h
    · rename_i hk
      rw [hd]
      simp only
      rw [if_pos hk]
      split at h
      · rename_i b g off hp
        simp only [hp]
        split at h
        · rename_i cells hb
          simp only [hb]
          split at h
          · rename_i e he
            simp only [he]
            exact h
          · cases h
        · cases h
      · rename_i ln row off hp
        simp only [hp]
        split at h
        · rename_i hl
          rw [if_pos hl]
          split at h
          · rename_i xs hx
            simp only [hx]
            split at h
            · rename_i e he
              simp only [he]
              exact h
            · cases h
          · cases h
        · cases h
      · cases h

theorem debtsC_ok (hτ : ∀ t d, E.τ t = some d → TyOk P t d) {ops : Array Oper} {s : S} {a : Act} {w : World} (hr : Real w0 A B nt s a w) {D : List (Nat × Option Value)} (h : debtsC E ops s D) : Debts P ops D a w := by
  intro p hp v hv
  obtain ⟨i, hi⟩ := List.getElem?_of_mem hp
  have h1 : (D.map (debtV E ops s))[i]? = (D.map (·.2))[i]? := by rw [h]
  rw [List.getElem?_map, List.getElem?_map, hi] at h1
  have h2 : debtV E ops s p = p.2 := by simpa using h1
  unfold debtV at h2
  rw [hv] at h2
  simp only at h2
  split at h2
  · rename_i o ho
    split at h2
    · rename_i t x hop
      obtain ⟨hdf, hsz, g, hm, hs⟩ := hr
      obtain ⟨e, u, e1, e2, e3⟩ := load_ok hτ o t x hop hm hs (loadX_K h2)
      rw [exE_val e3 e1] at e2
      exact ⟨o, t, x, ho, hop, e2⟩
    · cases h2
  · cases h2

theorem get_insA {α : Type} (k : Nat) (v : α) (d : Nat) : ∀ l : List (Nat × α), get (insA k v l) d = if k = d then some v else get l d
  | [] => rfl
  | (k', v') :: r => by
    simp only [insA]
    split
    · rfl
    · rename_i h
      have hlt : ¬ k ≤ k' := fun hle => by rw [Nat.ble_eq_true_of_le hle] at h; cases h
      simp only [get]
      rw [get_insA k v d r]
      by_cases h1 : k' = d
      · rw [if_pos h1, if_neg (by omega), if_pos h1]
      · rw [if_neg h1, if_neg h1]

theorem get_sortA {α : Type} : ∀ (l : List (Nat × α)) (d : Nat), get (sortA l) d = get l d
  | [], _ => rfl
  | (k, v) :: r, d => by
    simp only [sortA, get]
    rw [get_insA, get_sortA r d]

theorem Real.canon {s : S} {a : Act} {w : World} (h : Real w0 A B nt s a w) : Real w0 A B nt (canonS s) a w := by
  obtain ⟨h1, h2, g, hm, hs⟩ := h
  have eb : ∀ b, get (canonS s).boxes b = get s.boxes b := fun b => get_sortA _ _
  have er : ∀ b, get (canonS s).regs b = get s.regs b := fun b => get_sortA _ _
  have hst : Step g s w g (canonS s) w := by
    refine ⟨fun x h => ⟨h, rfl⟩, fun h r hr => ⟨r, by rw [er]; exact hr, Nat.le_refl _, Nat.le_refl _, fun hl _ => ⟨hl, rfl, rfl, rfl⟩, fun hl _ => ⟨hl, rfl, fun x hx => ⟨hx, rfl⟩⟩⟩, fun b x hx => ⟨x, by rw [eb]; exact hx, Nat.le_refl _, fun _ => rfl⟩⟩
  refine ⟨h1, h2, g, ⟨hm.ext, hm.lt, hm.fr, fun h r hr hl => hm.regs h r (by rw [er] at hr; exact hr) hl, fun b x hb => ?_, hm.im, ⟨fun c hc => ?_, fun d hd => ?_⟩⟩, fun d e hd => ?_⟩
  · rw [eb] at hb
    exact (hm.boxes b x hb).step hst rfl (hm.boxes b x hb).1 rfl
  · obtain ⟨p1, x, p2, p3⟩ := hm.pl.1 c hc
    exact ⟨p1, x, by rw [eb]; exact p2, p3⟩
  · obtain ⟨p1, p2⟩ := hm.pl.2 d hd
    exact ⟨p1, fun r hr => p2 r (by rw [er] at hr; exact hr)⟩
  · rw [show get (canonS s).slots d = get s.slots d from get_sortA _ _] at hd
    obtain ⟨q1, q2⟩ := hs d e hd
    exact ⟨q1, q2.step hst⟩

theorem bindN_ok : ∀ (N : List LN) (f : List S → Prop), bindN N f → ∃ full, full.length = N.length ∧ f full
  | [], f, h => ⟨[], rfl, h⟩
  | n :: N, f, h => by
    obtain ⟨s, hs⟩ := h
    obtain ⟨full, h1, h2⟩ := bindN_ok N (fun r => f (s :: r)) hs
    exact ⟨s :: full, by simp [h1], h2⟩

theorem latE_at {nt : Nat} {ops : Array Oper} {D : List (Nat × Option Value)} {full : List S} {s : S} : ∀ {es : List (Nat × Nat)}, latE P E nt ops D full s es → ∀ e ∈ es, atW P E nt ops e.1 s fun s' => fS ⟨thSl s'.slots, s'.boxes, s'.regs⟩ fun s' => DebtP (debtsC E ops s' D) (fKS s' fun s' => canK s' fun s' => fS s' fun s'' => (match full[e.2]? with
    | some s2 => s'' = s2
    | none => False))
  | e' :: es, h, e, he => by
    cases he with
    | head => exact h.1
    | tail _ he => exact latE_at (es := es) h.2 e he

theorem latA_at {nt : Nat} {ops : Array Oper} {k : S → Prop} {D : List (Nat × Option Value)} {full : List S} : ∀ {N : List LN} {ss : List S}, latA P E nt ops k D full N ss → ∀ {i : Nat} {n : LN}, N[i]? = some n → ∃ s, ss[i]? = some s ∧ (match n.edges with
      | [] => Fin' (k ⟨thSl s.slots, thBx s.boxes, s.regs⟩)
      | _ => latE P E nt ops D full s n.edges)
  | [], ss, h, i, n, hi => by simp at hi
  | n0 :: N, [], h, i, n, hi => by
    have : False := h
    exact this.elim
  | n0 :: N, s :: r, h, 0, n, hi => by
    cases hi
    exact ⟨s, rfl, h.1⟩
  | n0 :: N, s :: r, h, i + 1, n, hi => latA_at (N := N) (ss := r) h.2 (i := i) hi

theorem memb_all {a b : List Nat} (h : a.all (memb b) = true) {i : Nat} (hi : memb a i = true) : memb b i = true := List.all_eq_true.1 h i (memb_mem.1 hi)

theorem LD.same {ops : Array Oper} {listed : Array Bool} {done done' : List Nat} (h : LD ops listed done) (hs : sameL done' done = true) : LD ops listed done' := by
  unfold sameL at hs
  simp only [Bool.and_eq_true] at hs
  refine ⟨h.size, fun i hi => ?_, fun i hi => h.lt i (memb_mem.1 (memb_all hs.1 (memb_mem.2 hi)))⟩
  rw [h.at_ i hi]
  congr 1
  rw [Bool.eq_iff_iff]
  exact ⟨fun h1 => memb_all hs.2 h1, fun h1 => memb_all hs.1 h1⟩

theorem ready_lt {ops : Array Oper} {listed : Array Bool} {i : Nat} (h : i ∈ Region.ready .any ops listed) : i < ops.size := by
  unfold Region.ready at h
  exact List.mem_range.1 (List.mem_filter.1 h).1

theorem real_put {o : Oper} {s : S} {a : Act} {w : World} {g : G} {v : Value} {e : V.E} {k : S → Prop} (hdf : a.defers = []) (hsz : a.tmps.size = nt) (hm : Mem w0 A B g s w) (hs : SlotsOk g s nt a w) (he : EOk w g s.boxes s.regs v e) (hK : putK nt o s e k) :
    ∃ s', Real w0 A B nt s' (a.put o.dst v) w ∧ k s' := by
  unfold putK at hK
  split at hK
  · rename_i d hdst
    split at hK
    · rename_i hlt
      rw [hdst]
      exact ⟨{ s with slots := put s.slots d e }, ⟨by simp [Act.put, hdf], by simp [Act.put, hsz], g, ⟨hm.ext, hm.lt, hm.fr, hm.regs, hm.boxes, hm.im, hm.pl⟩, hs.put hsz hlt he⟩, hK⟩
    · exact hK.elim
  · first
    | exact hK.elim
    | (rename_i hdst; rw [hdst]; exact ⟨s, ⟨hdf, hsz, g, hm, hs⟩, hK⟩)

theorem real_skip {o : Oper} {s : S} {a : Act} {w : World} {k : S → Prop} (hr : Real w0 A B nt s a w) (hK : skipW nt o s k) : ∃ s', Real w0 A B nt s' (a.put o.dst undef) w ∧ k s' :=
  skip_sound (next := fun a' w' => ∃ s', Real w0 A B nt s' a' w' ∧ k s') o hr hK fun s' a' w' h1 h2 => ⟨s', h1, h2⟩

theorem calm_sound (hτ : ∀ t d, E.τ t = some d → TyOk P t d) (ops : Array Oper) (hsel : Region.noSelect ops = true) {k : S → Prop} {Q : Exit → Act → World → Prop} (hQ : ∀ c a w, ¬ Q (.panic c) a w)
    (hn : ∀ s' a' w', Real w0 A B nt s' a' w' → k s' → Q .normal a' w') : ∀ (p : Plan) (D : List (Nat × Option Value)) {listed : Array Bool} {done : List Nat} {s : S} {a : Act} {w : World} (fuel : Nat), p.isCalm = true → LD ops listed done → Real w0 A B nt s a w → Debts P ops D a w →
      planOk E ops p (D.map (·.1)) true fuel done = true → planW P E nt ops k p D s → wpAnyJ P ops Q (fun a' w' => w' = w ∧ Debts P ops D a' w') fuel listed a w
  | .done, D, listed, done, s, a, w, fuel, _, hd, hr, hD, hp, h => by
    simp only [planOk, Bool.true_and, beq_iff_eq] at hp
    have hrd : Region.ready .any ops listed = [] := by rw [ready_eq hd]; exact hp
    have hq := hn _ _ _ hr.thawB h
    cases fuel with
    | zero => exact ⟨hrd, hq⟩
    | succ n => exact ⟨fun _ => hq, by rw [hrd]; exact fun i hi => by cases hi⟩
  | .calm i p, D, listed, done, s, a, w, fuel, _, hd, hr, hD, hp, h => by
    cases fuel with
    | zero => simp [planOk] at hp
    | succ n =>
      simp only [planOk, Bool.true_and, Bool.and_eq_true] at hp
      obtain ⟨hp0, hp1, hp2⟩ := hp
      obtain ⟨o, ho, p1, p2, p4⟩ := calmB_spec hd hp1
      have hlt : i < ops.size := ready_lt p1
      replace h : pCalm E nt ops i (planW P E nt ops k p) D s := h
      unfold pCalm at h
      simp only [ho] at h
      obtain ⟨hdf, hsz, g, hm, hs⟩ := hr
      have key : ∃ v s', (Region.wanted o (yielded ops a.tmps) = true ∧ (execOp a.eval o).run P w = .ok (.value v) w ∨ Region.wanted o (yielded ops a.tmps) = false ∧ v = undef) ∧ Real w0 A B nt s' (a.put o.dst v) w ∧ planW P E nt ops k p D s' := by
        rcases gd_ok ops o hsz hs h with ⟨hw, h⟩ | ⟨hw, h⟩
        · obtain ⟨e, u, h1, h2, h3⟩ := still_ok hτ o hm hs h
          obtain ⟨s', h4, h5⟩ := real_put hdf hsz hm hs h3 h1
          exact ⟨u, s', .inl ⟨hw, h2⟩, h4, by rw [fS_eq] at h5; exact h5⟩
        · obtain ⟨s', h4, h5⟩ := real_skip ⟨hdf, hsz, g, hm, hs⟩ h
          exact ⟨undef, s', .inr ⟨hw, rfl⟩, h4, by rw [fS_eq] at h5; exact h5⟩
      obtain ⟨v, s', hy, hr', hW'⟩ := key
      refine anyJ_still ho (Region.noSelect_spec hsel) (fun c a w hq => absurd hq (hQ c _ w)) (fun a w' h => h.1) (fun a => and_congr_right fun _ => Debts.put p4 v a w) n (Region.free_spec ho p2) p1 ⟨rfl, hD⟩ hy ?_
      exact calm_sound hτ ops hsel hQ hn p D n hp0 (hd.put hlt) hr' ((Debts.put p4 v a w).2 hD) hp2 hW'

theorem lat_sound (hτ : ∀ t d, E.τ t = some d → TyOk P t d) (ops : Array Oper) {k : S → Prop} {Q : Exit → Act → World → Prop}
    (hn : ∀ s' a' w', Real w0 A B nt s' a' w' → k s' → Q .normal a' w') {D : List (Nat × Option Value)} {N : List LN} {full : List S} (hok : latOk ops N = true) (hA : latA P E nt ops k D full N full) :
    ∀ (fuel : Nat) {i : Nat} {n : LN} {s : S} {listed : Array Bool} {a : Act} {w : World}, N[i]? = some n → full[i]? = some s → n.rk ≤ fuel → LD ops listed n.done → Real w0 A B nt s a w → wpAnyJ P ops Q (Debts P ops D) fuel listed a w := by
  intro fuel
  induction fuel with
  | zero =>
    intro i n s listed a w hi hs hrk hd hr
    have hN := List.all_eq_true.1 hok n (List.mem_of_getElem? hi)
    unfold latN at hN
    simp only [Bool.and_eq_true, beq_iff_eq] at hN
    obtain ⟨s', h1, h2⟩ := latA_at hA hi
    rw [hs] at h1
    cases h1
    cases he : n.edges with
    | nil =>
      rw [he] at hN h2
      have hrd : Region.ready .any ops listed = [] := by rw [ready_eq hd]; exact hN.1
      exact ⟨hrd, hn _ _ _ hr.thawB h2.h⟩
    | cons e es =>
      rw [he] at hN
      have h3 := List.all_eq_true.1 hN.2 e (List.mem_cons_self ..)
      split at h3
      · simp only [Bool.and_eq_true, Nat.blt_eq] at h3
        omega
      · cases h3
  | succ fuel ih =>
    intro i n s listed a w hi hs hrk hd hr
    have hN := List.all_eq_true.1 hok n (List.mem_of_getElem? hi)
    unfold latN at hN
    simp only [Bool.and_eq_true, beq_iff_eq] at hN
    obtain ⟨s', h1, h2⟩ := latA_at hA hi
    rw [hs] at h1
    cases h1
    cases he : n.edges with
    | nil =>
      rw [he] at hN h2
      have hrd : Region.ready .any ops listed = [] := by rw [ready_eq hd]; exact hN.1
      exact ⟨fun _ => hn _ _ _ hr.thawB h2.h, by rw [hrd]; exact fun j hj => by cases hj⟩
    | cons e0 es =>
      have h2' : latE P E nt ops D full s n.edges := by
        rw [he] at h2 ⊢
        exact h2
      have hrd : Region.ready .any ops listed = n.edges.map (·.1) := by rw [ready_eq hd]; exact hN.1
      refine ⟨fun h0 => (by rw [hrd, he] at h0; cases h0), fun j hj => ?_⟩
      have hlt := ready_lt hj
      rw [hrd] at hj
      obtain ⟨e, hee, rfl⟩ := List.mem_map.1 hj
      have h3 := List.all_eq_true.1 hN.2 e hee
      split at h3
      · rename_i n' hn'
        simp only [Bool.and_eq_true, Nat.blt_eq] at h3
        refine at_sound hτ ops e.1 hr (latE_at h2' e hee) fun s1 a' w' hr' h' => ?_
        rw [fS_eq] at h'
        obtain ⟨h5, h6⟩ := h'
        rw [fKS_eq, canK_eq, fS_eq] at h6
        split at h6
        · rename_i s2 hs2
          have hr2 := hr'.thaw.canon
          rw [h6] at hr2
          exact ⟨debtsC_ok hτ hr'.thaw h5, ih hn' hs2 (by omega) ((hd.put hlt).same h3.1) hr2⟩
        · exact h6.elim
      · cases h3

theorem plan_sound (hτ : ∀ t d, E.τ t = some d → TyOk P t d) (ops : Array Oper) (hsel : Region.noSelect ops = true) {k : S → Prop} {Q : Exit → Act → World → Prop} (hQ : ∀ c a w, ¬ Q (.panic c) a w)
    (hn : ∀ s' a' w', Real w0 A B nt s' a' w' → k s' → Q .normal a' w') : ∀ (p : Plan) (D : List (Nat × Option Value)) {listed : Array Bool} {done : List Nat} {s : S} {a : Act} {w : World} (fuel : Nat), LD ops listed done → Real w0 A B nt s a w → Debts P ops D a w →
      (planOk E ops p (D.map (·.1)) true fuel done = true → planW P E nt ops k p D s → wpAnyJ P ops Q (Debts P ops D) fuel listed a w) ∧
      (planOk E ops p (D.map (·.1)) false (fuel + 1) done = true → planW P E nt ops k p D s → ∀ i ∈ p.alts, i < ops.size → wpOp P ops Q i (fun a w => Debts P ops D a w ∧ wpAnyJ P ops Q (Debts P ops D) fuel (listed.setIfInBounds i true) a w) a w)
  | .done, D, listed, done, s, a, w, fuel, hd, hr, hD => by
    refine ⟨fun hp h => ?_, fun hp h i hi => (by cases hi)⟩
    simp only [planOk, Bool.true_and, beq_iff_eq] at hp
    have hrd : Region.ready .any ops listed = [] := by rw [ready_eq hd]; exact hp
    have hq := hn _ _ _ hr.thawB h
    cases fuel with
    | zero => exact ⟨hrd, hq⟩
    | succ n => exact ⟨fun _ => hq, by rw [hrd]; exact fun i hi => by cases hi⟩
  | .nil, D, listed, done, s, a, w, fuel, hd, hr, hD => by
    refine ⟨fun hp h => ?_, fun hp h i hi => (by cases hi)⟩
    simp [planOk] at hp
  | .one p, D, listed, done, s, a, w, fuel, hd, hr, hD => by
    refine ⟨fun hp h => ?_, fun hp h i hi => (by cases hi)⟩
    simp [planOk] at hp
  | .lat N, D, listed, done, s, a, w, fuel, hd, hr, hD => by
    refine ⟨fun hp h => ?_, fun hp h i hi => (by cases hi)⟩
    simp only [planOk, Bool.true_and] at hp
    split at hp
    · rename_i n0 N'
      simp only [Bool.and_eq_true, Nat.ble_eq] at hp
      have h : bindN (n0 :: N') (fun full => RootP (fKS s fun s => canK s fun s => fS s fun s' => (match full with
        | s0 :: _ => s' = s0
        | [] => False)) (latA P E nt ops k D full (n0 :: N') full)) := h
      obtain ⟨full, hl, h1, h2⟩ := bindN_ok _ _ h
      rw [fKS_eq, canK_eq, fS_eq] at h1
      split at h1
      · rename_i s0 r
        have hr2 := hr.canon
        rw [h1] at hr2
        exact lat_sound hτ ops hn hp.2.2 h2 fuel (i := 0) rfl rfl hp.2.1 (hd.same hp.1) hr2
      · exact h1.elim
    · cases hp
  | .calm i p, D, listed, done, s, a, w, fuel, hd, hr, hD => by
    refine ⟨fun hp h => ?_, fun hp h i hi => (by cases hi)⟩
    exact wpAnyJ_mono (fun _ _ h => h.2) fuel (calm_sound hτ ops hsel hQ hn (.calm i p) D fuel rfl hd hr hD hp h)
  | .take i p, D, listed, done, s, a, w, fuel, hd, hr, hD => by
    refine ⟨fun hp h => ?_, fun hp h i hi => (by cases hi)⟩
    cases fuel with
    | zero => simp [planOk] at hp
    | succ n =>
      simp only [planOk, Bool.true_and, Bool.and_eq_true] at hp
      obtain ⟨hp1, hp2⟩ := hp
      obtain ⟨o, ho, p1, p2, p4⟩ := takeB_spec hd hp1
      have hlt : i < ops.size := ready_lt p1
      replace h : pTake E nt ops i (planW P E nt ops k p) D s := h
      unfold pTake at h
      simp only [ho] at h
      obtain ⟨hdf, hsz, g, hm, hs⟩ := hr
      have key : ∃ v s', Yields P ops o v a ∧ Real w0 A B nt s' (a.put o.dst v) w ∧ planW P E nt ops k p D s' := by
        rcases gd_ok ops o hsz hs h with ⟨hw, h⟩ | ⟨hw, h⟩
        · obtain ⟨v, e2, h1, h2, h3⟩ := take_ok hτ o hm hs h
          obtain ⟨s', h4, h5⟩ := real_put hdf hsz hm hs h2 h1
          exact ⟨v, s', .inl ⟨hw, h3⟩, h4, by rw [fS_eq] at h5; exact h5⟩
        · obtain ⟨s', h4, h5⟩ := real_skip ⟨hdf, hsz, g, hm, hs⟩ h
          exact ⟨undef, s', .inr ⟨hw, rfl⟩, h4, by rw [fS_eq] at h5; exact h5⟩
      obtain ⟨v, s', hy, hr', hW'⟩ := key
      refine anyJ_take ho (Region.noSelect_spec hsel) (fun c a w hq => absurd hq (hQ c _ w)) (Debts.put p4 v) n (Region.free_spec ho p2) p1 hD hy ?_
      exact (plan_sound hτ ops hsel hQ hn p D n (hd.put hlt) hr' ((Debts.put p4 v a w).2 hD)).1 hp2 hW'
  | .early i p, D, listed, done, s, a, w, fuel, hd, hr, hD => by
    refine ⟨fun hp h => ?_, fun hp h i hi => (by cases hi)⟩
    cases fuel with
    | zero => simp [planOk] at hp
    | succ n =>
      simp only [planOk, Bool.true_and, Bool.and_eq_true] at hp
      obtain ⟨hp1, hp2⟩ := hp
      obtain ⟨o, ho, p1, p2, p4⟩ := earlyB_spec hd hp1
      have hlt : i < ops.size := ready_lt p1
      replace h : pEarly E nt ops i (planW P E nt ops k p) D s := h
      unfold pEarly at h
      simp only [ho] at h
      obtain ⟨hdf, hsz, g, hm, hs⟩ := hr
      have p4' : lookFree ops o (D.map (·.1)) = true := by
        simp only [lookFree, Bool.and_eq_true] at p4
        exact p4.2
      have main : ∀ (t : Nat) (x : Operand), o.op = .load t x → Region.wanted o (yielded ops a.tmps) = true → ∀ {s1 : S} {g1 : G} {e : V.E} {u v : Value}, Mem w0 A B g1 s1 w → SlotsOk g1 s1 nt a w → (execOp a.eval o).run P w = .ok (.value u) w → EOk w g1 s1.boxes s1.regs u e → exE e = some v →
          (putK nt o s1 (thE e) fun s' => fS s' fun s' => planW P E nt ops k p ((i, some v) :: D) s') → wpAnyJ P ops Q (Debts P ops D) (n + 1) listed a w := by
        intro t x hop hw s1 g1 e u v hm hs h2 h3 hv h1
        have huv := exE_val h3 hv
        subst huv
        have hself : ∀ a : Act, execOp (a.put o.dst u).eval o = execOp a.eval o := fun a =>
          execOp_put o (fun cs b e => by rw [hop] at e; cases e) a o.dst u (lookFree_spec p4 i (List.mem_cons_self ..) o ho)
        refine anyJ_early ho (Region.noSelect_spec hsel) (fun c a w hq => absurd hq (hQ c _ w)) (Debts.put p4' u) hself n (Region.free_spec ho p2) p1 hD hw h2 ?_
        have hD' : Debts P ops ((i, some u) :: D) (a.put o.dst u) w := by
          refine (Debts.put (D := (i, some u) :: D) p4 u a w).2 fun q hq u' hu' => ?_
          cases hq with
          | head => cases hu'; exact ⟨o, t, x, ho, hop, h2⟩
          | tail _ hq => exact hD q hq u' hu'
        have hmono : ∀ (a : Act) (w : World), Debts P ops ((i, some u) :: D) a w → Debts P ops D a w ∧ (execOp a.eval o).run P w = .ok (.value u) w := by
          intro a w hJ
          refine ⟨fun q hq => hJ q (List.mem_cons_of_mem _ hq), ?_⟩
          obtain ⟨o', t', x', e1, e2, e3⟩ := hJ (i, some u) (List.mem_cons_self ..) u rfl
          rw [ho] at e1
          cases e1
          exact e3
        refine wpAnyJ_mono hmono n ?_
        obtain ⟨s', h4, h5⟩ := real_put hdf hsz hm hs (thE_ok h3) h1
        exact (plan_sound hτ ops hsel hQ hn p ((i, some u) :: D) n (hd.put hlt) h4 hD').1 hp2 (by rw [fS_eq] at h5; exact h5)
      rcases gd_ok ops o hsz hs h with ⟨hw, h⟩ | ⟨hw, h⟩
      · split at h
        · rename_i t x hop
          obtain ⟨e, u, h1, h2, h3⟩ := load_ok hτ o t x hop hm hs h
          split at h1
          · rename_i v hv
            exact main t x hop hw hm hs h2 h3 hv h1
          · split at h1
            · rename_i b bx hbx
              obtain ⟨u, -, -, g1, hm1, hs1⟩ := Real.freeze ⟨hdf, hsz, g, hm, hs⟩ hbx
              have h6 := h1 u
              rw [fS_eq] at h6
              obtain ⟨e, u, h1, h2, h3⟩ := load_ok hτ o t x hop hm1 hs1 h6
              split at h1
              · rename_i v hv
                exact main t x hop hw hm1 hs1 h2 h3 hv h1
              · exact h1.elim
            · exact h1.elim
        · exact h.elim
      · obtain ⟨s', h4, h5⟩ := real_skip ⟨hdf, hsz, g, hm, hs⟩ h
        refine anyJ_take ho (Region.noSelect_spec hsel) (fun c a w hq => absurd hq (hQ c _ w)) (Debts.put p4' undef) n (Region.free_spec ho p2) p1 hD (.inr ⟨hw, rfl⟩) ?_
        refine wpAnyJ_mono (J := Debts P ops ((i, none) :: D)) (fun a w hJ q hq => hJ q (List.mem_cons_of_mem _ hq)) n ?_
        refine (plan_sound hτ ops hsel hQ hn p ((i, none) :: D) n (hd.put hlt) h4 ?_).1 hp2 (by rw [fS_eq] at h5; exact h5)
        intro q hq u hu
        cases hq with
        | head => cases hu
        | tail _ hq => exact (Debts.put p4' undef a w).2 hD q hq u hu
  | .or i p q, D, listed, done, s, a, w, fuel, hd, hr, hD => by
    have key : ∀ n, planOk E ops p (D.map (·.1)) true n (i :: done) = true → planOk E ops q (D.map (·.1)) false (n + 1) done = true → planW P E nt ops k (.or i p q) D s → ∀ j ∈ i :: q.alts, j < ops.size → wpOp P ops Q j (fun a w => Debts P ops D a w ∧ wpAnyJ P ops Q (Debts P ops D) n (listed.setIfInBounds j true) a w) a w := by
      intro n h1 h2 h j hj hlt
      obtain ⟨h3, h4⟩ := planW_or h
      cases hj with
      | head =>
        refine at_sound hτ ops i hr h3 fun s' a' w' hr' h' => ?_
        rw [fS_eq] at h'
        obtain ⟨h5, h6⟩ := debts_ok hτ hr'.thaw h'
        exact ⟨h5, (plan_sound hτ ops hsel hQ hn p D n (hd.put hlt) hr'.thaw h5).1 h1 h6⟩
      | tail _ hj => exact (plan_sound hτ ops hsel hQ hn q D n hd hr hD).2 h2 h4 j hj hlt
    refine ⟨fun hp h => ?_, fun hp h j hj hlt => ?_⟩
    · cases fuel with
      | zero => simp [planOk] at hp
      | succ n =>
        simp only [planOk, Bool.not_true, Bool.false_or, Bool.and_eq_true, beq_iff_eq] at hp
        obtain ⟨hp1, hp2, hp3⟩ := hp
        have hrd : Region.ready .any ops listed = i :: q.alts := by rw [ready_eq hd]; exact hp1
        refine ⟨fun h0 => (by rw [hrd] at h0; cases h0), fun j hj => ?_⟩
        rw [hrd] at hj
        exact key n hp2 hp3 h j hj (ready_lt (listed := listed) (by rw [hrd]; exact hj))
    · simp only [planOk, Bool.not_false, Bool.true_or, Bool.true_and, Bool.and_eq_true] at hp
      exact key fuel hp.1 hp.2 h j hj hlt

end

end Go.Proofs.YtppfojiogappaaaDoor.V

