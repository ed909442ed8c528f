/- Stores. -/
import Derived.Test.YtppfojiogappaaaVG
set_option linter.unusedVariables false
set_option linter.unusedSimpArgs false
namespace Go.Proofs.Ytppfojiogappaaa.V
open Go Classical

/-- A row with some cells written anew. -/
def spl (cs : Array Value) (o : Nat) (vs : List Value) : Array Value := (cs.toList.take o ++ vs ++ cs.toList.drop (o + vs.length)).toArray

theorem spl_size (cs : Array Value) (o : Nat) (vs : List Value) (h : o + vs.length ≤ cs.size) : (spl cs o vs).size = cs.size := by
  simp [spl]; omega
theorem spl_in (cs : Array Value) (o : Nat) (vs : List Value) (h : o + vs.length ≤ cs.size) (j : Nat) (hj : j < vs.length) : (spl cs o vs)[o + j]? = vs[j]? := by
  simp only [spl, List.getElem?_toArray, List.append_assoc]
  rw [List.getElem?_append_right (by simp; omega), List.getElem?_append_left (by simp; omega)]
  congr 1
  simp; omega
theorem spl_out (cs : Array Value) (o : Nat) (vs : List Value) (h : o + vs.length ≤ cs.size) (k : Nat) (hk : k < o ∨ o + vs.length ≤ k) : (spl cs o vs)[k]? = cs[k]? := by
  simp only [spl, List.getElem?_toArray, List.append_assoc]
  rcases hk with hk | hk
  · rw [List.getElem?_append_left (by simp; omega), List.getElem?_take, if_pos hk]
    simp
  · rw [List.getElem?_append_right (by simp; omega), List.getElem?_append_right (by simp; omega), List.getElem?_drop]
    simp only [List.length_take, Array.length_toList]
    rw [show min o cs.size = o by omega, show o + vs.length + (k - o - vs.length) = k by omega]
    simp

theorem run_stores {P : Program} (g o : Nat) (t : TypeId) (fr : Nat × Nat) : ∀ (vs : List Value) (i : Nat) (cur : Array Value) (w : World), w.heap[g]? = some (.cells cur t fr) → (∀ k, k < cur.size → ¬ (fr.1 ≤ k ∧ k < fr.2)) →
    o + i + vs.length ≤ cur.size → (∀ v ∈ vs, v.oneCell' = true) → (storeCells ⟨g, o, none⟩ vs i).run P w = .ok () (w.setRow g (spl cur (o + i) vs))
  | [], i, cur, w, hg, hfr, _, _ => by
    simp only [storeCells, spl, List.append_nil, List.length_nil, Nat.add_zero, List.take_append_drop, Array.toArray_toList]
    rw [setRow_self w g cur t fr hg]
    rfl
  | v :: rest, i, cur, w, hg, hfr, hl, h1 => by
    have hi : o + i < cur.size := by simp at hl; omega
    have hcell : w.cell? ⟨g, o + i, none⟩ = some cur[o + i] := by simp [World.cell?, hg, hi]
    have hfro : w.frozen? ⟨g, o + i, none⟩ = false := by
      have := hfr (o + i) hi
      simp [World.frozen?, hg]
      intro h
      omega
    have hst : (store ((⟨g, o, none⟩ : Addr).add i) v).run P w = .ok () (w.setRow g (cur.setIfInBounds (o + i) v)) := by
      rw [add_eq, run_store P w _ v _ (h1 v (by simp)), hcell]
      simp [hfro, setCell_eq_setRow w g (o + i) cur t fr v hg]
    have ih := run_stores (P := P) g o t fr rest (i + 1) (cur.setIfInBounds (o + i) v) (w.setRow g (cur.setIfInBounds (o + i) v)) (setRow_heap w g cur _ t _ hg) (by simpa using hfr) (by simp at hl ⊢; omega) (fun x hx => h1 x (by simp [hx]))
    simp only [storeCells, Sem.run_bind, hst, Result.andThen_ok, ih, setRow_setRow]
    have e := list_seg_step cur.toList (o + i) v rest (by simp at hl ⊢; omega)
    have e2 : spl (cur.setIfInBounds (o + i) v) (o + (i + 1)) rest = spl cur (o + i) (v :: rest) := by
      unfold spl
      rw [Array.toList_setIfInBounds, show o + (i + 1) = o + i + 1 by omega, e]
      rfl
    rw [e2]

/-- A value of a slot can lie in memory. -/
def X.st : X → Bool
  | .sc v => v.oneCell'
  | _ => true

theorem slice_one (a : Option Addr) (l c : Nat) : (Value.slice a l c).oneCell' = true := rfl

theorem rd_one {w : World} {I : Nat → Prop} {u : Value} {own : Bool} {n : Nat} {es : List (List C)} (h : Rd w I u (.sl own n es)) : u.oneCell' = true := by
  obtain ⟨a, cap, rfl⟩ := h.form
  rfl

/-- Whether what a slot's cell speaks of is still there. -/
def okX (s : S) : X → Bool
  | .sc v => v.oneCell'
  | .nil _ => true
  | .rd ln _ _ => lnLive s ln
  | .ref h g => (regAt s h g).isSome
  | .sub h g _ _ => (regAt s h g).isSome
  | .inn h iv _ _ => (regIv s h iv).isSome

theorem okX_one {w0 : World} {A : AA} {B : List (Nat × Nat × Nat)} {g : G} {s : S} {w : World} (hm : Mem w0 A B g s w) {u : Value} {x : X} (hx : XOk w g s.regs u x) (h : okX s x = true) : u.oneCell' = true := by
  cases x with
  | sc v =>
    have : u = v := hx
    subst this
    exact h
  | nil n =>
    have : u = .slice none 0 0 := hx
    subst this
    rfl
  | rd ln n es =>
    obtain ⟨n', es', hr, _⟩ := withC_rd hm (k := fun _ _ => True) hx (by simp only [withC]; rw [if_pos (show lnLive s ln = true from h)]; trivial)
    exact rd_one hr
  | ref c gn =>
    obtain ⟨r, hr⟩ := Option.isSome_iff_exists.1 h
    obtain ⟨n', es', hr, _⟩ := withC_rd hm (k := fun _ _ => True) hx (by simp only [withC]; rw [hr]; trivial)
    exact rd_one hr
  | sub c gn lo hi =>
    obtain ⟨r, hr⟩ := Option.isSome_iff_exists.1 h
    obtain ⟨n', es', hr, _⟩ := withC_rd hm (k := fun _ _ => True) hx (by simp only [withC]; rw [hr]; trivial)
    exact rd_one hr
  | inn c iv i j =>
    obtain ⟨r, hr⟩ := Option.isSome_iff_exists.1 h
    obtain ⟨h1, h2, h3⟩ := regIv_some hr
    obtain ⟨r', h4, h5, h6⟩ := hx
    rw [h1] at h4
    cases h4
    obtain ⟨b, o, len, cap, e1, e2, e3, e4, e5⟩ := h6 h2 h3.symm
    obtain ⟨row, hrow⟩ : ∃ row, r.es[i]? = some row := ⟨r.es[i], by simp⟩
    obtain ⟨b', o', cap', f1, f2, f3, f4⟩ := own_cells (hm.regs c r h1 h2) hrow
    rw [e1] at f1
    cases f1
    obtain ⟨cc, hcc⟩ : ∃ cc, row[j]? = some cc := ⟨row[j]'(by omega), by simp⟩
    obtain ⟨u', hu, h1', _⟩ := f4 j cc hcc
    rw [e5] at hu
    cases hu
    exact h1'

def splX (cells : List X) (off : Nat) (xs : List X) : List X := cells.take off ++ xs ++ cells.drop (off + xs.length)

/-- Cells of a value, as the slot has them. -/
theorem vals_cells {w : World} {g : G} {rs : List (Nat × Reg)} {v : Value} {agg : Bool} {xs : List X} (h : ValsOk w g rs v agg xs) (h1 : agg = false → ∀ u x, xs = [x] → XOk w g rs u x → u.oneCell' = true) :
    v.cells.size = xs.length ∧ ∀ (j : Nat) (x : X), xs[j]? = some x → ∃ u, v.cells[j]? = some u ∧ XOk w g rs u x := by
  cases agg with
  | false =>
    obtain ⟨x, rfl, hx⟩ := h
    have ho := h1 rfl v x rfl hx
    have hv : v.cells = #[v] := by
      cases v <;> first | rfl | (simp [Value.oneCell'] at ho)
    rw [hv]
    refine ⟨rfl, fun j y hj => ?_⟩
    cases j with
    | zero => simp at hj; subst hj; exact ⟨v, rfl, hx⟩
    | succ j => simp at hj
  | true =>
    obtain ⟨us, rfl, hc⟩ := h
    exact hc

/-- A slot's cell goes into an element: the tree, the regs that go with it, whether it is wholly owned. -/
def mvX (s : S) : X → Option (C × List Nat × Bool)
  | .sc v => if v.oneCell' then some (.sc v, [], true) else none
  | .nil n => some (.sl true n [], [], true)
  | .rd none n es => some (.sl false n es, [], false)
  | .rd (some _) _ _ => none
  | .ref h g => (match regAt s h g with
    | some r => some (.sl true r.n r.es, [h], r.pure)
    | none => none)
  | .sub h g lo hi => (match regAt s h g with
    | some r => some (.sl true r.n ((r.es.take hi).drop lo), [h], r.pure)
    | none => none)
  | .inn _ _ _ _ => none
def mvXs (s : S) : List X → Option (List C × List Nat × Bool)
  | [] => some ([], [], true)
  | x :: r => match mvX s x, mvXs s r with
    | some (c, k1, p1), some (cs, k2, p2) => some (c :: cs, k1 ++ k2, p1 && p2)
    | _, _ => none
def nodup : List Nat → Bool
  | [] => true
  | k :: r => if memb r k then false else nodup r
def splC (row : List C) (off : Nat) (cs : List C) : List C := row.take off ++ cs ++ row.drop (off + cs.length)

def storeW (τ : Nat → Option TD) (t : Nat) (p x : Operand) (o : Oper) (s : S) (k : S → Prop) : Prop :=
  match o.dst, τ t, s.ev p, s.ev x with
  | none, some d, some (.bptr b g off), some (.vals agg xs) => (match get s.boxes b with
    | some bx => if bx.gen = g then (if xs.length = d.size then (if off + xs.length ≤ bx.cells.length then (if xs.all (okX s) then k { s with boxes := put s.boxes b { bx with cells := splX bx.cells off xs } } else False) else False) else False) else False
    | none => False)
  | none, some d, some (.eptr h g i off), some (.vals agg xs) => (match regAt s h g with
    | some r => (match mvXs s xs with
      | some (cs, ks, pr) => if xs.length = d.size then (if off + xs.length ≤ r.n then (if nodup ks then (if memb ks h then False else
          ∃ row, r.es[i]? = some row ∧ k { s with regs := put (kill s.regs ks) h { r with iv := r.iv + 1, es := r.es.set i (splC row off cs), pure := r.pure && pr } }) else False) else False) else False
      | none => False)
    | none => False)
  | _, _, _, _ => False

end Go.Proofs.Ytppfojiogappaaa.V
