/- Loads, stores into boxes, boxes laid, places and parts. -/
import Derived.Test.YtppfojiogappaaaVF
set_option linter.unusedVariables false
set_option linter.unusedSimpArgs false
namespace Go.Proofs.Ytppfojiogappaaa.V
open Go Classical

theorem add_eq (b o j : Nat) : (⟨b, o, none⟩ : Addr).add j = ⟨b, o + j, none⟩ := by unfold Addr.add; split <;> simp_all

def okKind : K → Bool
  | .other => false
  | _ => true

def mkE (d : TD) (xs : List X) : Option E :=
  if xs.length = d.size then
    (if aggOf d then some (.vals true xs) else match xs with
      | [x] => some (.vals false [x])
      | _ => none)
  else none

def boxAt (s : S) (b g : Nat) : Option (List X) :=
  match get s.boxes b with
  | some x => if x.gen = g then some x.cells else none
  | none => none
theorem boxAt_some {s : S} {b g : Nat} {xs : List X} (e : boxAt s b g = some xs) : ∃ x, get s.boxes b = some x ∧ x.gen = g ∧ x.cells = xs := by
  unfold boxAt at e
  split at e
  · split at e
    · cases e
      exact ⟨_, by assumption, by assumption, rfl⟩
    · cases e
  · cases e

/-- What a cell of an element of a reg is as a value. -/
def cX (h iv i j : Nat) : C → Option X
  | .sc v => some (.sc v)
  | .any => none
  | .sl true _ _ => some (.inn h iv i j)
  | .sl false n es => some (.rd none n es)
def cXs (h iv i : Nat) : Nat → List C → Option (List X)
  | _, [] => some []
  | j, c :: r => match cX h iv i j c, cXs h iv i (j + 1) r with
    | some x, some xs => some (x :: xs)
    | _, _ => none
def rX (ln : Option (Nat × Nat)) : C → Option X
  | .sc v => some (.sc v)
  | .any => none
  | .sl _ n es => some (.rd ln n es)
def rXs (ln : Option (Nat × Nat)) : List C → Option (List X)
  | [] => some []
  | c :: r => match rX ln c, rXs ln r with
    | some x, some xs => some (x :: xs)
    | _, _ => none

theorem cXs_at {h iv i : Nat} : ∀ {j : Nat} {cs : List C} {xs : List X}, cXs h iv i j cs = some xs → xs.length = cs.length ∧ ∀ (m : Nat) (x : X), xs[m]? = some x → ∃ c, cs[m]? = some c ∧ cX h iv i (j + m) c = some x
  | j, [], xs, e => by cases e; exact ⟨rfl, fun m x hm => by simp at hm⟩
  | j, c :: r, xs, e => by
    simp only [cXs] at e
    split at e
    · rename_i x0 xs0 h1 h2
      cases e
      obtain ⟨hl, hk⟩ := cXs_at h2
      refine ⟨by simp [hl], fun m x hm => ?_⟩
      cases m with
      | zero =>
        simp at hm
        subst hm
        exact ⟨c, rfl, h1⟩
      | succ m =>
        simp at hm
        obtain ⟨c', e1, e2⟩ := hk m x hm
        exact ⟨c', by simpa using e1, by rw [show j + (m + 1) = j + 1 + m by omega]; exact e2⟩
    · cases e
theorem rXs_at {ln : Option (Nat × Nat)} : ∀ {cs : List C} {xs : List X}, rXs ln cs = some xs → xs.length = cs.length ∧ ∀ (m : Nat) (x : X), xs[m]? = some x → ∃ c, cs[m]? = some c ∧ rX ln c = some x
  | [], xs, e => by cases e; exact ⟨rfl, fun m x hm => by simp at hm⟩
  | c :: r, xs, e => by
    simp only [rXs] at e
    split at e
    · rename_i x0 xs0 h1 h2
      cases e
      obtain ⟨hl, hk⟩ := rXs_at h2
      refine ⟨by simp [hl], fun m x hm => ?_⟩
      cases m with
      | zero =>
        simp at hm
        subst hm
        exact ⟨c, rfl, h1⟩
      | succ m =>
        simp at hm
        obtain ⟨c', e1, e2⟩ := hk m x hm
        exact ⟨c', by simpa using e1, e2⟩
    · cases e

section
variable {P : Program} {w0 : World} {A : AA} {B : List (Nat × Nat × Nat)} {nt : Nat} {τ : Nat → Option TD}

theorem load_run {t : Nat} {d : TD} (hd : TyOk P t d) (hk : okKind d.kind = true) (w : World) (g : G) (bs : List (Nat × Box)) (rs : List (Nat × Reg)) (b o : Nat) (xs : List X) (e : E) (hm : mkE d xs = some e)
    (hc : ∀ (j : Nat) (x : X), xs[j]? = some x → ∃ u, w.cell? ⟨b, o + j, none⟩ = some u ∧ XOk w g rs u x) :
    ∃ v, (loadVar t ⟨b, o, none⟩).run P w = .ok v w ∧ EOk w g bs rs v e := by
  unfold mkE at hm
  split at hm
  · rename_i hlen
    have hf : ∃ f : Nat → Value, ∀ (j : Nat) (x : X), xs[j]? = some x → w.cell? ⟨b, o + j, none⟩ = some (f j) ∧ XOk w g rs (f j) x := by
      refine ⟨fun j => (w.cell? ⟨b, o + j, none⟩).getD undef, fun j x hx => ?_⟩
      obtain ⟨u, hu, ho⟩ := hc j x hx
      simp [hu, ho]
    obtain ⟨f, hf⟩ := hf
    obtain ⟨i, z, hi, hsz, _⟩ := hd.info
    split at hm
    · rename_i hag
      cases hm
      have hagg : (isAgg t).run P w = .ok true w := by
        have := hd.kind
        unfold aggOf isAggK at hag
        split at hag
        · rename_i fs hkd
          rw [hkd] at this
          obtain ⟨arr, hu, _⟩ := this
          simp [isAgg, run_underlying hu]
        · cases hag
      have hl : (loadCells ⟨b, o, none⟩ d.size).run P w = .ok ((List.range d.size).map f).toArray w := by
        refine run_loadCells w _ _ f fun j hj => ?_
        have hjx : j < xs.length := by omega
        have := (hf j xs[j] (by simp)).1
        rw [add_eq]
        exact this
      refine ⟨.agg ((List.range d.size).map f).toArray, ?_, ((List.range d.size).map f).toArray, rfl, ?_, fun j x hx => ?_⟩
      · simp [loadVar, hagg, sizeOf, typeInfo, hi, hsz, hl]
      · simp [hlen]
      · have hjx : j < d.size := by rw [← hlen]; exact (List.getElem?_eq_some_iff.1 hx).1
        exact ⟨f j, by simp [hjx], (hf j x hx).2⟩
    · rename_i hag
      split at hm
      · rename_i x
        cases hm
        have hagg : (isAgg t).run P w = .ok false w := by
          have := hd.kind
          cases hkd : d.kind with
          | other => rw [hkd] at hk; cases hk
          | struct fs => exact absurd (by unfold aggOf; rw [hkd]; rfl) hag
          | _ =>
            rw [hkd] at this
            simp [isAgg, run_underlying this]
        obtain ⟨h1, h2⟩ := hf 0 x rfl
        refine ⟨f 0, ?_, x, rfl, h2⟩
        simp only [Nat.add_zero] at h1
        simp [loadVar, hagg, h1]
      · cases hm
  · cases hm

/-- The load of a variable. -/
def loadK (τ : Nat → Option TD) (t : Nat) (p : Operand) (s : S) (k : E → Prop) : Prop :=
  match τ t with
  | none => False
  | some d => if okKind d.kind then
      (match s.ev p with
      | some (.bptr b g off) => (match boxAt s b g with
        | some cells => (match mkE d ((cells.drop off).take d.size) with
          | some e => k e
          | none => False)
        | none => False)
      | some (.eptr h g i off) => (match regAt s h g with
        | some r => ∃ row, r.es[i]? = some row ∧ (match cXs h r.iv i off ((row.drop off).take d.size) with
          | some xs => (match mkE d xs with
            | some e => k e
            | none => False)
          | none => False)
        | none => False)
      | some (.rptr ln row off) => if lnLive s ln then (match rXs ln ((row.drop off).take d.size) with
          | some xs => (match mkE d xs with
            | some e => k e
            | none => False)
          | none => False) else False
      | _ => False)
    else False

def loadW (τ : Nat → Option TD) (nt : Nat) (o : Oper) (t : Nat) (p : Operand) (s : S) (k : S → Prop) : Prop := loadK τ t p s fun e => putK nt o s e k

theorem own_cells {w : World} {I F : Nat → Prop} {v : Value} {n : Nat} {es : List (List C)} (h : Own w I F v (.sl true n es)) {i : Nat} {row : List C} (hr : es[i]? = some row) :
    ∃ b o cap, v = .slice (some ⟨b, o, none⟩) es.length cap ∧ F b ∧ row.length = n ∧ ∀ (j : Nat) (c : C), row[j]? = some c → ∃ u, w.cell? ⟨b, o + i * n + j, none⟩ = some u ∧ u.oneCell' = true ∧ Own w I F u c := by
  cases h with
  | nil => simp at hr
  | row _ g o len cap _ _ cs e u f hF hff hd fr hfr hg hsz hn hlen hc hm hl hcell h1 hrr =>
    refine ⟨g, o, cap, by rw [hlen], hF, hl i row hr, fun j c hj => ?_⟩
    have hi : i < len := by rw [← hlen]; exact (List.getElem?_eq_some_iff.1 hr).1
    have hj' : j < n := by rw [← hl i row hr]; exact (List.getElem?_eq_some_iff.1 hj).1
    exact ⟨u i j, (cell_of hg).trans (hcell i j hi hj'), h1 i j hi hj', (hrr i j row c hr hj).frame (fun _ h => h) (fun x hx => (hff i j x hx).1) (fun _ _ => rfl) (fun _ _ => rfl)⟩

theorem load_ok (hτ : ∀ t d, τ t = some d → TyOk P t d) (o : Oper) (t : Nat) (p : Operand) (ho : o.op = .load t p) {s : S} {a : Act} {w : World} {g : G} (hm : Mem w0 A B g s w) (hs : SlotsOk g s nt a w) {k : E → Prop}
    (hW : loadK τ t p s k) : ∃ e u, k e ∧ (execOp a.eval o).run P w = .ok (.value u) w ∧ EOk w g s.boxes s.regs u e := by
  unfold loadK at hW
  split at hW
  · exact hW.elim
  · rename_i d hd
    have hT := hτ _ _ hd
    split at hW
    · rename_i hk
      have fin : ∀ (b oo : Nat) (xs : List X) (e : E), mkE d xs = some e → a.eval p = .pointer (some ⟨b, oo, none⟩) →
          (∀ (j : Nat) (x : X), xs[j]? = some x → ∃ u, w.cell? ⟨b, oo + j, none⟩ = some u ∧ XOk w g s.regs u x) → k e → ∃ e u, k e ∧ (execOp a.eval o).run P w = .ok (.value u) w ∧ EOk w g s.boxes s.regs u e := by
        intro b oo xs e hme hp hc hK
        obtain ⟨v, hv, he⟩ := load_run hT hk w g s.boxes s.regs b oo xs e hme hc
        refine ⟨e, v, hK, ?_, he⟩
        simp [execOp, ho, hp, Instr.loadAt, Instr.sureAddr, hv]
      split at hW
      · rename_i b gn off hp
        split at hW
        · rename_i cells hb
          split at hW
          · rename_i e hme
            obtain ⟨x, h1, h2, h3⟩ := boxAt_some hb
            obtain ⟨x', h4, h5, h6⟩ := ev_ok hs hp
            rw [h1] at h4
            cases h4
            obtain ⟨_, _, cs, el, h7, h8, h9⟩ := hm.boxes b x h1
            refine fin _ _ _ e hme (h6 h2.symm) (fun j y hj => ?_) hW
            rw [List.getElem?_take] at hj
            split at hj
            · rw [List.getElem?_drop, ← h3] at hj
              obtain ⟨u, hu, _, hx⟩ := h9 _ y hj
              exact ⟨u, by rw [cell_of h7, Nat.add_assoc]; exact hu, hx⟩
            · cases hj
          · exact hW.elim
        · exact hW.elim
      · rename_i h gn i off hp
        split at hW
        · rename_i r hreg
          obtain ⟨row, hrow, hW⟩ := hW
          split at hW
          · rename_i xs hxs
            split at hW
            · rename_i e hme
              obtain ⟨h1, h2, h3⟩ := regAt_some hreg
              obtain ⟨r', h4, h5, h6⟩ := ev_ok hs hp
              rw [h1] at h4
              cases h4
              obtain ⟨b, oo, len, cap, e1, e2, e3⟩ := h6 h2 h3.symm
              obtain ⟨b', o', cap', f1, f2, f3, f4⟩ := own_cells (hm.regs h r h1 h2) hrow
              rw [e1] at f1
              cases f1
              refine fin _ _ _ e hme e3 (fun j y hj => ?_) hW
              obtain ⟨hl, hk⟩ := cXs_at hxs
              obtain ⟨c, hc, hcx⟩ := hk j y hj
              rw [List.getElem?_take] at hc
              split at hc
              · rw [List.getElem?_drop] at hc
                obtain ⟨u, hu, _, hO⟩ := f4 _ c hc
                rw [← Nat.add_assoc] at hu
                refine ⟨u, hu, ?_⟩
                cases c with
                | sc v =>
                  cases hcx
                  cases hO
                  exact rfl
                | any => cases hcx
                | sl own n es =>
                  cases own with
                  | true =>
                    cases hcx
                    refine ⟨r, h1, Nat.le_refl _, fun _ _ => ⟨b, oo, r.es.length, cap, e1, f2, e2, ?_, ?_⟩⟩
                    · have := (List.getElem?_eq_some_iff.1 hc).1
                      omega
                    · rw [← Nat.add_assoc]; exact hu
                  | false =>
                    cases hcx
                    cases hO with
                    | rd _ _ _ _ hR =>
                      show Rd w g.I u (.sl true n es)
                      refine (hR.frame (fun b hb => ?_) fun _ _ => rfl).flag
                      split at hb
                      · exact hb.elim
                      · exact hb
              · cases hc
            · exact hW.elim
          · exact hW.elim
        · exact hW.elim
      · rename_i ln row off hp
        split at hW
        · rename_i hl
          split at hW
          · rename_i xs hxs
            split at hW
            · rename_i e hme
              have hv := ev_ok hs hp
              have key : ∃ I : Nat → Prop, (∀ (m : Nat) (x : X) (c : C) (u : Value), rX ln c = some x → Rd w I u c → XOk w g s.regs u x) ∧
                  ∃ b o', a.eval p = .pointer (some ⟨b, o' + off, none⟩) ∧ I b ∧ ∀ (j : Nat) (c : C), row[j]? = some c → ∃ u, w.cell? ⟨b, o' + j, none⟩ = some u ∧ Rd w I u c := by
                cases ln with
                | none =>
                  refine ⟨g.I, fun m x c u hx hR => ?_, hv⟩
                  cases c with
                  | sc v => cases hx; cases hR; exact rfl
                  | any => cases hx
                  | sl own n es => cases hx; exact hR.flag
                | some q =>
                  obtain ⟨hh, iv⟩ := q
                  obtain ⟨r, h1, h2, h3⟩ := lnLive_some hl
                  obtain ⟨r', h4, h5, h6⟩ := hv
                  rw [h1] at h4
                  cases h4
                  refine ⟨_, fun m x c u hx hR => ?_, h6 h2 h3.symm⟩
                  cases c with
                  | sc v => cases hx; cases hR; exact rfl
                  | any => cases hx
                  | sl own n es => cases hx; exact ⟨r, h1, by omega, fun _ _ => hR.flag⟩
              obtain ⟨I, hI, b, o', e1, e2, e3⟩ := key
              refine fin _ _ _ e hme e1 (fun j y hj => ?_) hW
              obtain ⟨hl, hk⟩ := rXs_at hxs
              obtain ⟨c, hc, hcx⟩ := hk j y hj
              rw [List.getElem?_take] at hc
              split at hc
              · rw [List.getElem?_drop] at hc
                obtain ⟨u, hu, hR⟩ := e3 _ c hc
                rw [← Nat.add_assoc] at hu
                exact ⟨u, hu, hI j y c u hcx hR⟩
              · cases hc
            · exact hW.elim
          · exact hW.elim
        · exact hW.elim
      · exact hW.elim
    · exact hW.elim

theorem load_sound (hτ : ∀ t d, τ t = some d → TyOk P t d) (o : Oper) (t : Nat) (p : Operand) (ho : o.op = .load t p) : Sound P w0 A B nt o (loadW τ nt o t p) := by
  intro s a w k next Q hr hW hn
  obtain ⟨hdf, hsz, g, hm, hs⟩ := hr
  obtain ⟨e, u, h1, h2, h3⟩ := load_ok hτ o t p ho hm hs hW
  exact finish hdf hsz hs (Step.refl g s w) hm rfl h2 h3 h1 hn

end
end Go.Proofs.Ytppfojiogappaaa.V
