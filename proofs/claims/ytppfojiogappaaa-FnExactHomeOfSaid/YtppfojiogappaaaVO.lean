/- Structs and slices built; slices made. -/
import Derived.Test.YtppfojiogappaaaVN
set_option linter.unusedVariables false
set_option linter.unusedSimpArgs false
namespace Go.Proofs.Ytppfojiogappaaa.V
open Go Classical

theorem setList (off : Nat) : ∀ (l : List Value) (j : Nat) (cells : Array Value), off + j + l.length ≤ cells.size →
    ∃ r, ((l.zipIdx j).foldl (fun cs p => cs.setIfInBounds (off + p.2) p.1) cells) = r ∧ r.size = cells.size ∧
      (∀ k, k < l.length → r[off + j + k]? = l[k]?) ∧ ∀ k, (k < off + j ∨ off + j + l.length ≤ k) → r[k]? = cells[k]?
  | [], j, cells, h => ⟨cells, rfl, rfl, fun k hk => by simp at hk, fun k _ => rfl⟩
  | v :: l, j, cells, h => by
    simp at h
    obtain ⟨r, h1, h2, h3, h4⟩ := setList off l (j + 1) (cells.setIfInBounds (off + j) v) (by simp; omega)
    refine ⟨r, by simpa [List.zipIdx_cons] using h1, by simpa using h2, fun k hk => ?_, fun k hk => ?_⟩
    · cases k with
      | zero =>
        rw [Nat.add_zero, h4 (off + j) (by omega)]
        simp [Array.getElem?_setIfInBounds, show off + j < cells.size by omega]
      | succ k =>
        have := h3 k (by simpa using hk)
        rw [show off + (j + 1) + k = off + j + (k + 1) by omega] at this
        simpa using this
    · simp at hk
      rw [h4 k (by omega)]
      simp [Array.getElem?_setIfInBounds, show off + j ≠ k by omega]

theorem setArr (off : Nat) (vs cells : Array Value) (h : off + vs.size ≤ cells.size) :
    ∃ r, (vs.zipIdx.foldl (fun cs (c, j) => cs.setIfInBounds (off + j) c) cells) = r ∧ r.size = cells.size ∧
      (∀ k, k < vs.size → r[off + k]? = vs[k]?) ∧ ∀ k, (k < off ∨ off + vs.size ≤ k) → r[k]? = cells[k]? := by
  obtain ⟨r, h1, h2, h3, h4⟩ := setList off vs.toList 0 cells (by simpa using h)
  refine ⟨r, ?_, h2, fun k hk => ?_, fun k hk => h4 k (by simpa using hk)⟩
  · rw [← Array.foldl_toList]
    simpa using h1
  · have := h3 k (by simpa using hk)
    simpa using this

/-- Parts go into a row of cells: at which place each, how many cells it has. -/
def fillX (place : Nat → Option (Nat × Nat)) (s : S) : List X → List (Nat × Operand) → Option (List X)
  | xs, [] => some xs
  | xs, (i, x) :: rest => match place i, s.ev x with
    | some (off, size), some (.vals _ ys) => if ys.length = size then (if off + size ≤ xs.length then (if ys.all (okX s) then fillX place s (splX xs off ys) rest else none) else none) else none
    | _, _ => none

theorem CellsOk.splice {w : World} {g : G} {rs : List (Nat × Reg)} {us : Array Value} {xs ys : List X} {vs : Array Value} {off : Nat} (h : CellsOk w g rs us xs) (h' : CellsOk w g rs vs ys) (hb : off + ys.length ≤ xs.length)
    {r : Array Value} (h2 : r.size = us.size) (h3 : ∀ k, k < vs.size → r[off + k]? = vs[k]?) (h4 : ∀ k, (k < off ∨ off + vs.size ≤ k) → r[k]? = us[k]?) : CellsOk w g rs r (splX xs off ys) := by
  refine ⟨by rw [splX_len _ _ _ hb, h2, h.1], fun j y hj => ?_⟩
  by_cases hin : off ≤ j ∧ j < off + ys.length
  · have h1 := splX_in xs off ys hb (j - off) (by omega)
    rw [show off + (j - off) = j by omega] at h1
    rw [h1] at hj
    obtain ⟨u, hu, hx⟩ := h'.2 _ y hj
    have := h3 (j - off) (by rw [h'.1]; omega)
    rw [show off + (j - off) = j by omega] at this
    exact ⟨u, by rw [this]; exact hu, hx⟩
  · rw [splX_out xs off ys hb j (by omega)] at hj
    obtain ⟨u, hu, hx⟩ := h.2 j y hj
    exact ⟨u, by rw [h4 j (by rw [h'.1]; omega)]; exact hu, hx⟩

theorem fillX_ok {w0 : World} {A : AA} {B : List (Nat × Nat × Nat)} {nt : Nat} {g : G} {s : S} {a : Act} {w : World} (hs : SlotsOk g s nt a w) (hm : Mem w0 A B g s w) (place : Nat → Option (Nat × Nat)) :
    ∀ (parts : List (Nat × Operand)) (us : Array Value) (xs xs' : List X), CellsOk w g s.regs us xs → (∀ (j : Nat) (u : Value), us[j]? = some u → u.oneCell' = true) → fillX place s xs parts = some xs' →
      ∃ us', Instr.fill place us (parts.map fun p => (p.1, a.eval p.2)) = some us' ∧ CellsOk w g s.regs us' xs' ∧ ∀ (j : Nat) (u : Value), us'[j]? = some u → u.oneCell' = true
  | [], us, xs, xs', hc, h1, h => by cases h; exact ⟨us, rfl, hc, h1⟩
  | (i, x) :: rest, us, xs, xs', hc, h1, h => by
    simp only [fillX] at h
    split at h
    · rename_i off size agg ys hp hx
      split at h
      · rename_i hlen
        split at h
        · rename_i hb
          split at h
          · rename_i hall
            have hv := ev_ok hs hx
            obtain ⟨c1, c2⟩ := vals_cells (v := a.eval x) hv (fun _ u y hy hxo => okX_one hm hxo (by rw [hy] at hall; simpa using hall))
            obtain ⟨r, r1, r2, r3, r4⟩ := setArr off (a.eval x).cells us (by rw [c1, hc.1]; omega)
            have hc' : CellsOk w g s.regs r (splX xs off ys) := hc.splice ⟨c1, c2⟩ (by omega) r2 r3 r4
            have h1' : ∀ (j : Nat) (u : Value), r[j]? = some u → u.oneCell' = true := by
              intro j u hu
              by_cases hin : off ≤ j ∧ j < off + ys.length
              · have := r3 (j - off) (by rw [c1]; omega)
                rw [show off + (j - off) = j by omega, hu] at this
                obtain ⟨u', hu', hxo⟩ := c2 (j - off) (ys[j - off]'(by omega)) (by simp)
                rw [← this] at hu'
                cases hu'
                exact okX_one hm hxo (List.all_eq_true.1 hall _ (by simp))
              · rw [r4 j (by rw [c1]; omega)] at hu
                exact h1 j u hu
            obtain ⟨us', q1, q2, q3⟩ := fillX_ok hs hm place rest r (splX xs off ys) xs' hc' h1' h
            refine ⟨us', ?_, q2, q3⟩
            simp only [List.map_cons, Instr.fill, hp]
            rw [if_neg (by simp [c1, hlen, hc.1]; omega)]
            rw [r1]
            exact q1
          · cases h
        · cases h
      · cases h
    · cases h

def structPlace (τ : Nat → Option TD) (fs : List (Nat × Nat)) (i : Nat) : Option (Nat × Nat) :=
  match fs[i]? with
  | some (off, ft) => (match τ ft with
    | some d => some (off, d.size)
    | none => none)
  | none => none

def buildW (τ : Nat → Option TD) (nt : Nat) (o : Oper) (t : Nat) (parts : Array (Nat × Operand)) (s : S) (k : S → Prop) : Prop :=
  match τ t with
  | some { kind := .struct fs, zero := z, .. } => if fs.all (fun p => (τ p.2).isSome) then (match fillX (structPlace τ fs) s z parts.toList with
    | some xs => putK nt o s (.vals true xs) k
    | none => False) else False
  | _ => False

section
variable {P : Program} {w0 : World} {A : AA} {B : List (Nat × Nat × Nat)} {nt : Nat} {τ : Nat → Option TD}

theorem places_ok (hτ : ∀ t d, τ t = some d → TyOk P t d) : ∀ (l : List Field), (∀ f ∈ l, (τ f.type).isSome = true) →
    l.mapM (fun f => (P.info? f.type).map fun i => (f.offset, i.size)) = some (l.map fun f => (f.offset, match τ f.type with | some d => d.size | none => 0))
  | [], _ => rfl
  | f :: l, h => by
    obtain ⟨d, hd⟩ := Option.isSome_iff_exists.1 (h f (by simp))
    obtain ⟨i, z, h1, h2, _⟩ := (hτ _ _ hd).info
    have ih := places_ok hτ l fun x hx => h x (by simp [hx])
    simp [List.mapM_cons, h1, h2, hd, ih]

theorem build_sound (hτ : ∀ t d, τ t = some d → TyOk P t d) (o : Oper) (t : Nat) (parts : Array (Nat × Operand)) (ho : o.op = .build t parts) : Sound P w0 A B nt o (buildW τ nt o t parts) := by
  intro s a w k next Q hr hW hn
  obtain ⟨hdf, hsz, g, hm, hs⟩ := hr
  unfold buildW at hW
  split at hW
  · rename_i fs _ _ z ht
    split at hW
    · rename_i hall
      split at hW
      · rename_i xs hx
        have hT := hτ _ _ ht
        obtain ⟨i, zv, h1, h2, h3, h4, h5⟩ := zero_cells hT w g s.regs
        obtain ⟨arr, hu, ha⟩ := hT.kind
        obtain ⟨us', q1, q2, q3⟩ := fillX_ok hs hm (structPlace τ fs) parts.toList zv.cells z xs h4 h5 hx
        have hpl := places_ok hτ arr.toList (fun f hf => by
          have : (f.offset, f.type) ∈ fs := by rw [← ha]; exact List.mem_map.2 ⟨f, hf, rfl⟩
          exact List.all_eq_true.1 hall _ this)
        have hb : P.built t (parts.map fun (i, x) => (i, a.eval x)).toList = some us' := by
          simp only [Program.built, h1, hu, h2, hpl]
          have hfun : (fun x => (arr.toList.map fun f => (f.offset, match τ f.type with | some d => d.size | none => 0)).toArray[x]?) = structPlace τ fs := by
            funext i
            simp only [structPlace, ← ha, List.getElem?_toArray, List.getElem?_map]
            cases hq : arr.toList[i]? with
            | none => rfl
            | some f =>
              have hmem : (f.offset, f.type) ∈ fs := by rw [← ha]; exact List.mem_map.2 ⟨f, List.mem_of_getElem? hq, rfl⟩
              obtain ⟨d, hd⟩ := Option.isSome_iff_exists.1 (List.all_eq_true.1 hall _ hmem)
              simp only at hd
              simp [hd]
          rw [hfun]
          simpa using q1
        refine finish hdf hsz hs (Step.refl g s w) hm rfl (v := .agg us') (e := .vals true xs) ?_ ⟨us', rfl, q2⟩ hW hn
        have hrun := run_build (P := P) w t (parts.map fun (i, x) => (i, a.eval x)) us' hb
        simp only [execOp, ho, Sem.run_bind, hrun, Result.andThen_ok, Sem.run_pure]
      · exact hW.elim
    · exact hW.elim
  · exact hW.elim

/-! ### slices built -/
theorem run_buildSlice {P : Program} {w : World} {t e len : Nat} {i : TypeInfo} {z : Value} (ht : P.underlying t = some (.slice e)) (hi : P.info? e = some i) (hz : i.zero = some z) (hlim : len * i.size ≤ 16777216)
    (parts : Array (Nat × Value)) (us' : Array Value) (hfill : Instr.fill (fun k => some (k * i.size, i.size)) ((Array.range (len * i.size)).map (z.cells[· % z.cells.size]!)) parts.toList = some us') :
    (Instr.buildSlice t len parts).run P w = .ok (.slice (some ⟨w.heap.size, 0, none⟩) len len) (w.alloc (.cells us' e)) := by
  have hlim' : ¬ (len * i.size > 2 ^ 24) := by omega
  have hsz : (sizeOf e).run P w = .ok i.size w := by simp [sizeOf, typeInfo, hi]
  have hzv : (zeroValue e).run P w = .ok z w := by simp [zeroValue, typeInfo, hi, hz]
  unfold Instr.buildSlice
  simp only [Sem.run_bind, run_underlying ht, hsz, Result.andThen_ok, if_neg hlim']
  by_cases h0 : len * i.size = 0
  · have hr0 : ((Array.range (len * i.size)).map (z.cells[· % z.cells.size]!)) = #[] := by rw [h0]; simp
    have hr1 : ((Array.range (len * i.size)).map ((#[] : Array Value)[· % (#[] : Array Value).size]!)) = #[] := by rw [h0]; simp
    rw [hr0] at hfill
    simp only [if_pos h0, Sem.run_bind, Sem.run_pure, Result.andThen_ok, hr1, hfill]
    simp [newRow]
  · simp only [if_neg h0, Sem.run_bind, hzv, Sem.run_pure, Result.andThen_ok, hfill]
    simp [newRow]

def zerosX (d : TD) (len : Nat) : List X := (List.range (len * d.size)).map fun k => d.zero.getD (k % d.size) (.nil 0)

def chunk (n : Nat) : Nat → List C → List (List C)
  | 0, _ => []
  | m + 1, l => l.take n :: chunk n m (l.drop n)

theorem chunk_len (n : Nat) : ∀ (m : Nat) (l : List C), (chunk n m l).length = m
  | 0, _ => rfl
  | m + 1, l => by simp [chunk, chunk_len n m]
theorem chunk_at (n : Nat) : ∀ (m : Nat) (l : List C) (i : Nat), i < m → (chunk n m l)[i]? = some ((l.drop (i * n)).take n)
  | 0, _, _, h => by omega
  | m + 1, l, 0, _ => by simp [chunk]
  | m + 1, l, i + 1, h => by
    simp only [chunk, List.getElem?_cons_succ]
    rw [chunk_at n m (l.drop n) i (by omega), List.drop_drop]
    congr 3
    rw [Nat.add_mul]
    omega

def buildSliceW (τ : Nat → Option TD) (nt : Nat) (o : Oper) (t len : Nat) (parts : Array (Nat × Operand)) (s : S) (k : S → Prop) : Prop :=
  match τ t with
  | some { kind := .slice e, .. } => (match τ e with
    | some de => if de.size = 0 then False else if len * de.size ≤ 16777216 then
      (match fillX (fun i => some (i * de.size, de.size)) s (zerosX de len) parts.toList with
      | some xs => (match mvXs s xs with
        | some (cs, ks, pr) => if nodup ks then layK nt o s ks pr de.size (chunk de.size len cs) k else False
        | none => False)
      | none => False) else False
    | none => False)
  | _ => False

theorem buildSlice_sound (hτ : ∀ t d, τ t = some d → TyOk P t d) (o : Oper) (t len : Nat) (parts : Array (Nat × Operand)) (ho : o.op = .buildSlice t len parts) : Sound P w0 A B nt o (buildSliceW τ nt o t len parts) := by
  intro s a w k next Q hr hW hn
  obtain ⟨hdf, hsz, g, hm, hs⟩ := hr
  unfold buildSliceW at hW
  split at hW
  · rename_i e _ _ _ ht
    have hu : P.underlying t = some (.slice e) := (hτ _ _ ht).kind
    split at hW
    · rename_i de hde
      split at hW
      · exact hW.elim
      · rename_i hsz0
        split at hW
        · rename_i hlim
          split at hW
          · rename_i xs hx
            split at hW
            · rename_i cs ks pr hmv
              split at hW
              · rename_i hnd
                obtain ⟨i, z, h1, h2, h3, h4, h5⟩ := zero_cells (hτ _ _ hde) w g s.regs
                obtain ⟨i', z', e1, e2, _⟩ := (hτ _ _ hde).info
                rw [h1] at e1
                cases e1
                have hn0 : 0 < de.size := by omega
                have hzl : de.zero.length = de.size := (hτ _ _ hde).zlen
                have hzat : ∀ j, j < de.size → ∃ u, z.cells[j]? = some u ∧ u.oneCell' = true ∧ XOk w g s.regs u (de.zero.getD j (.nil 0)) := by
                  intro j hj
                  have : de.zero[j]? = some (de.zero.getD j (.nil 0)) := by simp [List.getD, List.getElem?_eq_getElem (show j < de.zero.length by omega)]
                  obtain ⟨u, hu', hx'⟩ := h4.2 j _ this
                  exact ⟨u, hu', h5 j u hu', hx'⟩
                have hc0 : CellsOk w g s.regs ((Array.range (len * de.size)).map (z.cells[· % z.cells.size]!)) (zerosX de len) := by
                  refine ⟨by simp [zerosX], fun j x hj => ?_⟩
                  have hjl : j < len * de.size := by
                    have := (List.getElem?_eq_some_iff.1 hj).1
                    simpa [zerosX] using this
                  obtain ⟨u, hu', _, hx'⟩ := hzat (j % de.size) (Nat.mod_lt _ hn0)
                  refine ⟨u, ?_, ?_⟩
                  · have hlt : j % de.size < z.cells.size := by rw [h3]; exact Nat.mod_lt _ hn0
                    have hu'' : z.cells[j % de.size] = u := by
                      rw [Array.getElem?_eq_getElem hlt] at hu'
                      exact Option.some.inj hu'
                    simp only [Array.getElem?_map, Array.getElem?_range, hjl, if_true, Option.map_some, Option.some.injEq]
                    rw [h3, getElem!_pos z.cells _ hlt]
                    exact hu''
                  · simp only [zerosX, List.getElem?_map, List.getElem?_range hjl, Option.map_some, Option.some.injEq] at hj
                    rw [← hj]
                    exact hx'
                have h10 : ∀ (j : Nat) (u : Value), ((Array.range (len * de.size)).map (z.cells[· % z.cells.size]!))[j]? = some u → u.oneCell' = true := by
                  intro j u hj
                  have hjl : j < (zerosX de len).length := by rw [← hc0.1]; exact (Array.getElem?_eq_some_iff.1 hj).1
                  have hjl' : j < len * de.size := by simpa [zerosX] using hjl
                  obtain ⟨u', hu', h1', _⟩ := hzat (j % de.size) (Nat.mod_lt _ hn0)
                  have hlt : j % de.size < z.cells.size := by rw [h3]; exact Nat.mod_lt _ hn0
                  have hu'' : z.cells[j % de.size] = u' := by
                    rw [Array.getElem?_eq_getElem hlt] at hu'
                    exact Option.some.inj hu'
                  simp only [Array.getElem?_map, Array.getElem?_range, hjl', if_true, Option.map_some, Option.some.injEq] at hj
                  rw [h3, getElem!_pos z.cells _ hlt] at hj
                  rw [← hj, hu'']
                  exact h1'
                obtain ⟨us', q1, q2, q3⟩ := fillX_ok hs hm (fun i => some (i * de.size, de.size)) parts.toList _ _ xs hc0 h10 hx
                obtain ⟨hcl, fs, f1, f2, f3⟩ := mvXs_own hm hmv hnd
                have hxl : xs.length = len * de.size := by
                  have : ∀ (ps : List (Nat × Operand)) (ys ys' : List X), fillX (fun i => some (i * de.size, de.size)) s ys ps = some ys' → ys'.length = ys.length := by
                    intro ps
                    induction ps with
                    | nil => intro ys ys' h; cases h; rfl
                    | cons p ps ih =>
                      intro ys ys' h
                      simp only [fillX] at h
                      split at h
                      · split at h
                        · split at h
                          · split at h
                            · rw [ih _ _ h]
                              rename_i hh1 hh2 hh3
                              cases ‹some (p.1 * de.size, de.size) = _›
                              exact splX_len _ _ _ (by omega)
                            · cases h
                          · cases h
                        · cases h
                      · cases h
                  rw [this _ _ _ hx]
                  simp [zerosX]
                have hrun := run_buildSlice (P := P) (w := w) (len := len) hu h1 h2 (by rw [e2]; exact hlim) (parts.map fun (i, x) => (i, a.eval x)) us' (by rw [e2]; simpa using q1)
                have hcell : ∀ i j, i < len → j < de.size → ∃ u, us'[i * de.size + j]? = some u ∧ u.oneCell' = true ∧
                    ∀ c, cs[i * de.size + j]? = some c → Own w (if pr then fun _ => False else g.I) (fs (i * de.size + j)) u c := by
                  intro i j hi hj
                  have hlt := place_lt hi hj
                  obtain ⟨u, hu', hxo⟩ := q2.2 (i * de.size + j) (xs[i * de.size + j]'(by omega)) (by simp)
                  exact ⟨u, hu', q3 _ u hu', fun c hc => (f3 _ _ c (by simp) hc u hxo).2⟩
                have hus : us'.size = len * de.size := by rw [q2.1, hxl]
                have hFlt : ∀ y, g.Fs ks y → y < w.heap.size := by
                  rintro y ⟨c, hc, hf⟩
                  have e1 : g.ow y = .reg c := hf
                  exact hm.lt y (by rw [e1]; simp)
                have hold : ∀ y, y < w.heap.size → (w.alloc (.cells us' e)).heap[y]? = w.heap[y]? := fun y hy => heap_alloc_old w _ y hy
                refine lay (P := P) hdf hsz hs hm ks (hm.ext.alloc _) (by simp) (fun y hy _ => hold y hy) (fun y => y = w.heap.size ∨ g.Fs ks y) (fun y hy => ?_) pr de.size (chunk de.size len cs) (v := .slice (some ⟨w.heap.size, 0, none⟩) len len) ?_ ?_ hW hn
                · rcases hy with rfl | hy
                  · exact ⟨.inr (Nat.le_refl _), by simp⟩
                  · refine ⟨.inl hy, ?_⟩
                    have := hFlt y hy
                    simp; omega
                · refine Own.fresh (fun i j => us'.getD (i * de.size + j) undef) (fun i j x => i < len ∧ j < de.size ∧ fs (i * de.size + j) x) _ (heap_alloc_new w _) (fun k _ h => by simp at h) (by rw [hus]; exact Nat.le_refl _) hn0 (chunk_len _ _ _) (Nat.le_refl _)
                    (by simp only [maxLen]; have := Nat.le_mul_of_pos_right len hn0; omega) (fun i r hr => ?_) (fun i j hi hj => ?_) (fun i j hi hj => ?_) (.inl rfl) (fun i j x hx => ?_) (fun i j i' j' x hx hx' => ?_) (fun i j r c hr hj => ?_)
                  · have hi : i < len := by
                      have := (List.getElem?_eq_some_iff.1 hr).1
                      rwa [chunk_len] at this
                    rw [chunk_at _ _ _ _ hi] at hr
                    cases hr
                    have h2 : (i + 1) * de.size ≤ len * de.size := Nat.mul_le_mul_right _ hi
                    rw [Nat.add_mul] at h2
                    simp only [List.length_take, List.length_drop, hcl, hxl]
                    omega
                  · obtain ⟨u, hu', _, _⟩ := hcell i j hi hj
                    have hu2 := hu'
                    rw [Array.getElem?_eq_getElem (by rw [hus]; exact place_lt hi hj)] at hu2
                    rw [hu', ← Option.some.inj hu2]
                    simp [show i * de.size + j < us'.size by rw [hus]; exact place_lt hi hj]
                  · obtain ⟨u, hu', h1', _⟩ := hcell i j hi hj
                    have : us'.getD (i * de.size + j) undef = u := by simp [hu']
                    rw [this]
                    exact h1'
                  · obtain ⟨hi, hj, hx⟩ := hx
                    have hfx := f1 _ x hx
                    exact ⟨.inr hfx, fun e => by have := hFlt x hfx; omega⟩
                  · obtain ⟨hi, hj, hx⟩ := hx
                    obtain ⟨hi', hj', hx'⟩ := hx'
                    exact place_inj hj hj' (f2 _ _ x hx hx')
                  · have hi : i < len := by
                      have := (List.getElem?_eq_some_iff.1 hr).1
                      rwa [chunk_len] at this
                    rw [chunk_at _ _ _ _ hi] at hr
                    cases hr
                    rw [List.getElem?_take] at hj
                    split at hj
                    · rename_i hjn
                      rw [List.getElem?_drop] at hj
                      obtain ⟨u, hu', _, hO⟩ := hcell i j hi hjn
                      have : us'.getD (i * de.size + j) undef = u := by simp [hu']
                      rw [this]
                      refine (hO c hj).frame (fun _ h => h) (fun x hx => ⟨hi, hjn, hx⟩) (fun x hx => hold x ?_) (fun x hx => hold x (hFlt x (f1 _ x hx)))
                      split at hx
                      · exact hx.elim
                      · have e1 : g.ow x = .imm := hx
                        exact hm.lt x (by rw [e1]; simp)
                    · cases hj
                · simp only [execOp, ho, Sem.run_bind, hrun, Result.andThen_ok, Sem.run_pure]
              · exact hW.elim
            · exact hW.elim
          · exact hW.elim
        · exact hW.elim
    · exact hW.elim
  · exact hW.elim

end
end Go.Proofs.Ytppfojiogappaaa.V
