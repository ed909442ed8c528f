/- append: its rule is right. -/
import Derived.Test.YtppfojiogappaaaVM
set_option linter.unusedVariables false
set_option linter.unusedSimpArgs false
namespace Go.Proofs.Ytppfojiogappaaa.V
open Go Classical

/-- Elements with nothing but plain values in them. -/
def Flat (n : Nat) (es : List (List C)) : Prop := ∀ r ∈ es, r.length = n ∧ ∀ c ∈ r, ∃ v, c = C.sc v ∧ v.oneCell' = true

def bytesOf (s : ByteArray) : List (List C) := s.data.toList.map fun b => [C.sc (.int .u8 (b.toNat : Int))]

def baseW (s : S) (n : Nat) (x : X) (k : List Nat → Bool → List (List C) → Prop) : Prop :=
  match x with
  | .nil _ => k [] true []
  | .ref h g => (match regAt s h g with
    | some r => if r.n = n then k [h] r.pure r.es else False
    | none => False)
  | .sub h g lo hi => (match regAt s h g with
    | some r => if r.n = n then k [h] r.pure ((r.es.take hi).drop lo) else False
    | none => False)
  | _ => False

def srcW (s : S) (n : Nat) (x : X) (k : List Nat → Bool → List (List C) → Prop) : Prop :=
  match x with
  | .ref h g => (match regAt s h g with
    | some r => if r.n = n then (Flat n r.es ∧ k [] true r.es) ∨ k [h] r.pure r.es else False
    | none => False)
  | x => withC s x fun _ es => Flat n es ∧ k [] true es

def disj : List Nat → List Nat → Bool
  | [], _ => true
  | a :: r, l => if memb l a then false else disj r l

def appendW (τ : Nat → Option TD) (nt : Nat) (o : Oper) (t t2 : Nat) (b x : Operand) (s : S) (k : S → Prop) : Prop :=
  match τ t with
  | some { kind := .slice e, .. } => (match τ e with
    | some de => if de.size = 0 then False else if de.bytes = 0 then False else
      (match s.ev b, s.ev x with
      | some (.vals false [xb]), some (.vals false [xx]) => baseW s de.size xb fun ks0 p0 es0 =>
        (match xx, τ t2 with
        | .sc (.string str), some { kind := .str, .. } => if de.size = 1 then ((es0.length + str.size) * de.bytes ≤ 140737488355328 ∧ layK nt o s ks0 p0 de.size (es0 ++ bytesOf str) k) else False
        | xx, some { kind := .slice _, .. } => srcW s de.size xx fun ks1 p1 es1 => if disj ks1 ks0 then
            ((es0.length + es1.length) * de.bytes ≤ 140737488355328 ∧ layK nt o s (ks0 ++ ks1) (p0 && p1) de.size (es0 ++ es1) k) else False
        | _, _ => False)
      | _, _ => False)
    | none => False)
  | _ => False

theorem disj_no {l l' : List Nat} (h : disj l l' = true) {a : Nat} (ha : memb l a = true) : memb l' a = false := by
  induction l with
  | nil => simp [memb] at ha
  | cons k r ih =>
    simp only [disj] at h
    split at h
    · cases h
    · rename_i hk
      simp only [memb] at ha
      split at ha
      · rename_i e
        subst e
        simpa using hk
      · exact ih h ha

theorem Rd.sc_inv {w : World} {I : Nat → Prop} {v v' : Value} (h : Rd w I v (.sc v')) : v = v' := by cases h; rfl
theorem Own.none_inv {w : World} {I F : Nat → Prop} {v : Value} {n : Nat} {es : List (List C)} (h : Own w I F v (.sl true n es)) : ∀ l c, v = .slice none l c → c = 0 ∧ es = [] := by
  cases h with
  | nil => intro l c e; cases e; exact ⟨rfl, rfl⟩
  | row => intro l c e; cases e
theorem Own.some_inv {w : World} {I F : Nat → Prop} {v : Value} {n : Nat} {es : List (List C)} (h : Own w I F v (.sl true n es)) : ∀ ad l c, v = .slice (some ad) l c → ad.spot = none := by
  cases h with
  | nil => intro ad l c e; cases e
  | row => intro ad l c e; cases e; rfl

/-- The blocks of some regs. -/
def G.Fs (g : G) (ks : List Nat) : Nat → Prop := fun b => ∃ c, memb ks c = true ∧ g.F c b

section
variable {P : Program} {w0 : World} {A : AA} {B : List (Nat × Nat × Nat)} {nt : Nat} {τ : Nat → Option TD}

theorem baseW_ok {g : G} {s : S} {w : World} (hm : Mem w0 A B g s w) {n : Nat} {v : Value} {x : X} {k : List Nat → Bool → List (List C) → Prop} (hx : XOk w g s.regs v x) (h : baseW s n x k) :
    ∃ ks p es, Own w (if p then fun _ => False else g.I) (g.Fs ks) v (.sl true n es) ∧ k ks p es := by
  cases x with
  | nil m =>
    have : v = .slice none 0 0 := hx
    subst this
    exact ⟨[], true, [], .nil _ _, h⟩
  | ref c gn =>
    simp only [baseW] at h
    split at h
    · rename_i r hr
      split at h
      · rename_i hn
        subst hn
        obtain ⟨h1, h2, h3⟩ := regAt_some hr
        obtain ⟨r', h4, h5, h6⟩ := hx
        rw [h1] at h4
        cases h4
        rw [h6 h2 h3.symm]
        exact ⟨[c], r.pure, r.es, (hm.regs c r h1 h2).frame (fun _ h => h) (fun b hb => ⟨c, by simp [memb], hb⟩) (fun _ _ => rfl) (fun _ _ => rfl), h⟩
      · exact h.elim
    · exact h.elim
  | sub c gn lo hi =>
    simp only [baseW] at h
    split at h
    · rename_i r hr
      split at h
      · rename_i hn
        subst hn
        obtain ⟨h1, h2, h3⟩ := regAt_some hr
        obtain ⟨r', h4, h5, h6⟩ := hx
        rw [h1] at h4
        cases h4
        obtain ⟨h7, h8, h9⟩ := h6 h2 h3.symm
        exact ⟨[c], r.pure, _, ((hm.regs c r h1 h2).sub h7 h8 h9).frame (fun _ h => h) (fun b hb => ⟨c, by simp [memb], hb⟩) (fun _ _ => rfl) (fun _ _ => rfl), h⟩
      · exact h.elim
    · exact h.elim
  | _ => exact h.elim

/-- The cells of flat elements. -/
theorem flat_news {w : World} {J I : Nat → Prop} {v : Value} {n : Nat} {es : List (List C)} (hn : 0 < n) (h : Rd w J v (.sl true n es)) (hf : Flat n es) :
    ∃ a cap vs us, v = .slice a es.length cap ∧ News w I n es vs us (fun _ _ _ => False) ∧ ∀ (k : Nat) (u : Value), vs[k]? = some u → ∃ b o, a = some ⟨b, o, none⟩ ∧ w.cell? ⟨b, o + k, none⟩ = some u := by
  cases h with
  | nil b cap =>
    exact ⟨b, cap, [], fun _ _ => undef, rfl, ⟨by simp, fun i r hr => by simp at hr, fun i j hi => by simp at hi, fun i j hi => by simp at hi, fun i j r c hr => by simp at hr, fun _ _ _ _ _ h => h.elim⟩, fun k u hk => by simp at hk⟩
  | row b o len cap _ _ _ u hI hlen hc hl hcell h1 hr =>
    subst hlen
    have hat : ∀ i j, i < es.length → j < n → ((List.range (es.length * n)).map fun k => u (k / n) (k % n))[i * n + j]? = some (u i j) := by
      intro i j hi hj
      have hlt := place_lt hi hj
      have hd1 : (i * n + j) / n = i := by rw [Nat.add_comm, Nat.add_mul_div_right _ _ hn, Nat.div_eq_of_lt hj]; omega
      have hd2 : (i * n + j) % n = j := by rw [Nat.add_comm, Nat.add_mul_mod_self_right, Nat.mod_eq_of_lt hj]
      simp [hlt, hd1, hd2]
    refine ⟨_, cap, (List.range (es.length * n)).map fun k => u (k / n) (k % n), u, rfl, ⟨by simp, hl, hat, h1, fun i j r c hr' hj => ?_, fun _ _ _ _ _ h => h.elim⟩, fun k v hk => ⟨b, o, rfl, ?_⟩⟩
    · obtain ⟨v', rfl, _⟩ := (hf r (List.mem_of_getElem? hr')).2 c (List.mem_of_getElem? hj)
      have := (hr i j r _ hr' hj).sc_inv
      rw [this]
      exact .sc _ _
    · have hlt : k < es.length * n := by simpa using (List.getElem?_eq_some_iff.1 hk).1
      have h2 : k / n < es.length := (Nat.div_lt_iff_lt_mul hn).2 hlt
      have h3 : k % n < n := Nat.mod_lt _ hn
      have h4 := hcell _ _ h2 h3
      have h5 : o + k / n * n + k % n = o + k := by
        have := Nat.div_add_mod k n
        rw [Nat.mul_comm] at this
        omega
      rw [h5] at h4
      simp [hlt] at hk
      rw [h4, hk]

/-- The cells of an own slice, as they are. -/
theorem own_news {w : World} {I F : Nat → Prop} {v : Value} {n : Nat} {es : List (List C)} (h : Own w I F v (.sl true n es)) (hn : 0 < n) :
    ∃ a cap vs us fs, v = .slice a es.length cap ∧ News w I n es vs us fs ∧ (∀ i j x, fs i j x → F x) ∧ ∀ (k : Nat) (u : Value), vs[k]? = some u → ∃ b o, a = some ⟨b, o, none⟩ ∧ w.cell? ⟨b, o + k, none⟩ = some u := by
  cases h with
  | nil =>
    exact ⟨none, 0, [], fun _ _ => undef, fun _ _ _ => False, rfl, ⟨by simp, fun i r hr => by simp at hr, fun i j hi => by simp at hi, fun i j hi => by simp at hi, fun i j r c hr => by simp at hr, fun _ _ _ _ _ h => h.elim⟩, fun _ _ _ h => h.elim, fun k u hk => by simp at hk⟩
  | row _ g o len cap _ _ cs e u f hF hff hd fr hfr hg hsz _ hlen hc hm hl hcell h1 hr =>
    subst hlen
    have hat : ∀ i j, i < es.length → j < n → ((List.range (es.length * n)).map fun k => u (k / n) (k % n))[i * n + j]? = some (u i j) := by
      intro i j hi hj
      have hlt := place_lt hi hj
      have hd1 : (i * n + j) / n = i := by rw [Nat.add_comm, Nat.add_mul_div_right _ _ hn, Nat.div_eq_of_lt hj]; omega
      have hd2 : (i * n + j) % n = j := by rw [Nat.add_comm, Nat.add_mul_mod_self_right, Nat.mod_eq_of_lt hj]
      simp [hlt, hd1, hd2]
    refine ⟨_, cap, (List.range (es.length * n)).map fun k => u (k / n) (k % n), u, f, rfl, ⟨by simp, hl, hat, h1, hr, hd⟩, fun i j x hx => (hff i j x hx).1, fun k v hk => ⟨g, o, rfl, ?_⟩⟩
    have hlt : k < es.length * n := by simpa using (List.getElem?_eq_some_iff.1 hk).1
    have h2 : k / n < es.length := (Nat.div_lt_iff_lt_mul hn).2 hlt
    have h3 : k % n < n := Nat.mod_lt _ hn
    have h4 := hcell _ _ h2 h3
    have h5 : o + k / n * n + k % n = o + k := by
      have := Nat.div_add_mod k n
      rw [Nat.mul_comm] at this
      omega
    rw [h5] at h4
    simp [hlt] at hk
    rw [cell_of hg, h4, hk]

theorem append_core (hτ : ∀ t d, τ t = some d → TyOk P t d) {o : Oper} {t t2 e : Nat} {b x : Operand} (ho : o.op = .call { callee := .builtin .append, args := #[b, x], argTypes := #[t, t2] })
    {de : TD} (ht : P.underlying t = some (.slice e)) (hde : τ e = some de) (hsz0 : de.size ≠ 0) (hb0 : de.bytes ≠ 0)
    {s : S} {a : Act} {w : World} {g : G} {k : S → Prop} {next : Act → World → Prop} {Q : Exit → Act → World → Prop}
    (hdf : a.defers = []) (hsz : a.tmps.size = nt) (hs : SlotsOk g s nt a w) (hm : Mem w0 A B g s w)
    {ks0 ks1 : List Nat} {p0 p1 : Bool} {es0 es1 : List (List C)} (hO : Own w (if p0 then fun _ => False else g.I) (g.Fs ks0) (a.eval b) (.sl true de.size es0))
    {vs : List Value} {us : Nat → Nat → Value} {fs : Nat → Nat → Nat → Prop} (hN : News w (if p1 then fun _ => False else g.I) de.size es1 vs us fs) (hfs : ∀ i j x, fs i j x → g.Fs ks1 x)
    (hS : SrcOk P w t2 de.size es1.length (a.eval x) vs) (hdis : ∀ c, memb ks1 c = true → memb ks0 c = false)
    (hbound : (es0.length + es1.length) * de.bytes ≤ 140737488355328) (hK : layK nt o s (ks0 ++ ks1) (p0 && p1) de.size (es0 ++ es1) k)
    (hn : ∀ s' a' w', Real w0 A B nt s' a' w' → k s' → next a' w') : o.wp P a w next Q := by
  obtain ⟨i, z, hi, hisz, hiby, hz, hzc⟩ := (hτ _ _ hde).info
  have hzs : z.cells.size = de.size := by
    have h1 := congrArg List.length hzc
    have h2 := (hτ _ _ hde).zlen
    simp at h1
    omega
  have hn0 : 0 < de.size := by omega
  have hle : es0.length + es1.length ≤ 140737488355328 := Nat.le_trans (Nat.le_mul_of_pos_right _ (by omega)) hbound
  have hapart : ∀ y, g.Fs ks1 y → ¬ g.Fs ks0 y := by
    rintro y ⟨c, hc, hf⟩ ⟨c', hc', hf'⟩
    have e1 : g.ow y = .reg c := hf
    have e2 : g.ow y = .reg c' := hf'
    rw [e1] at e2
    cases e2
    rw [hdis c hc] at hc'
    cases hc'
  have hFsI : ∀ (ks : List Nat) y, g.Fs ks y → ¬ g.I y := by
    rintro ks y ⟨c, hc, hf⟩ hI
    have e1 : g.ow y = .reg c := hf
    have e2 : g.ow y = .imm := hI
    rw [e1] at e2
    cases e2
  have hI01 : ∀ b, (if p0 then fun _ => False else g.I) b → (if (p0 && p1) then fun _ => False else g.I) b := by
    intro b hb
    cases p0 <;> cases p1 <;> simp_all
  have hN' : News w (if (p0 && p1) then fun _ => False else g.I) de.size es1 vs us fs := ⟨hN.len, hN.rows, hN.at_, hN.one, fun i j r c hr hj => (hN.own i j r c hr hj).frame (fun b hb => by cases p0 <;> cases p1 <;> simp_all) (fun _ h => h) (fun _ _ => rfl) (fun _ _ => rfl), hN.dis⟩
  have hFsI' : ∀ (ks : List Nat) y, g.Fs ks y → ¬ (if (p0 && p1) then fun _ => False else g.I) y := by
    intro ks y hy hI
    split at hI
    · exact hI
    · exact hFsI ks y hy hI
  have hFlt : ∀ (ks : List Nat) y, g.Fs ks y → y < w.heap.size := by
    rintro ks y ⟨c, hc, hf⟩
    have e1 : g.ow y = .reg c := hf
    exact hm.lt y (by rw [e1]; simp)
  have hIlt : ∀ y, (if (p0 && p1) then fun _ => False else g.I) y → y < w.heap.size := by
    intro y hy
    split at hy
    · exact hy.elim
    · have e1 : g.ow y = .imm := hy
      exact hm.lt y (by rw [e1]; simp)
  have hexec : ∀ (v : Value) (w' : World), (Builtin.append_ #[t, t2] o.type #[a.eval b, a.eval x]).run P w = .ok v w' → (execOp a.eval o).run P w = .ok (.value v) w' := by
    intro v w' h
    simp [execOp, ho, resolve, invoke, builtin, h]
  have hS' : SrcOk P w t2 i.size es1.length (a.eval x) vs := by rw [hisz]; exact hS
  have grow : ∀ (base : Option Addr) (sCap : Nat) (olds : List Value), a.eval b = .slice base es0.length sCap → sCap < es0.length + es1.length →
      (∀ w' : World, w'.heap = w.heap → (Builtin.firstCells i.size es0.length (.slice base es0.length sCap)).run P w' = .ok olds.toArray w') →
      (∀ i j, i < es0.length → j < de.size → ∀ a' cp, a.eval b = .slice a' es0.length cp → ∃ b o, a' = some ⟨b, o, none⟩ ∧ w.cell? ⟨b, o + i * de.size + j, none⟩ = olds[i * de.size + j]?) →
      olds.length = es0.length * de.size → o.wp P a w next Q := by
    intro base sCap olds hbase hlt hold hcells hol
    have hrun := run_append_new (P := P) (w := w) (ty := o.type) ht hi hz hS' hold hlt (by omega) (growslice_fits hlt (by rw [hiby]; exact hbound))
    rw [← hbase] at hrun
    have hge := grownCap_ge w (es0.length + es1.length) sCap e
    have hcm : grownCap w (es0.length + es1.length) sCap e ≤ maxLen := grownCap_le_maxLen w _ sCap e (by simp only [maxLen]; omega)
    have hcl : (olds.toArray ++ vs.toArray ++ Builtin.zeroCells z.cells (grownCap w (es0.length + es1.length) sCap e - (es0.length + es1.length))).size = grownCap w (es0.length + es1.length) sCap e * de.size := by
      simp only [Array.size_append, List.size_toArray, size_zeroCells, hzs, hol, hN.len, ← Nat.add_mul]
      congr 1
      omega
    have hnew : (w.drew.alloc (.cells (olds.toArray ++ vs.toArray ++ Builtin.zeroCells z.cells (grownCap w (es0.length + es1.length) sCap e - (es0.length + es1.length))) e)).heap[w.heap.size]? = some (.cells (olds.toArray ++ vs.toArray ++ Builtin.zeroCells z.cells (grownCap w (es0.length + es1.length) sCap e - (es0.length + es1.length))) e (0, 0)) := heap_alloc_new w.drew _
    have hwold : ∀ y, y ≠ w.heap.size → y < w.heap.size → (w.drew.alloc (.cells (olds.toArray ++ vs.toArray ++ Builtin.zeroCells z.cells (grownCap w (es0.length + es1.length) sCap e - (es0.length + es1.length))) e)).heap[y]? = w.heap[y]? := fun y _ hy => heap_alloc_old w.drew _ y hy
    refine lay (P := P) hdf hsz hs hm (ks0 ++ ks1) ?_ (by simp) (fun y hy _ => heap_alloc_old w.drew _ y hy) (fun y => g.Fs ks0 y ∨ g.Fs ks1 y ∨ y = w.heap.size) (fun y hy => ?_) (p0 && p1) de.size (es0 ++ es1) ?_ (hexec _ _ hrun) hK hn
    · exact (hm.ext.same (w' := w.drew) rfl rfl rfl (Nat.le_refl _) (fun _ _ _ => rfl)).alloc _
    · rcases hy with hy | hy | rfl
      · obtain ⟨c, hc, hf⟩ := hy
        refine ⟨.inl ⟨c, memb_append.2 (.inl hc), hf⟩, ?_⟩
        have := hFlt ks0 y ⟨c, hc, hf⟩
        simp; omega
      · obtain ⟨c, hc, hf⟩ := hy
        refine ⟨.inl ⟨c, memb_append.2 (.inr hc), hf⟩, ?_⟩
        have := hFlt ks1 y ⟨c, hc, hf⟩
        simp; omega
      · exact ⟨.inr (Nat.le_refl _), by simp⟩
    · refine hO.grow hN' hI01 _ (fun y hy => .inl hy) (fun i j y hy => ⟨.inr (.inl (hfs i j y hy)), hapart y (hfs i j y hy)⟩) olds hcells hol hn0 hnew (fun c hc => ?_) (by rw [hcl]; exact Nat.le_refl _) hge hcm (fun y hy hne => ?_)
        (.inr (.inr rfl)) (fun h => absurd (hIlt _ h) (by omega)) (fun h => absurd (hFlt _ _ h) (by omega)) (fun i j h => absurd (hFlt _ _ (hfs i j _ h)) (by omega))
      · rw [Array.getElem?_append_left (by simp; omega)]
        simp
      · refine hwold y hne ?_
        rcases hy with hy | hy | hy | hy
        · exact hIlt y hy
        · exact hFlt _ _ hy
        · exact hFlt _ _ hy
        · exact absurd hy hne
  cases hv : a.eval b with
  | slice base sLen sCap =>
    obtain ⟨a', cap', hform⟩ := hO.form
    have hl0 : sLen = es0.length := by rw [hv] at hform; cases hform; rfl
    subst hl0
    rw [hv] at hO
    by_cases hroom : es0.length + es1.length ≤ sCap
    · cases base with
      | none =>
        obtain ⟨rfl, rfl⟩ := hO.none_inv _ _ rfl
        have h10 : es1.length = 0 := by simp at hroom ⊢; exact hroom
        have h11 : es1 = [] := List.eq_nil_of_length_eq_zero h10
        subst h11
        have hrun := run_append_zero (P := P) (w := w) (ty := o.type) ht hi hS'
        refine lay (P := P) hdf hsz hs hm (ks0 ++ ks1) hm.ext (Nat.le_refl _) (fun y hy _ => rfl) (fun _ => False) (fun y hy => hy.elim) (p0 && p1) de.size _ ?_ (hexec _ _ (by rw [hv]; exact hrun)) hK hn
        exact .nil _ _
      | some ad =>
        have had : ad.spot = none := hO.some_inv _ _ _ rfl
        obtain ⟨gb, og, sp⟩ := ad
        cases had
        obtain ⟨cur, el, fr, h1, h2, h3, h4, h5⟩ := hO.room hN' hroom hI01 (fun y hy => hFsI' ks0 y hy) (fun y => g.Fs ks0 y ∨ g.Fs ks1 y) (fun y hy => .inl hy) (fun i j y hy => ⟨.inr (hfs i j y hy), hapart y (hfs i j y hy)⟩)
        have hrun := run_append_in (P := P) (w := w) (ty := o.type) ht hi hS' hroom h1 h3 (by rw [hisz]; exact h4) (hN.ones hn0)
        rw [hisz] at hrun
        obtain ⟨c0, hc0, hf0⟩ := h2
        have hgb : g.ow gb = .reg c0 := hf0
        refine lay (P := P) hdf hsz hs hm (ks0 ++ ks1) ?_ (by simp) (fun y hy hno => setRow_other w gb y _ (fun e => ?_)) (fun y => g.Fs ks0 y ∨ g.Fs ks1 y) (fun y hy => ?_) (p0 && p1) de.size _ h5 (hexec _ _ (by rw [hv]; exact hrun)) hK hn
        · refine hm.ext.same rfl rfl rfl (by simp) fun y hy hA => setRow_other w gb y _ fun e => ?_
          subst e
          rcases hm.fr y c0 hgb with h | h
          · exact hA h
          · omega
        · subst e
          exact hno c0 (memb_append.2 (.inl hc0)) hgb
        · rcases hy with hy | hy
          · obtain ⟨c, hc, hf⟩ := hy
            refine ⟨.inl ⟨c, memb_append.2 (.inl hc), hf⟩, ?_⟩
            have := hFlt ks0 y ⟨c, hc, hf⟩
            simpa using this
          · obtain ⟨c, hc, hf⟩ := hy
            refine ⟨.inl ⟨c, memb_append.2 (.inr hc), hf⟩, ?_⟩
            have := hFlt ks1 y ⟨c, hc, hf⟩
            simpa using this
    · obtain ⟨a1, cap1, ovs, ous, ofs, g1, g2, g3, g4⟩ := own_news hO hn0
      cases g1
      refine grow base sCap ovs hv (by omega) (fun w' hw => ?_) (fun i j hi' hj a'' cp hav => ?_) g2.len
      · cases base with
        | none =>
          have : ovs = [] := by
            cases ovs with
            | nil => rfl
            | cons v r =>
              obtain ⟨b', o', e', _⟩ := g4 0 v rfl
              cases e'
          subst this
          simp [Builtin.firstCells]
        | some ad =>
          refine run_firstCells_some w' i.size es0.length ad es0.length sCap ovs (by rw [hisz]; exact g2.len) fun j u hu => ?_
          obtain ⟨b', o', e', hc'⟩ := g4 j u hu
          cases e'
          rw [add_eq]
          simpa [World.cell?, hw] using hc'
      · rw [hv] at hav
        cases hav
        have h2 := g2.at_ i j hi' hj
        obtain ⟨b', o', e', hc'⟩ := g4 _ _ h2
        exact ⟨b', o', e', by rw [Nat.add_assoc, hc', h2]⟩
  | _ =>
    obtain ⟨a', cap', hform⟩ := hO.form
    rw [hv] at hform
    cases hform

theorem append_sound (hτ : ∀ t d, τ t = some d → TyOk P t d) (o : Oper) (t t2 : Nat) (b x : Operand) (ho : o.op = .call { callee := .builtin .append, args := #[b, x], argTypes := #[t, t2] }) : Sound P w0 A B nt o (appendW τ nt o t t2 b x) := by
  intro s a w k next Q hr hW hn
  obtain ⟨hdf, hsz, g, hm, hs⟩ := hr
  unfold appendW at hW
  split at hW
  · rename_i e _ _ _ ht
    have hu : P.underlying t = some (.slice e) := (hτ _ _ ht).kind
    split at hW
    · rename_i de hde
      split at hW
      · exact hW.elim
      · rename_i hsz0
        split at hW
        · exact hW.elim
        · rename_i hb0
          split at hW
          · rename_i xb x0 hb hx
            obtain ⟨y, e1, hvb⟩ := ev_ok hs hb
            cases e1
            obtain ⟨y, e1, hvx⟩ := ev_ok hs hx
            cases e1
            obtain ⟨ks0, p0, es0, hO, hW2⟩ := baseW_ok hm hvb hW
            clear hW
            have hW := hW2
            clear hW2
            split at hW
            · rename_i str _ _ _ ht2
              split at hW
              · rename_i h1
                have hu2 : P.underlying t2 = some .string := (hτ _ _ ht2).kind
                have hvx' : a.eval x = .string str := hvx
                have hN : News w (if true then fun _ => False else g.I) de.size (bytesOf str) (str.data.toList.map fun b => .int .u8 (b.toNat : Int)) (fun i _ => .int .u8 ((str.data.toList.getD i 0).toNat : Int)) (fun _ _ _ => False) := by
                  refine ⟨by simp [bytesOf, h1], fun i r hr => ?_, fun i j hi hj => ?_, fun i j _ _ => rfl, fun i j r c hr hj => ?_, fun _ _ _ _ _ h => h.elim⟩
                  · simp only [bytesOf, List.getElem?_map] at hr
                    cases hq : str.data.toList[i]? with
                    | none => rw [hq] at hr; cases hr
                    | some q => rw [hq] at hr; cases hr; simp [h1]
                  · have hj0 : j = 0 := by omega
                    subst hj0
                    simp [bytesOf] at hi
                    simp [h1, hi, List.getD]
                  · simp only [bytesOf, List.getElem?_map] at hr
                    cases hq : str.data.toList[i]? with
                    | none => rw [hq] at hr; cases hr
                    | some q =>
                      rw [hq] at hr
                      cases hr
                      cases j with
                      | zero =>
                        cases hj
                        have : (str.data.toList.getD i 0) = q := by simp only [List.getD, hq]; rfl
                        rw [this]
                        exact .sc _ _
                      | succ j => simp at hj
                have hbl : (bytesOf str).length = str.size := by simp [bytesOf]
                refine append_core hτ ho hu hde hsz0 hb0 hdf hsz hs hm hO (ks1 := []) (p1 := true) (es1 := bytesOf str) hN (fun i j y h => h.elim) ?_ (fun c hc => by simp [memb] at hc) (by rw [hbl]; exact hW.1) (by simpa using hW.2) hn
                rw [hvx', h1, hbl]
                exact src_string w t2 str hu2
              · exact hW.elim
            · rename_i x0 _ _ q _ _ _ ht2
              have hu2 : P.underlying t2 = some (.slice _) := (hτ _ _ ht2).kind
              have hn0 : 0 < de.size := by omega
              have copy : ∀ es1, Rd w g.J (a.eval x) (.sl true de.size es1) → Flat de.size es1 → (if disj [] ks0 = true then ((es0.length + es1.length) * de.bytes ≤ 140737488355328 ∧ layK nt o s (ks0 ++ []) (p0 && true) de.size (es0 ++ es1) k) else False) → o.wp P a w next Q := by
                intro es1 hR hF hW
                obtain ⟨av, cap, vs, us, e1, hN, hc⟩ := flat_news (I := if true then fun _ => False else g.I) hn0 hR hF
                rw [if_pos (show disj [] ks0 = true from rfl)] at hW
                exact append_core hτ ho hu hde hsz0 hb0 hdf hsz hs hm hO (ks1 := []) (p1 := true) hN (fun i j y h => h.elim) (src_slice w t2 _ de.size _ av es1.length cap e1 hu2 vs hN.len hc) (fun c hc => by simp [memb] at hc) hW.1 hW.2 hn
              have other : withC s x0 (fun _ es => Flat de.size es ∧ (if disj [] ks0 = true then ((es0.length + es.length) * de.bytes ≤ 140737488355328 ∧ layK nt o s (ks0 ++ []) (p0 && true) de.size (es0 ++ es) k) else False)) → o.wp P a w next Q := by
                intro hW
                obtain ⟨n', es1, hR, hF, hW⟩ := withC_rd hm hvx hW
                by_cases hn' : n' = de.size
                · subst hn'
                  exact copy es1 hR hF hW
                · have hes : es1 = [] := by
                    cases es1 with
                    | nil => rfl
                    | cons r rs =>
                      obtain ⟨_, _, _, _, _, h3, _⟩ := hR.elem (i := 0) rfl
                      have := (hF r (by simp)).1
                      omega
                  subst hes
                  refine copy [] ?_ hF hW
                  obtain ⟨av, cap, hf⟩ := hR.form
                  rw [hf]
                  exact .nil _ _ _ _
              cases x0 with
              | ref c gn =>
                simp only [srcW] at hW
                split at hW
                · rename_i r hr
                  split at hW
                  · rename_i hrn
                    obtain ⟨h1, h2, h3⟩ := regAt_some hr
                    obtain ⟨r', h4, h5, h6⟩ := hvx
                    rw [h1] at h4
                    cases h4
                    have hval : a.eval x = g.val c := h6 h2 h3.symm
                    rcases hW with ⟨hF, hW⟩ | hW
                    · refine copy r.es ?_ hF hW
                      rw [hval, ← hrn]
                      exact reg_rd hm h1 h2
                    · split at hW
                      · rename_i hdj
                        have hOr := hm.regs c r h1 h2
                        rw [hrn, ← hval] at hOr
                        obtain ⟨av, cap, vs, us, fs, e1, hN, hfs, hc⟩ := own_news hOr hn0
                        exact append_core hτ ho hu hde hsz0 hb0 hdf hsz hs hm hO (ks1 := [c]) (p1 := r.pure) hN (fun i j y h => ⟨c, by simp [memb], hfs i j y h⟩) (src_slice w t2 _ de.size _ av r.es.length cap e1 hu2 vs hN.len hc)
                          (fun c' hc' => disj_no hdj hc') hW.1 hW.2 hn
                      · exact hW.elim
                  · exact hW.elim
                · exact hW.elim
              | sc v => exact other hW
              | nil n => exact other hW
              | rd ln n es => exact other hW
              | sub h g' lo hi => exact other hW
              | inn h iv i j => exact other hW
            · exact hW.elim
          · exact hW.elim
    · exact hW.elim
  · exact hW.elim

end
end Go.Proofs.Ytppfojiogappaaa.V
