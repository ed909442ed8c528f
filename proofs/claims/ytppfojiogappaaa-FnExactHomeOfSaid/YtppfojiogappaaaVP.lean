/- Slices made with a length; elements' places; cuts; conversions. -/
import Derived.Test.YtppfojiogappaaaVO
set_option linter.unusedVariables false
set_option linter.unusedSimpArgs false
namespace Go.Proofs.Ytppfojiogappaaa.V
open Go Classical

theorem Rd.cap {w : World} {I : Nat → Prop} {v : Value} {own : Bool} {n : Nat} {es : List (List C)} (h : Rd w I v (.sl own n es)) : ∀ a len cap, v = .slice a len cap → es.length = len ∧ len ≤ cap := by
  cases h with
  | nil => intro a len cap e; cases e; exact ⟨rfl, Nat.zero_le _⟩
  | row b o len cap _ _ _ u hI hlen hc => intro a len cap e; cases e; exact ⟨hlen, hc⟩
theorem Own.cap {w : World} {I F : Nat → Prop} {v : Value} {n : Nat} {es : List (List C)} (h : Own w I F v (.sl true n es)) : ∀ a len cap, v = .slice a len cap → es.length = len ∧ len ≤ cap := by
  cases h with
  | nil => intro a len cap e; cases e; exact ⟨rfl, Nat.le_refl _⟩
  | row _ g o len cap _ _ cs e u f hF hff hd fr hfr hg hsz hn hlen hc => intro a len cap e; cases e; exact ⟨hlen, hc⟩

/-- A zero's cell as a tree. -/
def zC : X → C
  | .sc v => .sc v
  | .nil n => .sl true n []
  | _ => .any

def makeSliceW (τ : Nat → Option TD) (nt : Nat) (o : Oper) (t : Nat) (l c : Operand) (s : S) (k : S → Prop) : Prop :=
  match τ t, s.ev l, s.ev c with
  | some { kind := .slice e, .. }, some (.vals false [.sc (.int _ n)]), some (.vals false [.sc (.int _ m)]) => (match τ e with
    | some de => if de.size = 0 then False else
      0 ≤ n ∧ n = m ∧ (de.bytes : Int) * n ≤ 281474976710656 ∧ n ≤ 9223372036854775807 ∧ layK nt o s [] true de.size (List.replicate n.toNat (de.zero.map zC)) k
    | none => False)
  | _, _, _ => False

section
variable {P : Program} {w0 : World} {A : AA} {B : List (Nat × Nat × Nat)} {nt : Nat} {τ : Nat → Option TD}

theorem makeSlice_sound (hτ : ∀ t d, τ t = some d → TyOk P t d) (o : Oper) (t : Nat) (l c : Operand) (ho : o.op = .makeSlice t l c) : Sound P w0 A B nt o (makeSliceW τ nt o t l c) := by
  intro s a w k next Q hr hW hn
  obtain ⟨hdf, hsz, g, hm, hs⟩ := hr
  unfold makeSliceW at hW
  split at hW
  · rename_i e _ _ _ k1 n k2 m ht hl hc
    have hu : P.underlying t = some (.slice e) := (hτ _ _ ht).kind
    split at hW
    · rename_i de hde
      split at hW
      · exact hW.elim
      · rename_i hsz0
        obtain ⟨hn0, rfl, hby, h63, hK⟩ := hW
        obtain ⟨i, z, h1, h2, h3, h4, h5⟩ := zero_cells (hτ _ _ hde) w g s.regs
        obtain ⟨i', z', e1, e2, e3, _⟩ := (hτ _ _ hde).info
        rw [h1] at e1
        cases e1
        have hv1 : a.eval l = .int k1 n := by obtain ⟨y, q1, q2⟩ := ev_ok hs hl; cases q1; exact q2
        have hv2 : a.eval c = .int k2 n := by obtain ⟨y, q1, q2⟩ := ev_ok hs hc; cases q1; exact q2
        have hrun := run_make (P := P) w t e i z hu h1 h2 k1 k2 n n hn0 (Int.le_refl _) (by rw [e3]; exact hby) h63
        have hpos : 0 < de.size := by omega
        have hold : ∀ y, y < w.heap.size → (w.alloc (.cells (madeCells z.cells (n.toNat * i.size)) e)).heap[y]? = w.heap[y]? := fun y hy => heap_alloc_old w _ y hy
        have hmc : ∀ k, k < n.toNat * de.size → (madeCells z.cells (n.toNat * i.size))[k]? = z.cells[k % de.size]? := by
          intro k hk
          have hlt : k % de.size < z.cells.size := by rw [h3]; exact Nat.mod_lt _ hpos
          simp only [madeCells, Array.getElem?_map, Array.getElem?_range, e2, hk, if_true, Option.map_some, h3]
          rw [getElem!_pos z.cells _ hlt, Array.getElem?_eq_getElem hlt]
        have hmod : ∀ i j, j < de.size → (i * de.size + j) % de.size = j := fun i j hj => by rw [Nat.add_comm, Nat.add_mul_mod_self_right, Nat.mod_eq_of_lt hj]
        refine lay (P := P) hdf hsz hs hm [] (hm.ext.alloc _) (by simp) (fun y hy _ => hold y hy) (fun y => y = w.heap.size) (fun y hy => by subst hy; exact ⟨.inr (Nat.le_refl _), by simp⟩) true de.size _ (v := .slice (some ⟨w.heap.size, 0, none⟩) n.toNat n.toNat) ?_ ?_ hK hn
        · refine Own.fresh (fun _ j => z.cells.getD j undef) (fun _ _ _ => False) _ (heap_alloc_new w _) (fun k _ h => by simp at h) (by rw [size_madeCells, e2]; exact Nat.le_refl _) hpos (by simp) (Nat.le_refl _)
            (by simp only [maxLen]; omega) (fun i r hr => ?_) (fun i j hi hj => ?_) (fun i j hi hj => ?_) rfl (fun _ _ _ h => h.elim) (fun _ _ _ _ _ h => h.elim) (fun i j r cc hr hj => ?_)
          · have hr' := (List.getElem?_eq_some_iff.1 hr).2
            simp at hr'
            rw [← hr']
            simp [(hτ _ _ hde).zlen]
          · rw [hmc _ (place_lt hi hj), hmod i j hj]
            have hlt : j < z.cells.size := by omega
            simp [hlt]
          · have hlt : j < z.cells.size := by omega
            have : z.cells.getD j undef = z.cells[j] := by simp [hlt]
            rw [this]
            exact h5 j _ (by simp)
          · have hr' := (List.getElem?_eq_some_iff.1 hr).2
            simp at hr'
            subst hr'
            rw [List.getElem?_map] at hj
            cases hz : de.zero[j]? with
            | none => rw [hz] at hj; cases hj
            | some x =>
              rw [hz] at hj
              cases hj
              obtain ⟨u, hu', hx⟩ := h4.2 j x hz
              have : z.cells.getD j undef = u := by simp [hu']
              rw [this]
              have hzx := List.all_eq_true.1 (hτ _ _ hde).zone x (List.mem_of_getElem? hz)
              cases x with
              | sc v =>
                have : u = v := hx
                subst this
                exact .sc _ _
              | nil m =>
                have : u = .slice none 0 0 := hx
                subst this
                exact .nil _ _
              | _ => cases hzx
        · simp only [execOp, ho, hv1, hv2, Sem.run_bind, hrun, Result.andThen_ok, Sem.run_pure]
    · exact hW.elim
  · exact hW.elim

/-! ### the place of an element -/
def indexAddrW (τ : Nat → Option TD) (nt : Nat) (o : Oper) (t : Nat) (x i : Operand) (s : S) (k : S → Prop) : Prop :=
  match τ t, s.ev x, s.ev i with
  | some { kind := .slice e, .. }, some (.vals false [y]), some (.vals false [.sc (.int _ n)]) => (match τ e with
    | some de => (match y with
      | .rd ln m es => if lnLive s ln then (if m = de.size then 0 ≤ n ∧ ∃ row, es[n.toNat]? = some row ∧ putK nt o s (.rptr ln row 0) k else False) else False
      | .ref h g => (match regAt s h g with
        | some r => if r.n = de.size then 0 ≤ n ∧ n < (r.es.length : Int) ∧ putK nt o s (.eptr h g n.toNat 0) k else False
        | none => False)
      | .sub h g lo hi => (match regAt s h g with
        | some r => if r.n = de.size then 0 ≤ n ∧ n < ((hi - lo : Nat) : Int) ∧ putK nt o s (.eptr h g (lo + n.toNat) 0) k else False
        | none => False)
      | .inn h iv a b => (match regIv s h iv with
        | some r => ∃ row0 m es row, r.es[a]? = some row0 ∧ row0[b]? = some (.sl true m es) ∧ m = de.size ∧ 0 ≤ n ∧ es[n.toNat]? = some row ∧ putK nt o s (.rptr (some (h, iv)) row 0) k
        | none => False)
      | _ => False)
    | none => False)
  | _, _, _ => False

theorem rdptr_ok {w : World} {g : G} {s : S} {u : Value} {ln : Option (Nat × Nat)} {m : Nat} {es : List (List C)} {i : Nat} {row : List C} (hx : XOk w g s.regs u (.rd ln m es)) (hl : lnLive s ln = true) (hrow : es[i]? = some row) :
    ∃ b o cap, u = .slice (some ⟨b, o, none⟩) es.length cap ∧ EOk w g s.boxes s.regs (.pointer (some ⟨b, o + i * m + 0, none⟩)) (.rptr ln row 0) := by
  cases ln with
  | none =>
    have hR : Rd w g.I u (.sl true m es) := hx
    obtain ⟨b, o, cap, e1, e2, e3, e4⟩ := hR.elem hrow
    refine ⟨b, o, cap, e1, b, o + i * m, rfl, e2, fun j c hj => ?_⟩
    obtain ⟨v, hv, _, hr⟩ := e4 j c hj
    exact ⟨v, hv, hr⟩
  | some q =>
    obtain ⟨c, iv⟩ := q
    obtain ⟨r, h1, h2, h3⟩ := lnLive_some hl
    obtain ⟨r', h4, h5, h6⟩ := hx
    rw [h1] at h4
    cases h4
    obtain ⟨b, o, cap, e1, e2, e3, e4⟩ := (h6 h2 h3.symm).elem hrow
    refine ⟨b, o, cap, e1, r, h1, h5, fun _ _ => ⟨b, o + i * m, rfl, e2, fun j c hj => ?_⟩⟩
    obtain ⟨v, hv, _, hr⟩ := e4 j c hj
    exact ⟨v, hv, hr⟩

theorem inn_rd {g : G} {s : S} {w : World} (hm : Mem w0 A B g s w) {u : Value} {h iv i j : Nat} (hx : XOk w g s.regs u (.inn h iv i j)) {r : Reg} (hr : regIv s h iv = some r) {row : List C} {m : Nat} {es : List (List C)}
    (hrow : r.es[i]? = some row) (hj : row[j]? = some (.sl true m es)) : lnLive s (some (h, iv)) = true ∧ XOk w g s.regs u (.rd (some (h, iv)) m es) := by
  obtain ⟨h1, h2, h3⟩ := regIv_some hr
  refine ⟨by simp [lnLive, h1, h2, h3], r, h1, by omega, fun _ _ => ?_⟩
  obtain ⟨r', h4, h5, h6⟩ := hx
  rw [h1] at h4
  cases h4
  obtain ⟨b, o, len, cap, e1, e2, e3, e4, e5⟩ := h6 h2 h3.symm
  have hR : Rd w (fun b => g.I b ∨ g.F h b) (g.val h) (.sl true r.n r.es) := by
    refine (hm.regs h r h1 h2).rdOf.frame ?_ (fun _ _ => rfl)
    rintro b (hb | hb)
    · split at hb
      · exact hb.elim
      · exact .inl hb
    · exact .inr hb
  obtain ⟨b', o', cap', f1, f2, f3, f4⟩ := hR.elem hrow
  rw [e1] at f1
  cases f1
  obtain ⟨u', hu, _, hr'⟩ := f4 j _ hj
  rw [e5] at hu
  cases hu
  exact hr'

theorem indexAddr_run (hτ : ∀ t d, τ t = some d → TyOk P t d) {t e : Nat} {de : TD} (ht : P.underlying t = some (.slice e)) (hde : τ e = some de) (w : World) (b o len cap : Nat) (k : IntKind) (n : Int) (h0 : 0 ≤ n) (h1 : n.toNat < len) :
    (Instr.indexAt t (.slice (some ⟨b, o, none⟩) len cap) (.int k n)).run P w = .ok (.pointer (some ⟨b, o + n.toNat * de.size, none⟩)) w := by
  obtain ⟨i, z, hi, hisz, _⟩ := (hτ _ _ hde).info
  have hlt : n < (len : Int) := by omega
  simp [Instr.indexAt, asIntOf, run_underlying ht, h0, hlt, sizeOf, typeInfo, hi, hisz, add_eq]

theorem indexAddr_sound (hτ : ∀ t d, τ t = some d → TyOk P t d) (o : Oper) (t : Nat) (x i : Operand) (ho : o.op = .indexAddr t x i) : Sound P w0 A B nt o (indexAddrW τ nt o t x i) := by
  intro s a w k next Q hr hW hn
  obtain ⟨hdf, hsz, g, hm, hs⟩ := hr
  unfold indexAddrW at hW
  split at hW
  · rename_i e _ _ _ y k1 n ht hx hi
    have hu : P.underlying t = some (.slice e) := (hτ _ _ ht).kind
    have hv2 : a.eval i = .int k1 n := by obtain ⟨y, q1, q2⟩ := ev_ok hs hi; cases q1; exact q2
    obtain ⟨y', q1, hvx⟩ := ev_ok hs hx
    cases q1
    split at hW
    · rename_i de hde
      split at hW
      · rename_i ln m es
        split at hW
        · rename_i hl
          split at hW
          · rename_i hmd
            obtain ⟨h0, row, hrow, hK⟩ := hW
            obtain ⟨b, o', cap, e1, e2⟩ := rdptr_ok hvx hl hrow
            subst hmd
            refine finish hdf hsz hs (Step.refl g s w) hm rfl ?_ e2 hK hn
            have hlt : n.toNat < es.length := (List.getElem?_eq_some_iff.1 hrow).1
            simp only [execOp, ho, e1, hv2, Sem.run_bind, indexAddr_run hτ hu hde w b o' es.length cap k1 n h0 hlt, Result.andThen_ok, Sem.run_pure, Nat.add_zero]
          · exact hW.elim
        · exact hW.elim
      · rename_i h gn
        split at hW
        · rename_i r hreg
          split at hW
          · rename_i hrn
            obtain ⟨h0, hlt, hK⟩ := hW
            obtain ⟨h1, h2, h3⟩ := regAt_some hreg
            obtain ⟨r', h4, h5, h6⟩ := hvx
            rw [h1] at h4
            cases h4
            have hlt' : n.toNat < r.es.length := by omega
            obtain ⟨b, o', cap, e1, _, _, _⟩ := own_cells (hm.regs h r h1 h2) (i := n.toNat) (row := r.es[n.toNat]) (by simp)
            have hval : a.eval x = g.val h := h6 h2 h3.symm
            refine finish hdf hsz hs (Step.refl g s w) hm rfl (v := .pointer (some ⟨b, o' + n.toNat * de.size, none⟩)) (e := .eptr h gn n.toNat 0) ?_ ⟨r, h1, by omega, fun _ _ => ⟨b, o', r.es.length, cap, e1, hlt', by rw [hrn]; rfl⟩⟩ hK hn
            simp only [execOp, ho, hval, e1, hv2, Sem.run_bind, indexAddr_run hτ hu hde w b o' r.es.length cap k1 n h0 hlt', Result.andThen_ok, Sem.run_pure]
          · exact hW.elim
        · exact hW.elim
      · rename_i h gn lo hi'
        split at hW
        · rename_i r hreg
          split at hW
          · rename_i hrn
            obtain ⟨h0, hlt, hK⟩ := hW
            obtain ⟨h1, h2, h3⟩ := regAt_some hreg
            obtain ⟨r', h4, h5, h6⟩ := hvx
            rw [h1] at h4
            cases h4
            obtain ⟨h7, h8, h9⟩ := h6 h2 h3.symm
            have hlt' : lo + n.toNat < r.es.length := by omega
            obtain ⟨b, o', cap, e1, _, _, _⟩ := own_cells (hm.regs h r h1 h2) (i := lo + n.toNat) (row := r.es[lo + n.toNat]) (by simp)
            rcases h7 with ⟨e2, _⟩ | ⟨gb, og, leng, capg, os, caps, e2, e3, e4, e5, e6⟩
            · rw [e1] at e2; cases e2
            · rw [e1] at e2
              cases e2
              have hos : os = o' + lo * r.n := by
                rcases e6 with h | ⟨h, _⟩
                · exact h
                · omega
              subst hos
              have haddr : o' + lo * r.n + n.toNat * de.size = o' + (lo + n.toNat) * r.n + 0 := by rw [← hrn, Nat.add_mul]; omega
              refine finish hdf hsz hs (Step.refl g s w) hm rfl (v := .pointer (some ⟨b, o' + lo * r.n + n.toNat * de.size, none⟩)) (e := .eptr h gn (lo + n.toNat) 0) ?_ ⟨r, h1, by omega, fun _ _ => ⟨b, o', _, _, e1, hlt', by rw [haddr]⟩⟩ hK hn
              simp only [execOp, ho, e3, hv2, Sem.run_bind, indexAddr_run hτ hu hde w b (o' + lo * r.n) (hi' - lo) caps k1 n h0 (by omega), Result.andThen_ok, Sem.run_pure]
          · exact hW.elim
        · exact hW.elim
      · rename_i h iv c d
        split at hW
        · rename_i r hreg
          obtain ⟨row0, m, es, row, hr0, hj, hmd, h0, hrow, hK⟩ := hW
          obtain ⟨hl, hrd⟩ := inn_rd hm hvx hreg hr0 hj
          obtain ⟨b, o', cap, e1, e2⟩ := rdptr_ok hrd hl hrow
          subst hmd
          refine finish hdf hsz hs (Step.refl g s w) hm rfl ?_ e2 hK hn
          have hlt : n.toNat < es.length := (List.getElem?_eq_some_iff.1 hrow).1
          simp only [execOp, ho, e1, hv2, Sem.run_bind, indexAddr_run hτ hu hde w b o' es.length cap k1 n h0 hlt, Result.andThen_ok, Sem.run_pure, Nat.add_zero]
        · exact hW.elim
      · exact hW.elim
    · exact hW.elim
  · exact hW.elim

/-! ### cuts -/
@[irreducible] noncomputable def cutStr (s : ByteArray) (l : Int) (h : Int) : ByteArray := (hid (fun (s : ByteArray) (l : Int) (h : Int) => (s.extract l.toNat h.toNat : ByteArray))).1 s l h
theorem cutStr_eq (s : ByteArray) (l : Int) (h : Int) : cutStr s l h = (s.extract l.toNat h.toNat) := by
  unfold cutStr
  rw [(hid _).2]

/-- A bound of a cut. -/
def bndK (s : S) (x : Option Operand) (dflt : Int) (k : Int → Prop) : Prop :=
  match x with
  | none => k dflt
  | some p => (match s.ev p with
    | some (.vals false [.sc (.int _ n)]) => k n
    | _ => False)

def sliceW (τ : Nat → Option TD) (nt : Nat) (o : Oper) (t : Nat) (x : Operand) (lo hi mx : Option Operand) (s : S) (k : S → Prop) : Prop :=
  match mx, τ t, s.ev x with
  | none, some { kind := .str, .. }, some (.vals false [.sc (.string b)]) =>
    bndK s lo 0 fun l => bndK s hi (b.size : Int) fun h => 0 ≤ l ∧ l ≤ h ∧ h ≤ (b.size : Int) ∧ putK nt o s (.vals false [.sc (.string (cutStr b l h))]) k
  | none, some { kind := .slice e, .. }, some (.vals false [y]) => (match τ e with
    | some de => (match y with
      | .nil n => bndK s lo 0 fun l => bndK s hi 0 fun h => l = 0 ∧ h = 0 ∧ putK nt o s (.vals false [.nil n]) k
      | .rd ln m es => if lnLive s ln then (if m = de.size then bndK s lo 0 fun l => bndK s hi (es.length : Int) fun h => 0 ≤ l ∧ l ≤ h ∧ h ≤ (es.length : Int) ∧ putK nt o s (.vals false [.rd ln m ((es.take h.toNat).drop l.toNat)]) k else False) else False
      | .ref c g => (match regAt s c g with
        | some r => if r.n = de.size then bndK s lo 0 fun l => bndK s hi (r.es.length : Int) fun h => 0 ≤ l ∧ l ≤ h ∧ h ≤ (r.es.length : Int) ∧ putK nt o s (.vals false [.sub c g l.toNat h.toNat]) k else False
        | none => False)
      | .sub c g lo' hi' => (match regAt s c g with
        | some r => if r.n = de.size then bndK s lo 0 fun l => bndK s hi ((hi' - lo' : Nat) : Int) fun h => 0 ≤ l ∧ l ≤ h ∧ h ≤ ((hi' - lo' : Nat) : Int) ∧ putK nt o s (.vals false [.sub c g (lo' + l.toNat) (lo' + h.toNat)]) k else False
        | none => False)
      | .inn c iv i j => (match regIv s c iv with
        | some r => ∃ row0 m es, r.es[i]? = some row0 ∧ row0[j]? = some (.sl true m es) ∧ m = de.size ∧ bndK s lo 0 fun l => bndK s hi (es.length : Int) fun h => 0 ≤ l ∧ l ≤ h ∧ h ≤ (es.length : Int) ∧
            putK nt o s (.vals false [.rd (some (c, iv)) m ((es.take h.toNat).drop l.toNat)]) k
        | none => False)
      | _ => False)
    | none => False)
  | _, _, _ => False

theorem bndK_ok {g : G} {s : S} {a : Act} {w : World} (hs : SlotsOk g s nt a w) {x : Option Operand} {d : Int} {k : Int → Prop} (h : bndK s x d k) :
    ∃ n, k n ∧ ((x = none ∧ n = d) ∨ ∃ p q, x = some p ∧ a.eval p = .int q n) := by
  cases x with
  | none => exact ⟨d, h, .inl ⟨rfl, rfl⟩⟩
  | some p =>
    simp only [bndK] at h
    split at h
    · rename_i q n hp
      have hv : a.eval p = .int q n := by obtain ⟨y, q1, q2⟩ := ev_ok hs hp; cases q1; exact q2
      exact ⟨n, h, .inr ⟨p, q, rfl, hv⟩⟩
    · exact h.elim

theorem bounds_run {a : Act} {w : World} {isS : Bool} {len cap : Nat} {lo hi : Option Operand} {l h : Int} (h0 : 0 ≤ l) (h1 : l ≤ h) (h2 : h ≤ (len : Int)) (hlc : len ≤ cap) (hcap : isS = false → cap = len)
    (hl : (lo = none ∧ l = 0) ∨ ∃ p q, lo = some p ∧ a.eval p = .int q l) (hh : (hi = none ∧ h = (len : Int)) ∨ ∃ p q, hi = some p ∧ a.eval p = .int q h) :
    (Instr.sliceBounds isS len cap (lo.map a.eval) (hi.map a.eval) none).run P w = .ok (l.toNat, h.toNat, cap) w := by
  have hb : ∀ (q : IntKind) (n : Int) (y : Nat) (c : BoundsCode), 0 ≤ n → n ≤ (y : Int) → (Instr.sliceBound (.int q n) y c).run P w = .ok n.toNat w := by
    intro q n y c hn0 hny
    simp [Instr.sliceBound, asIntOf, hn0, hny]
  have hcapI : h ≤ (cap : Int) := by omega
  have hh' : h.toNat = len ∨ True := .inr trivial
  rcases hh with ⟨rfl, rfl⟩ | ⟨p, q, rfl, hp⟩ <;> rcases hl with ⟨rfl, rfl⟩ | ⟨p', q', rfl, hp'⟩
  · simp [Instr.sliceBounds]
  · have e := fun c => hb q' l len c h0 (by omega)
    simp only [Instr.sliceBounds, Option.map_none, Option.map_some, Sem.run_bind, Sem.run_pure, Result.andThen_ok, hp', e, Int.toNat_natCast]
  · have e := fun c => hb q h cap c (by omega) hcapI
    simp only [Instr.sliceBounds, Option.map_none, Option.map_some, Sem.run_bind, Sem.run_pure, Result.andThen_ok, hp, e]
    rfl
  · have e := fun c => hb q h cap c (by omega) hcapI
    have e' := fun c => hb q' l h.toNat c h0 (by omega)
    simp only [Instr.sliceBounds, Option.map_none, Option.map_some, Sem.run_bind, Sem.run_pure, Result.andThen_ok, hp, hp', e, e']

theorem sub_model {v : Value} {n l h : Nat} {a : Option Addr} {len cap : Nat} (hv : v = .slice a len cap) (ha : ∀ ad, a = some ad → ad.spot = none) (hn : a = none → len = 0 ∧ cap = 0) (h1 : l ≤ h) (h2 : h ≤ len) (hc : len ≤ cap) :
    SubOf v n l h (.slice (if cap = l then a else a.map (·.add (l * n))) (h - l) (cap - l)) := by
  cases a with
  | none =>
    obtain ⟨rfl, rfl⟩ := hn rfl
    have : h = 0 := by omega
    subst this
    have : l = 0 := by omega
    subst this
    exact .inl ⟨hv, by simp⟩
  | some ad =>
    obtain ⟨b, o, sp⟩ := ad
    have := ha _ rfl
    cases this
    refine .inr ⟨b, o, len, cap, if cap = l then o else o + l * n, cap - l, hv, ?_, Nat.le_refl _, by omega, ?_⟩
    · by_cases hcl : cap = l
      · simp [hcl]
      · simp [hcl, add_eq]
    · by_cases hcl : cap = l
      · right; simp [hcl]
      · left; simp [hcl]

theorem sub_sub {v u u' : Value} {n lo hi l h : Nat} (h1 : SubOf v n lo hi u) (h2 : SubOf u n l h u') (hlh : l ≤ h) (hh : h ≤ hi - lo) (hlo : lo ≤ hi) : SubOf v n (lo + l) (lo + h) u' := by
  rcases h1 with ⟨rfl, rfl⟩ | ⟨g, o, len, cap, o', cap', rfl, rfl, h3, h4, h5⟩
  · rcases h2 with ⟨_, rfl⟩ | ⟨g, o, len, cap, o', cap', e, _⟩
    · exact .inl ⟨rfl, rfl⟩
    · cases e
  · rcases h2 with ⟨e, _⟩ | ⟨g2, o2, len2, cap2, o2', cap2', e, rfl, q3, q4, q5⟩
    · cases e
    · cases e
      refine .inr ⟨g, o, len, cap, o2', cap2', rfl, by rw [show lo + h - (lo + l) = h - l by omega], by omega, by omega, ?_⟩
      have hmul : (lo + l) * n = lo * n + l * n := Nat.add_mul _ _ _
      rcases h5 with rfl | ⟨h5, h6⟩
      · rcases q5 with rfl | ⟨q5, q6⟩
        · left; omega
        · right; omega
      · rcases q5 with rfl | ⟨q5, q6⟩
        · right; omega
        · right; omega

theorem rdX_part {w : World} {g : G} {regs : List (Nat × Reg)} {u u' : Value} {ln : Option (Nat × Nat)} {m : Nat} {es : List (List C)} (hx : XOk w g regs u (.rd ln m es)) {lo hi : Nat} (h1 : lo ≤ hi) (h2 : hi ≤ es.length)
    (hs : ∀ I : Nat → Prop, Rd w I u (.sl true m es) → Rd w I u' (.sl true m ((es.take hi).drop lo))) : XOk w g regs u' (.rd ln m ((es.take hi).drop lo)) := by
  cases ln with
  | none => exact hs _ hx
  | some q =>
    obtain ⟨c, iv⟩ := q
    obtain ⟨r, h4, h5, h6⟩ := hx
    exact ⟨r, h4, h5, fun hv he => hs _ (h6 hv he)⟩

theorem part_model {w : World} {I : Nat → Prop} {v : Value} {own : Bool} {n : Nat} {es : List (List C)} (h : Rd w I v (.sl own n es)) {l hi : Nat} (h1 : l ≤ hi) (h2 : hi ≤ es.length) {a : Option Addr} {cap : Nat} (hv : v = .slice a es.length cap) :
    Rd w I (.slice (if cap = l then a else a.map (·.add (l * n))) (hi - l) (cap - l)) (.sl own n ((es.take hi).drop l)) := by
  subst hv
  rcases Nat.eq_or_lt_of_le h1 with rfl | hlt
  · have : (es.take l).drop l = [] := by simp
    rw [this, Nat.sub_self]
    exact .nil _ _ _ _
  · have hc : es.length ≤ cap := (h.cap _ _ _ rfl).2
    have hcl : cap ≠ l := by omega
    rw [if_neg hcl]
    refine h.part l hi (cap - l) h1 h2 (by omega) _ fun _ b o ha => ?_
    subst ha
    simp [add_eq]

theorem slice_sound (hτ : ∀ t d, τ t = some d → TyOk P t d) (o : Oper) (t : Nat) (x : Operand) (lo hi mx : Option Operand) (ho : o.op = .slice t x lo hi mx) : Sound P w0 A B nt o (sliceW τ nt o t x lo hi mx) := by
  intro s a w k next Q hr hW hn
  obtain ⟨hdf, hsz, g, hm, hs⟩ := hr
  unfold sliceW at hW
  split at hW
  · rename_i b ht hx
    have hu : P.underlying t = some .string := (hτ _ _ ht).kind
    have hv : a.eval x = .string b := by obtain ⟨y, q1, q2⟩ := ev_ok hs hx; cases q1; exact q2
    obtain ⟨l, hW, hl⟩ := bndK_ok hs hW
    obtain ⟨h, hW, hh⟩ := bndK_ok hs hW
    obtain ⟨h0, h1, h2, hK⟩ := hW
    have hb := bounds_run (P := P) (w := w) (isS := false) (len := b.size) (cap := b.size) h0 h1 h2 (Nat.le_refl _) (fun _ => rfl) hl hh
    refine finish hdf hsz hs (Step.refl g s w) hm rfl ?_ (sc_ok _ _ _ _ _) hK hn
    simp [execOp, ho, hv, Instr.sliceAt, Instr.slice, run_underlying hu, hb, cutStr_eq]
  · rename_i e _ _ _ y ht hx
    have hu : P.underlying t = some (.slice e) := (hτ _ _ ht).kind
    obtain ⟨y', q1, hvx⟩ := ev_ok hs hx
    cases q1
    split at hW
    · rename_i de hde
      obtain ⟨i, z, hi', hisz, _⟩ := (hτ _ _ hde).info
      have hrun : ∀ (ad : Option Addr) (len cap : Nat) (l h : Int), a.eval x = .slice ad len cap → 0 ≤ l → l ≤ h → h ≤ (len : Int) → len ≤ cap → ((lo = none ∧ l = 0) ∨ ∃ p q, lo = some p ∧ a.eval p = .int q l) →
          ((hi = none ∧ h = (len : Int)) ∨ ∃ p q, hi = some p ∧ a.eval p = .int q h) →
          (execOp a.eval o).run P w = .ok (.value (.slice (if cap = l.toNat then ad else ad.map (·.add (l.toNat * de.size))) (h.toNat - l.toNat) (cap - l.toNat))) w := by
        intro ad len cap l h hv h0 h1 h2 hlc hl hh
        have hb := bounds_run (P := P) (w := w) (isS := true) (len := len) (cap := cap) h0 h1 h2 hlc (fun h => by cases h) hl hh
        simp [execOp, ho, hv, Instr.sliceAt, Instr.slice, run_underlying hu, hb, sizeOf, typeInfo, hi', hisz]
      split at hW
      · rename_i n
        obtain ⟨l, hW, hl⟩ := bndK_ok hs hW
        obtain ⟨h, hW, hh⟩ := bndK_ok hs hW
        obtain ⟨rfl, rfl, hK⟩ := hW
        have hv : a.eval x = .slice none 0 0 := hvx
        have := hrun none 0 0 0 0 hv (by omega) (by omega) (by simp) (Nat.le_refl _) hl (by simpa using hh)
        exact finish hdf hsz hs (Step.refl g s w) hm rfl this (e := .vals false [.nil n]) ⟨_, rfl, by simp [XOk]⟩ hK hn
      · rename_i ln m es
        split at hW
        · rename_i hl0
          split at hW
          · rename_i hmd
            subst hmd
            obtain ⟨l, hW, hl⟩ := bndK_ok hs hW
            obtain ⟨h, hW, hh⟩ := bndK_ok hs hW
            obtain ⟨h0, h1, h2, hK⟩ := hW
            have hR : Rd w g.J (a.eval x) (.sl true de.size es) := Ln_J (φ := fun I => Rd w I (a.eval x) (.sl true de.size es)) rfl hvx hl0 fun I hI hr => hr.frame hI fun _ _ => rfl
            obtain ⟨ad, cap, hv⟩ := hR.form
            have hlc' : es.length ≤ cap := (hR.cap _ _ _ hv).2
            have := hrun ad es.length cap l h hv h0 h1 h2 hlc' hl hh
            refine finish hdf hsz hs (Step.refl g s w) hm rfl this (e := .vals false [.rd ln de.size ((es.take h.toNat).drop l.toNat)]) ⟨_, rfl, ?_⟩ hK hn
            exact rdX_part hvx (by omega) (by omega) fun I hR => part_model hR (by omega) (by omega) hv
          · exact hW.elim
        · exact hW.elim
      · rename_i c gn
        split at hW
        · rename_i r hreg
          split at hW
          · rename_i hrn
            obtain ⟨l, hW, hl⟩ := bndK_ok hs hW
            obtain ⟨h, hW, hh⟩ := bndK_ok hs hW
            obtain ⟨h0, h1, h2, hK⟩ := hW
            obtain ⟨e1, e2, e3⟩ := regAt_some hreg
            obtain ⟨r', e4, e5, e6⟩ := hvx
            rw [e1] at e4
            cases e4
            have hval : a.eval x = g.val c := e6 e2 e3.symm
            have hO := hm.regs c r e1 e2
            obtain ⟨ad, cap, hv⟩ := hO.form
            have hform : (∀ ad', ad = some ad' → ad'.spot = none) ∧ (ad = none → r.es.length = 0 ∧ cap = 0) ∧ r.es.length ≤ cap := by
              refine ⟨fun ad' e => hO.some_inv ad' _ _ (by rw [hv, e]), fun e => ?_, (hO.cap _ _ _ hv).2⟩
              obtain ⟨q1, q2⟩ := hO.none_inv _ _ (by rw [hv, e])
              exact ⟨by rw [q2]; rfl, q1⟩
            obtain ⟨f1, f2, f3⟩ := hform
            have := hrun ad r.es.length cap l h (hval.trans hv) h0 h1 h2 f3 hl hh
            refine finish hdf hsz hs (Step.refl g s w) hm rfl this (e := .vals false [.sub c gn l.toNat h.toNat]) ⟨_, rfl, r, e1, by omega, fun _ _ => ⟨?_, by omega, by omega⟩⟩ hK hn
            rw [hrn]
            exact sub_model hv f1 f2 (by omega) (by omega) f3
          · exact hW.elim
        · exact hW.elim
      · rename_i c gn lo' hi''
        split at hW
        · rename_i r hreg
          split at hW
          · rename_i hrn
            obtain ⟨l, hW, hl⟩ := bndK_ok hs hW
            obtain ⟨h, hW, hh⟩ := bndK_ok hs hW
            obtain ⟨h0, h1, h2, hK⟩ := hW
            obtain ⟨e1, e2, e3⟩ := regAt_some hreg
            obtain ⟨r', e4, e5, e6⟩ := hvx
            rw [e1] at e4
            cases e4
            obtain ⟨e7, e8, e9⟩ := e6 e2 e3.symm
            have key : ∃ ad cap, a.eval x = .slice ad (hi'' - lo') cap ∧ (∀ ad', ad = some ad' → ad'.spot = none) ∧ (ad = none → hi'' - lo' = 0 ∧ cap = 0) ∧ hi'' - lo' ≤ cap := by
              have e7' := e7
              rcases e7 with ⟨q1, q2⟩ | ⟨gb, og, leng, capg, os, caps, q1, q2, q3, q4, q5⟩
              · have hO := hm.regs c r e1 e2
                obtain ⟨_, q6⟩ := hO.none_inv _ _ q1
                rw [q6] at e9
                have : hi'' = 0 := by simpa using e9
                exact ⟨none, 0, by rw [q2, this]; simp, fun _ e => (by cases e), fun _ => ⟨by omega, rfl⟩, by omega⟩
              · exact ⟨_, caps, q2, fun _ e => (by cases e; rfl), fun e => (by cases e), q4⟩
            obtain ⟨ad, cap, hv, f1, f2, f3⟩ := key
            have := hrun ad (hi'' - lo') cap l h hv h0 h1 h2 f3 hl hh
            refine finish hdf hsz hs (Step.refl g s w) hm rfl this (e := .vals false [.sub c gn (lo' + l.toNat) (lo' + h.toNat)]) ⟨_, rfl, r, e1, by omega, fun _ _ => ⟨?_, by omega, by omega⟩⟩ hK hn
            refine sub_sub e7 ?_ (by omega) (by omega) e8
            rw [hrn]
            exact sub_model hv f1 f2 (by omega) (by omega) f3
          · exact hW.elim
        · exact hW.elim
      · rename_i c iv i' j'
        split at hW
        · rename_i r hreg
          obtain ⟨row0, m, es, hr0, hj, hmd, hW⟩ := hW
          obtain ⟨hl0, hrd⟩ := inn_rd hm hvx hreg hr0 hj
          subst hmd
          obtain ⟨l, hW, hl⟩ := bndK_ok hs hW
          obtain ⟨h, hW, hh⟩ := bndK_ok hs hW
          obtain ⟨h0, h1, h2, hK⟩ := hW
          have hR : Rd w g.J (a.eval x) (.sl true de.size es) := Ln_J (ln := some (c, iv)) (φ := fun I => Rd w I (a.eval x) (.sl true de.size es)) rfl hrd hl0 fun I hI hr => hr.frame hI fun _ _ => rfl
          obtain ⟨ad, cap, hv⟩ := hR.form
          have hlc' : es.length ≤ cap := (hR.cap _ _ _ hv).2
          have := hrun ad es.length cap l h hv h0 h1 h2 hlc' hl hh
          refine finish hdf hsz hs (Step.refl g s w) hm rfl this (e := .vals false [.rd (some (c, iv)) de.size ((es.take h.toNat).drop l.toNat)]) ⟨_, rfl, ?_⟩ hK hn
          exact rdX_part hrd (by omega) (by omega) fun I hR => part_model hR (by omega) (by omega) hv
        · exact hW.elim
      · exact hW.elim
    · exact hW.elim
  · exact hW.elim

end
end Go.Proofs.Ytppfojiogappaaa.V
