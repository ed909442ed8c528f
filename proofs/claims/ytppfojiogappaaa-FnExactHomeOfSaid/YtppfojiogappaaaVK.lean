/- Boxes laid, places, parts of values, lengths, elements, cuts, conversions. -/
import Derived.Test.YtppfojiogappaaaVJ
set_option linter.unusedVariables false
set_option linter.unusedSimpArgs false
namespace Go.Proofs.Ytppfojiogappaaa.V
open Go Classical

section
variable {P : Program} {w0 : World} {A : AA} {B : List (Nat × Nat × Nat)} {nt : Nat} {τ : Nat → Option TD}

/-! ### boxes -/
def boxW (nt : Nat) (o : Oper) (x : Operand) (s : S) (k : S → Prop) : Prop :=
  match o.dst, s.ev x with
  | some d, some (.vals agg xs) => if xs.all (okX s) then putK nt o { s with boxes := put s.boxes d ⟨boxGen s.boxes d, xs⟩ } (.bptr d (boxGen s.boxes d) 0) k else False
  | _, _ => False

theorem box_sound (o : Oper) (el : Nat) (x : Operand) (ho : o.op = .box el x) : Sound P w0 A B nt o (boxW nt o x) := by
  intro s a w k next Q hr hW hn
  obtain ⟨hdf, hsz, g, hm, hs⟩ := hr
  unfold boxW at hW
  split at hW
  · rename_i d agg xs hd hx
    split at hW
    · rename_i hall
      have hv := ev_ok hs hx
      obtain ⟨hc1, hc2⟩ := vals_cells (v := a.eval x) hv (fun _ u y hy hxo => okX_one hm hxo (by rw [hy] at hall; simpa using hall))
      obtain ⟨hst, hm'⟩ := hm.newBox d (a.eval x).cells el xs ⟨hc1, hc2⟩ (fun j u hu => by
        have hj : j < xs.length := by rw [← hc1]; exact (Array.getElem?_eq_some_iff.1 hu).1
        obtain ⟨u', hu', hxo⟩ := hc2 j xs[j] (by simp)
        rw [hu] at hu'
        cases hu'
        exact okX_one hm hxo (List.all_eq_true.1 hall _ (by simp)))
      refine finish hdf hsz hs hst hm' rfl (v := .pointer (some ⟨w.heap.size, 0, none⟩)) ?_ ?_ hW hn
      · simp [execOp, ho, Instr.box, newVar, newRow]
      · exact ⟨_, get_put_same _ _ _, Nat.le_refl _, fun _ => by simp [G.newBox]⟩
    · exact hW.elim
  · exact hW.elim

def allocW (τ : Nat → Option TD) (nt : Nat) (o : Oper) (el : Nat) (s : S) (k : S → Prop) : Prop :=
  match o.dst, τ el with
  | some d, some td => putK nt o { s with boxes := put s.boxes d ⟨boxGen s.boxes d, td.zero⟩ } (.bptr d (boxGen s.boxes d) 0) k
  | _, _ => False

theorem zero_cells {t : Nat} {d : TD} (hd : TyOk P t d) (w : World) (g : G) (rs : List (Nat × Reg)) :
    ∃ i z, P.info? t = some i ∧ i.zero = some z ∧ z.cells.size = d.size ∧ CellsOk w g rs z.cells d.zero ∧ ∀ (j : Nat) (u : Value), z.cells[j]? = some u → u.oneCell' = true := by
  obtain ⟨i, z, h1, h2, h3, h4, h5⟩ := hd.info
  have hl : z.cells.size = d.zero.length := by
    have := congrArg List.length h5
    simpa using this
  have hat : ∀ (j : Nat) (x : X), d.zero[j]? = some x → z.cells[j]? = some x.v0 := by
    intro j x hx
    have : z.cells.toList[j]? = some x.v0 := by rw [h5]; simp [hx]
    simpa using this
  have hone : ∀ (j : Nat) (x : X), d.zero[j]? = some x → x.v0.oneCell' = true ∧ XOk w g rs x.v0 x := by
    intro j x hx
    have := List.all_eq_true.1 hd.zone x (List.mem_of_getElem? hx)
    cases x with
    | sc v => exact ⟨this, rfl⟩
    | nil n => exact ⟨rfl, rfl⟩
    | _ => cases this
  refine ⟨i, z, h1, h4, by rw [hl, hd.zlen], ⟨hl, fun j x hx => ⟨_, hat j x hx, (hone j x hx).2⟩⟩, fun j u hu => ?_⟩
  have hj : j < d.zero.length := by rw [← hl]; exact (Array.getElem?_eq_some_iff.1 hu).1
  have h6 := hat j d.zero[j] (by simp)
  rw [hu] at h6
  cases h6
  exact (hone j d.zero[j] (by simp)).1

theorem alloc_sound (hτ : ∀ t d, τ t = some d → TyOk P t d) (o : Oper) (el : Nat) (ho : o.op = .alloc el) : Sound P w0 A B nt o (allocW τ nt o el) := by
  intro s a w k next Q hr hW hn
  obtain ⟨hdf, hsz, g, hm, hs⟩ := hr
  unfold allocW at hW
  split at hW
  · rename_i d td hd ht
    obtain ⟨i, z, h1, h2, _, h3, h4⟩ := zero_cells (hτ _ _ ht) w g s.regs
    obtain ⟨hst, hm'⟩ := hm.newBox d z.cells el td.zero h3 h4
    refine finish hdf hsz hs hst hm' rfl (v := .pointer (some ⟨w.heap.size, 0, none⟩)) ?_ ?_ hW hn
    · simp [execOp, ho, Instr.alloc, zeroValue, typeInfo, h1, h2, newVar, newRow]
    · exact ⟨_, get_put_same _ _ _, Nat.le_refl _, fun _ => by simp [G.newBox]⟩
  · exact hW.elim

/-! ### places -/
/-- A pointer that still points; moved on by some cells. -/
def ptrK (s : S) (e : E) (off : Nat) (k : E → Prop) : Prop :=
  match e with
  | .bptr b g o => (match boxAt s b g with | some _ => k (.bptr b g (o + off)) | none => False)
  | .eptr h g i o => (match regAt s h g with | some _ => k (.eptr h g i (o + off)) | none => False)
  | .rptr ln row o => if lnLive s ln then k (.rptr ln row (o + off)) else False
  | _ => False

theorem ptrK_ok {g : G} {s : S} {w : World} {v : Value} {e : E} {off : Nat} {k : E → Prop} (hv : EOk w g s.boxes s.regs v e) (h : ptrK s e off k) :
    ∃ b o e', v = .pointer (some ⟨b, o, none⟩) ∧ EOk w g s.boxes s.regs (.pointer (some ⟨b, o + off, none⟩)) e' ∧ k e' := by
  cases e with
  | vals _ _ => exact h.elim
  | tup _ => exact h.elim
  | clo _ _ _ => exact h.elim
  | bptr b gn o =>
    simp only [ptrK] at h
    split at h
    · rename_i cells hb
      obtain ⟨x, h1, h2, h3⟩ := boxAt_some hb
      obtain ⟨x', h4, h5, h6⟩ := hv
      rw [h1] at h4
      cases h4
      exact ⟨_, _, .bptr b gn (o + off), h6 h2.symm, ⟨x, h1, h5, fun _ => by rw [Nat.add_assoc]⟩, h⟩
    · exact h.elim
  | eptr c gn i o =>
    simp only [ptrK] at h
    split at h
    · rename_i r hr
      obtain ⟨h1, h2, h3⟩ := regAt_some hr
      obtain ⟨r', h4, h5, h6⟩ := hv
      rw [h1] at h4
      cases h4
      obtain ⟨b, oo, len, cap, e1, e2, e3⟩ := h6 h2 h3.symm
      exact ⟨_, _, .eptr c gn i (o + off), e3, ⟨r, h1, h5, fun _ _ => ⟨b, oo, len, cap, e1, e2, by rw [Nat.add_assoc]⟩⟩, h⟩
    · exact h.elim
  | rptr ln row o =>
    simp only [ptrK] at h
    split at h
    · rename_i hl
      have key : ∃ b oo, v = .pointer (some ⟨b, oo + o, none⟩) ∧ EOk w g s.boxes s.regs (.pointer (some ⟨b, oo + o + off, none⟩)) (.rptr ln row (o + off)) := by
        cases ln with
        | none =>
          obtain ⟨b, oo, e1, e2, e3⟩ := hv
          exact ⟨b, oo, e1, b, oo, by rw [Nat.add_assoc], e2, e3⟩
        | some q =>
          obtain ⟨c, iv⟩ := q
          obtain ⟨r, h1, h2, h3⟩ := lnLive_some hl
          obtain ⟨r', h4, h5, h6⟩ := hv
          rw [h1] at h4
          cases h4
          obtain ⟨b, oo, e1, e2, e3⟩ := h6 h2 h3.symm
          exact ⟨b, oo, e1, r, h1, h5, fun _ _ => ⟨b, oo, by rw [Nat.add_assoc], e2, e3⟩⟩
      obtain ⟨b, oo, e1, e2⟩ := key
      exact ⟨_, _, _, e1, e2, h⟩
    · exact h.elim

def fieldAddrW (τ : Nat → Option TD) (nt : Nat) (o : Oper) (t : Nat) (p : Operand) (f : Nat) (s : S) (k : S → Prop) : Prop :=
  match τ t, s.ev p with
  | some { kind := .struct fs, .. }, some e => (match fs[f]? with
    | some (off, ft) => (match τ ft with
      | some df => if df.size = 0 then False else ptrK s e off fun e' => putK nt o s e' k
      | none => False)
    | none => False)
  | _, _ => False

theorem fieldAddr_sound (hτ : ∀ t d, τ t = some d → TyOk P t d) (o : Oper) (t : Nat) (p : Operand) (f : Nat) (ho : o.op = .fieldAddr t p f) : Sound P w0 A B nt o (fieldAddrW τ nt o t p f) := by
  intro s a w k next Q hr hW hn
  obtain ⟨hdf, hsz, g, hm, hs⟩ := hr
  unfold fieldAddrW at hW
  split at hW
  · rename_i fs _ _ _ e ht he
    split at hW
    · rename_i off ft hf
      split at hW
      · rename_i df hdf'
        split at hW
        · exact hW.elim
        · rename_i hsz0
          obtain ⟨b, oo, e', h1, h2, h3⟩ := ptrK_ok (ev_ok hs he) hW
          refine finish hdf hsz hs (Step.refl g s w) hm rfl ?_ h2 h3 hn
          obtain ⟨arr, hu, ha⟩ := (hτ _ _ ht).kind
          obtain ⟨i, z, hi, hisz, _⟩ := (hτ _ _ hdf').info
          have hfld : ∃ fl, arr[f]? = some fl ∧ fl.offset = off ∧ fl.type = ft := by
            rw [← ha] at hf
            simp only [List.getElem?_map, Array.getElem?_toList] at hf
            cases hq : arr[f]? with
            | none => rw [hq] at hf; cases hf
            | some fl => rw [hq] at hf; cases hf; exact ⟨fl, rfl, rfl, rfl⟩
          obtain ⟨fl, g1, g2, g3⟩ := hfld
          subst g2
          subst g3
          have : ¬ (i.size = 0) := by rw [hisz]; exact hsz0
          simp [execOp, ho, h1, Instr.fieldAt, run_underlying hu, g1, Instr.sureAddr, fieldPlace, sizeOf, typeInfo, hi, this, add_eq]
      · exact hW.elim
    · exact hW.elim
  · exact hW.elim

def nilCheckW (nt : Nat) (o : Oper) (p : Operand) (s : S) (k : S → Prop) : Prop :=
  match s.ev p with
  | some e => ptrK s e 0 fun e' => putK nt o s e' k
  | none => False

theorem nilCheck_sound (o : Oper) (p : Operand) (ho : o.op = .nilCheck p) : Sound P w0 A B nt o (nilCheckW nt o p) := by
  intro s a w k next Q hr hW hn
  obtain ⟨hdf, hsz, g, hm, hs⟩ := hr
  unfold nilCheckW at hW
  split at hW
  · rename_i e he
    obtain ⟨b, oo, e', h1, h2, h3⟩ := ptrK_ok (ev_ok hs he) hW
    refine finish hdf hsz hs (Step.refl g s w) hm rfl ?_ h2 h3 hn
    simp [execOp, ho, h1]
  · exact hW.elim

/-! ### parts of values -/
def fieldW (τ : Nat → Option TD) (nt : Nat) (o : Oper) (t : Nat) (x : Operand) (f : Nat) (s : S) (k : S → Prop) : Prop :=
  match τ t, s.ev x with
  | some { kind := .struct fs, .. }, some (.vals true xs) => (match fs[f]? with
    | some (off, ft) => (match τ ft with
      | some df => if okKind df.kind then (match mkE df ((xs.drop off).take df.size) with
        | some e => putK nt o s e k
        | none => False) else False
      | none => False)
    | none => False)
  | _, _ => False

theorem isAgg_run {t : Nat} {d : TD} (hd : TyOk P t d) (hk : okKind d.kind = true) (w : World) : (isAgg t).run P w = .ok (aggOf d) w := by
  have := hd.kind
  cases hkd : d.kind with
  | other => rw [hkd] at hk; cases hk
  | struct fs =>
    rw [hkd] at this
    obtain ⟨arr, hu, _⟩ := this
    simp [isAgg, run_underlying hu, aggOf, hkd, isAggK]
  | _ =>
    rw [hkd] at this
    simp [isAgg, run_underlying this, aggOf, hkd, isAggK]

theorem field_sound (hτ : ∀ t d, τ t = some d → TyOk P t d) (o : Oper) (t : Nat) (x : Operand) (f : Nat) (ho : o.op = .field t x f) : Sound P w0 A B nt o (fieldW τ nt o t x f) := by
  intro s a w k next Q hr hW hn
  obtain ⟨hdf, hsz, g, hm, hs⟩ := hr
  unfold fieldW at hW
  split at hW
  · rename_i fs _ _ _ xs ht hx
    split at hW
    · rename_i off ft hf
      split at hW
      · rename_i df hdf'
        split at hW
        · rename_i hk
          split at hW
          · rename_i e hme
            obtain ⟨us, hus, hc1, hc2⟩ := ev_ok hs hx
            obtain ⟨arr, hu, ha⟩ := (hτ _ _ ht).kind
            obtain ⟨i, z, hi, hisz, _⟩ := (hτ _ _ hdf').info
            have hfld : ∃ fl, arr[f]? = some fl ∧ fl.offset = off ∧ fl.type = ft := by
              rw [← ha] at hf
              simp only [List.getElem?_map, Array.getElem?_toList] at hf
              cases hq : arr[f]? with
              | none => rw [hq] at hf; cases hf
              | some fl => rw [hq] at hf; cases hf; exact ⟨fl, rfl, rfl, rfl⟩
            obtain ⟨fl, g1, g2, g3⟩ := hfld
            subst g2
            subst g3
            have hag := isAgg_run (hτ _ _ hdf') hk w
            unfold mkE at hme
            split at hme
            · rename_i hlen
              split at hme
              · rename_i hagg
                cases hme
                refine finish hdf hsz hs (Step.refl g s w) hm rfl (v := .agg (us.extract fl.offset (fl.offset + df.size))) (e := .vals true ((xs.drop fl.offset).take df.size)) ?_ ⟨_, rfl, ?_, fun j y hj => ?_⟩ hW hn
                · simp [execOp, ho, hus, Instr.field, run_underlying hu, g1, asAgg, part, hag, hagg, sizeOf, typeInfo, hi, hisz]
                · simp at hlen ⊢
                  omega
                · rw [List.getElem?_take] at hj
                  split at hj
                  · rw [List.getElem?_drop] at hj
                    obtain ⟨u, hu', hxo⟩ := hc2 _ y hj
                    refine ⟨u, ?_, hxo⟩
                    rw [Array.getElem?_extract, if_pos]
                    · exact hu'
                    · have := (Array.getElem?_eq_some_iff.1 hu').1
                      omega
                  · cases hj
              · rename_i hagg
                split at hme
                · rename_i y hy
                  cases hme
                  have h0 : ((xs.drop fl.offset).take df.size)[0]? = some y := by rw [hy]; rfl
                  rw [List.getElem?_take] at h0
                  split at h0
                  · rw [List.getElem?_drop] at h0
                    obtain ⟨u, hu', hxo⟩ := hc2 _ y h0
                    refine finish hdf hsz hs (Step.refl g s w) hm rfl (v := u) (e := .vals false [y]) ?_ ⟨_, rfl, hxo⟩ hW hn
                    simp only [Nat.add_zero] at hu'
                    have hagg' : aggOf df = false := by simpa using hagg
                    simp [execOp, ho, hus, Instr.field, run_underlying hu, g1, asAgg, part, hag, hagg', hu']
                  · cases h0
                · cases hme
            · cases hme
          · exact hW.elim
        · exact hW.elim
      · exact hW.elim
    · exact hW.elim
  · exact hW.elim

def extractW (nt : Nat) (o : Oper) (t : Operand) (i : Nat) (s : S) (k : S → Prop) : Prop :=
  match s.ev t with
  | some (.tup ps) => (match ps[i]? with
    | some p => putK nt o s (.vals p.1 p.2) k
    | none => False)
  | _ => False

theorem extract_sound (o : Oper) (t : Operand) (i : Nat) (ho : o.op = .extract t i) : Sound P w0 A B nt o (extractW nt o t i) := by
  intro s a w k next Q hr hW hn
  obtain ⟨hdf, hsz, g, hm, hs⟩ := hr
  unfold extractW at hW
  split at hW
  · rename_i ps ht
    split at hW
    · rename_i p hp
      obtain ⟨vs, h1, h2, h3⟩ := ev_ok hs ht
      obtain ⟨u, hu, hv⟩ := h3 i p hp
      refine finish hdf hsz hs (Step.refl g s w) hm rfl (v := u) (e := .vals p.1 p.2) ?_ hv hW hn
      simp [execOp, ho, h1, Instr.extract, hu]
    · exact hW.elim
  · exact hW.elim

/-! ### lengths and bytes -/
def lenW (τ : Nat → Option TD) (nt : Nat) (o : Oper) (t : Nat) (x : Operand) (s : S) (k : S → Prop) : Prop :=
  match τ t, s.ev x with
  | some { kind := .str, .. }, some (.vals false [.sc (.string b)]) => putK nt o s (.vals false [.sc (.int .i64 (b.size : Int))]) k
  | some { kind := .slice _, .. }, some (.vals false [y]) => withC s y fun _ es => putK nt o s (.vals false [.sc (.int .i64 (es.length : Int))]) k
  | _, _ => False

theorem len_sound (hτ : ∀ t d, τ t = some d → TyOk P t d) (o : Oper) (t : Nat) (x : Operand) (ho : o.op = .call { callee := .builtin .len, args := #[x], argTypes := #[t] }) : Sound P w0 A B nt o (lenW τ nt o t x) := by
  intro s a w k next Q hr hW hn
  obtain ⟨hdf, hsz, g, hm, hs⟩ := hr
  unfold lenW at hW
  split at hW
  · rename_i b ht hx
    obtain ⟨y, e1, hv⟩ := ev_ok hs hx
    cases e1
    have hv' : a.eval x = .string b := hv
    have hu : P.underlying t = some .string := (hτ _ _ ht).kind
    refine finish hdf hsz hs (Step.refl g s w) hm rfl ?_ (sc_ok _ _ _ _ _) hW hn
    simp [execOp, ho, resolve, invoke, builtin, hv', Builtin.len_, run_underlying hu, goInt]
  · rename_i e y ht hx
    obtain ⟨y', e1, hv⟩ := ev_ok hs hx
    cases e1
    obtain ⟨n, es, hR, hK⟩ := withC_rd hm hv hW
    obtain ⟨b, cap, hf⟩ := hR.form
    have hu : P.underlying t = some (.slice _) := (hτ _ _ ht).kind
    refine finish hdf hsz hs (Step.refl g s w) hm rfl ?_ (sc_ok _ _ _ _ _) hK hn
    simp [execOp, ho, resolve, invoke, builtin, hf, Builtin.len_, run_underlying hu, goInt]
  · exact hW.elim

/-- A text's byte. -/
@[irreducible] noncomputable def btOf (s : ByteArray) (i : Int) : Int := (hid (fun (s : ByteArray) (i : Int) => (if h : i.toNat < s.size then ((s[i.toNat]'h).toNat : Int) else 0 : Int))).1 s i
theorem btOf_eq (s : ByteArray) (i : Int) : btOf s i = (if h : i.toNat < s.size then ((s[i.toNat]'h).toNat : Int) else 0) := by
  unfold btOf
  rw [(hid _).2]

def indexW (τ : Nat → Option TD) (nt : Nat) (o : Oper) (t : Nat) (x i : Operand) (s : S) (k : S → Prop) : Prop :=
  match τ t, s.ev x, s.ev i with
  | some { kind := .str, .. }, some (.vals false [.sc (.string b)]), some (.vals false [.sc (.int _ n)]) => 0 ≤ n ∧ n < (b.size : Int) ∧ putK nt o s (.vals false [.sc (.int .u8 (btOf b n))]) k
  | _, _, _ => False

theorem index_sound (hτ : ∀ t d, τ t = some d → TyOk P t d) (o : Oper) (t : Nat) (x i : Operand) (ho : o.op = .index t x i) : Sound P w0 A B nt o (indexW τ nt o t x i) := by
  intro s a w k next Q hr hW hn
  obtain ⟨hdf, hsz, g, hm, hs⟩ := hr
  unfold indexW at hW
  split at hW
  · rename_i b _ n ht hx hi
    obtain ⟨y, e1, hv⟩ := ev_ok hs hx
    cases e1
    obtain ⟨y, e1, hv2⟩ := ev_ok hs hi
    cases e1
    have hv' : a.eval x = .string b := hv
    have hv2' : a.eval i = .int _ n := hv2
    have hu : P.underlying t = some .string := (hτ _ _ ht).kind
    obtain ⟨h0, h1, hK⟩ := hW
    refine finish hdf hsz hs (Step.refl g s w) hm rfl ?_ (sc_ok _ _ _ _ _) hK hn
    have hlt : n.toNat < b.size := by omega
    have hb : b[n.toNat]? = some b[n.toNat] := by simp [hlt]
    simp [execOp, ho, Instr.index, hv', hv2', asIntOf, run_underlying hu, h0, hb, btOf_eq, hlt]
  · exact hW.elim

end
end Go.Proofs.Ytppfojiogappaaa.V
