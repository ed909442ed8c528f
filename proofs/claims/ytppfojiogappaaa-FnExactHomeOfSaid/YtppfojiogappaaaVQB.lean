/- The room of a nil slice; room appended to a nil slice; the greater of two numbers. -/
import Derived.Test.YtppfojiogappaaaVQ
set_option linter.unusedVariables false
set_option linter.unusedSimpArgs false
namespace Go.Proofs.Ytppfojiogappaaa.V
open Go Classical

def capW (τ : Nat → Option TD) (nt : Nat) (o : Oper) (t : Nat) (x : Operand) (s : S) (k : S → Prop) : Prop :=
  match τ t, s.ev x with
  | some { kind := .slice _, .. }, some (.vals false [.nil _]) => putK nt o s (.vals false [.sc (.int .i64 0)]) k
  | _, _ => False

/-- append(nil, make(.., n)...) -/
def appendZW (τ : Nat → Option TD) (nt : Nat) (o : Oper) (t t2 : Nat) (b x : Operand) (s : S) (k : S → Prop) : Prop :=
  match τ t with
  | some { kind := .slice e, .. } => (match τ e with
    | some de => if de.size = 0 then False else if de.bytes = 0 then False else
      (match s.ev b, s.ev x, τ t2 with
      | some (.vals false [.nil _]), some (.vals false [.sc (.int _ n)]), some { kind := .int _, .. } =>
        0 < n ∧ n.toNat * de.bytes ≤ 140737488355328 ∧ layK nt o s [] true de.size (List.replicate n.toNat (de.zero.map zC)) k
      | _, _, _ => False)
    | none => False)
  | _ => False

section
variable {P : Program} {w0 : World} {A : AA} {B : List (Nat × Nat × Nat)} {nt : Nat} {τ : Nat → Option TD}

theorem max_sound (o : Oper) (x y : Operand) (ts : Array Nat) (ho : o.op = .call { callee := .builtin .max, args := #[x, y], argTypes := ts }) : Sound P w0 A B nt o (minW nt o true x y) := by
  intro s a w k next Q hr hW hn
  obtain ⟨hdf, hsz, g, hm, hs⟩ := hr
  unfold minW at hW
  split at hW
  · rename_i q n q' m h1 h2
    have hv1 : a.eval x = .int q n := by obtain ⟨y, e1, e2⟩ := ev_ok hs h1; cases e1; exact e2
    have hv2 : a.eval y = .int q' m := by obtain ⟨y, e1, e2⟩ := ev_ok hs h2; cases e1; exact e2
    refine finish hdf hsz hs (Step.refl g s w) hm rfl ?_ (sc_ok _ _ _ _ _) hW hn
    simp [execOp, ho, resolve, invoke, builtin, hv1, hv2, Builtin.max_, Builtin.max2, maxI_eq]
  · exact hW.elim

theorem cap_sound (hτ : ∀ t d, τ t = some d → TyOk P t d) (o : Oper) (t : Nat) (x : Operand) (ho : o.op = .call { callee := .builtin .cap, args := #[x], argTypes := #[t] }) : Sound P w0 A B nt o (capW τ nt o t x) := by
  intro s a w k next Q hr hW hn
  obtain ⟨hdf, hsz, g, hm, hs⟩ := hr
  unfold capW at hW
  split at hW
  · rename_i e _ _ _ _ ht hx
    have hu : P.underlying t = some (.slice e) := (hτ _ _ ht).kind
    have hv : a.eval x = .slice none 0 0 := by obtain ⟨y, e1, e2⟩ := ev_ok hs hx; cases e1; exact e2
    refine finish hdf hsz hs (Step.refl g s w) hm rfl ?_ (sc_ok _ _ _ _ _) hW hn
    simp [execOp, ho, resolve, invoke, builtin, hv, Builtin.cap_, run_underlying hu, goInt]
  · exact hW.elim

theorem wrp_i64' {x : Int} (h0 : -9223372036854775808 ≤ x) (h1 : x ≤ 9223372036854775807) : IntKind.i64.wrap x = x := by
  have e1 : (2 : Int) ^ 64 = 18446744073709551616 := by decide
  have e2 : (2 : Int) ^ (64 - 1) = 9223372036854775808 := by decide
  simp only [IntKind.wrap, IntKind.bits, IntKind.signed, e1, e2, Bool.true_and, decide_eq_true_eq]
  split <;> omega

theorem run_append_zeros {w : World} {t t2 ty e : Nat} {i : TypeInfo} {z : Value} {q r : IntKind} {n : Int}
    (ht : P.underlying t = some (.slice e)) (ht2 : P.underlying t2 = some (.int r)) (hi : P.info? e = some i) (hz : i.zero = some z) (hn : 0 < n) (hb : 0 < i.bytes) (hsz : 0 < i.size)
    (hbound : n.toNat * i.bytes ≤ 140737488355328) (hfit : Builtin.nextslicecap n.toNat 0 * i.bytes ≤ 281474976710656) :
    (Builtin.append_ #[t, t2] ty #[.slice none 0 0, .int q n]).run P w =
      .ok (.slice (some ⟨w.heap.size, 0, none⟩) n.toNat (grownCap w n.toNat 0 e))
        (w.drew.alloc (.cells (Builtin.zeroCells z.cells n.toNat ++ Builtin.zeroCells z.cells (grownCap w n.toNat 0 e - n.toNat)) e)) := by
  have h1 : n.toNat ≤ 140737488355328 := Nat.le_trans (Nat.le_mul_of_pos_right _ hb) hbound
  have hw : IntKind.i64.wrap n = n := by
    have := @wrp_i64' n (by omega) (by omega)
    exact this
  have h2 : ¬ n < 0 := by omega
  have h3 : ¬ (281474976710656 < n * (i.bytes : Int)) := by
    have e : n * (i.bytes : Int) = ((n.toNat * i.bytes : Nat) : Int) := by
      rw [Int.natCast_mul]
      congr 1
      omega
    rw [e]
    omega
  have h4 : ¬ (n.toNat = 0) := by omega
  have h5 : ¬ (n.toNat * i.size = 0) := by
    intro h
    rcases Nat.mul_eq_zero.1 h with h | h <;> omega
  have h48' : ¬ (281474976710656 < Builtin.nextslicecap n.toNat 0 * i.bytes) := by omega
  have h6 : ¬ (9223372036854775807 < (n.toNat : Int)) := by omega
  have h7 : ¬ (n ≤ 0) := by omega
  simp [Builtin.append_, run_underlying ht, run_underlying ht2, sizeOf, typeInfo, zeroValue, hi, hz, asInt, asIntOf, hw, h2, h3, h4, h5, h6, h7, h48', Question.forced, newRow, grownCap, Builtin.firstCells]
  intro hbig
  exact absurd hbig (by omega)

theorem appendZ_sound (hτ : ∀ t d, τ t = some d → TyOk P t d) (o : Oper) (t t2 : Nat) (b x : Operand) (ho : o.op = .call { callee := .builtin .append, args := #[b, x], argTypes := #[t, t2] }) : Sound P w0 A B nt o (appendZW τ nt o t t2 b x) := by
  intro s a w k next Q hr hW hn
  obtain ⟨hdf, hsz, g, hm, hs⟩ := hr
  unfold appendZW at hW
  split at hW
  · rename_i e _ _ _ ht
    have hu : P.underlying t = some (.slice e) := (hτ _ _ ht).kind
    split at hW
    · rename_i de hde
      split at hW
      · exact hW.elim
      rename_i hsz0
      split at hW
      · exact hW.elim
      rename_i hb0
      split at hW
      · rename_i q n r _ _ _ hl hc ht2
        obtain ⟨hn0, hbound, hK⟩ := hW
        have hu2 : P.underlying t2 = some (.int r) := (hτ _ _ ht2).kind
        obtain ⟨i, z, h1, h2, h3, h4, h5⟩ := zero_cells (hτ _ _ hde) w g s.regs
        obtain ⟨i', z', e1, e2, e3, _⟩ := (hτ _ _ hde).info
        rw [h1] at e1
        cases e1
        have hv1 : a.eval b = .slice none 0 0 := by obtain ⟨y, q1, q2⟩ := ev_ok hs hl; cases q1; exact q2
        have hv2 : a.eval x = .int q n := by obtain ⟨y, q1, q2⟩ := ev_ok hs hc; cases q1; exact q2
        have hpos : 0 < de.size := by omega
        have hfit := growslice_fits (need := n.toNat) (old := 0) (bytes := i.bytes) (by omega) (by rw [e3]; exact hbound)
        have hrun := run_append_zeros (P := P) (w := w) (ty := o.type) hu hu2 h1 h2 (q := q) hn0 (by omega) (by omega) (by rw [e3]; exact hbound) hfit
        have hge := grownCap_ge w n.toNat 0 e
        have hnb : n.toNat ≤ 140737488355328 := Nat.le_trans (Nat.le_mul_of_pos_right _ (by omega)) hbound
        have hcm : grownCap w n.toNat 0 e ≤ maxLen := grownCap_le_maxLen w _ 0 e (by simp only [maxLen]; omega)
        have hmod : ∀ i j, j < de.size → (i * de.size + j) % de.size = j := fun i j hj => by rw [Nat.add_comm, Nat.add_mul_mod_self_right, Nat.mod_eq_of_lt hj]
        have hmc : ∀ k, k < n.toNat * de.size → (Builtin.zeroCells z.cells n.toNat ++ Builtin.zeroCells z.cells (grownCap w n.toNat 0 e - n.toNat))[k]? = z.cells[k % de.size]? := by
          intro k hk
          have hlt : k % de.size < z.cells.size := by rw [h3]; exact Nat.mod_lt _ hpos
          rw [Array.getElem?_append_left (by rw [size_zeroCells, h3]; exact hk)]
          simp only [Builtin.zeroCells, Array.getElem?_map, Array.getElem?_range, h3, hk, if_true, Option.map_some]
          rw [getElem!_pos z.cells _ hlt, Array.getElem?_eq_getElem hlt]
        have hcl : (Builtin.zeroCells z.cells n.toNat ++ Builtin.zeroCells z.cells (grownCap w n.toNat 0 e - n.toNat)).size = grownCap w n.toNat 0 e * de.size := by
          simp only [Array.size_append, size_zeroCells, h3, ← Nat.add_mul]
          congr 1
          omega
        refine lay (P := P) hdf hsz hs hm [] ((hm.ext.same (w' := w.drew) rfl rfl rfl (Nat.le_refl _) (fun _ _ _ => rfl)).alloc _) (by simp) (fun y hy _ => heap_alloc_old w.drew _ y hy) (fun y => y = w.heap.size) (fun y hy => by subst hy; exact ⟨.inr (Nat.le_refl _), by simp⟩) true de.size _
          (v := .slice (some ⟨w.heap.size, 0, none⟩) n.toNat (grownCap w n.toNat 0 e)) (w' := w.drew.alloc (.cells (Builtin.zeroCells z.cells n.toNat ++ Builtin.zeroCells z.cells (grownCap w n.toNat 0 e - n.toNat)) e)) ?_ ?_ hK hn
        · refine Own.fresh (fun _ j => z.cells.getD j undef) (fun _ _ _ => False) _ (heap_alloc_new w.drew _) (fun k _ h => by simp at h) (by rw [hcl]; exact Nat.le_refl _) hpos (by simp) hge
            hcm (fun i r hr => ?_) (fun i j hi hj => ?_) (fun i j hi hj => ?_) rfl (fun _ _ _ h => h.elim) (fun _ _ _ _ _ h => h.elim) (fun i j r cc hr hj => ?_)
          · have hr' := (List.getElem?_eq_some_iff.1 hr).2
            simp at hr'
            rw [← hr']
            simp [(hτ _ _ hde).zlen]
          · rw [hmc _ (place_lt hi hj), hmod i j hj]
            have hlt : j < z.cells.size := by omega
            simp [hlt]
          · have hlt : j < z.cells.size := by omega
            have : z.cells.getD j undef = z.cells[j] := by simp [hlt]
            rw [this]
            exact h5 j _ (by simp)
          · have hr' := (List.getElem?_eq_some_iff.1 hr).2
            simp at hr'
            subst hr'
            rw [List.getElem?_map] at hj
            cases hz : de.zero[j]? with
            | none => rw [hz] at hj; cases hj
            | some x =>
              rw [hz] at hj
              cases hj
              obtain ⟨u, hu', hx⟩ := h4.2 j x hz
              have : z.cells.getD j undef = u := by simp [hu']
              rw [this]
              have hzx := List.all_eq_true.1 (hτ _ _ hde).zone x (List.mem_of_getElem? hz)
              cases x with
              | sc v =>
                have : u = v := hx
                subst this
                exact .sc _ _
              | nil m =>
                have : u = .slice none 0 0 := hx
                subst this
                exact .nil _ _
              | _ => cases hzx
        · have hb := hrun
          rw [← hv1, ← hv2] at hb
          simp [execOp, ho, resolve, invoke, builtin, hb]
      · exact hW.elim
    · exact hW.elim
  · exact hW.elim

end
end Go.Proofs.Ytppfojiogappaaa.V
