/- Structs that are compared: Node, Instr. -/
import Derived.Test.YtcaonpncopfeoaaGreatT
import Derived.Test.YtcaonpncopfeoaaGreatD2
set_option linter.unusedVariables false
set_option linter.unusedSimpArgs false
namespace Go.Proofs.YtcaonpncopfeoaaGreat.V
open Go

theorem kVs_cons {us : List Value} {k : K0} {ks : List K0} (h : kVs us = some (k :: ks)) : ∃ u r, us = u :: r ∧ kV u = some k ∧ kVs r = some ks := by
  cases us with
  | nil => simp [kVs] at h
  | cons u r =>
    simp only [kVs] at h
    split at h
    · split at h
      · simp only [Option.some.injEq, List.cons.injEq] at h
        obtain ⟨h1, h2⟩ := h
        subst h1 h2
        exact ⟨_, _, rfl, by assumption, by assumption⟩
      · cases h
    · cases h
theorem kVs_nil {us : List Value} (h : kVs us = some []) : us = [] := by
  cases us with
  | nil => rfl
  | cons u r =>
    simp only [kVs] at h
    split at h
    · split at h
      · simp at h
      · cases h
    · cases h
theorem kV_int {u : Value} {k : IntKind} (h : kV u = some (.int k)) : ∃ x, u = .int k x := by
  cases u <;> simp [kV] at h
  subst h
  exact ⟨_, rfl⟩
theorem kV_str {u : Value} (h : kV u = some .str) : ∃ x, u = .string x := by
  cases u <;> simp [kV] at h
  exact ⟨_, rfl⟩
theorem beq_eqI (a b : Int) : (a == b) = eqI a b := by rw [eqI_eq]
theorem beq_eqStr (a b : ByteArray) : (a.toList == b.toList) = eqStr a b := (eqStr_eq a b).symm
theorem holdNode : Tryz.prog.stoodInHeld 274 = false := by kernel_rfl
theorem guardNode : Tryz.prog.eqGuardType Tryz.prog.depth 274 = false := by
  show Tryz.prog.eqGuardType (_ + 1 + 1) 274 = false
  simp [Program.eqGuardType, Tryz.underlying274, Tryz.underlying3, Tryz.underlying9]
theorem eqTyNode : EqTy Tryz.prog 274 [.int .i64, .int .i64, .str, .int .i64, .int .i64] where
  guard := guardNode
  run w us vs hu hv := by
    obtain ⟨u0, us, rfl, k0, hu⟩ := kVs_cons hu
    obtain ⟨u1, us, rfl, k1, hu⟩ := kVs_cons hu
    obtain ⟨u2, us, rfl, k2, hu⟩ := kVs_cons hu
    obtain ⟨u3, us, rfl, k3, hu⟩ := kVs_cons hu
    obtain ⟨u4, us, rfl, k4, hu⟩ := kVs_cons hu
    cases kVs_nil hu
    obtain ⟨v0, vs, rfl, l0, hv⟩ := kVs_cons hv
    obtain ⟨v1, vs, rfl, l1, hv⟩ := kVs_cons hv
    obtain ⟨v2, vs, rfl, l2, hv⟩ := kVs_cons hv
    obtain ⟨v3, vs, rfl, l3, hv⟩ := kVs_cons hv
    obtain ⟨v4, vs, rfl, l4, hv⟩ := kVs_cons hv
    cases kVs_nil hv
    obtain ⟨a0, rfl⟩ := kV_int k0
    obtain ⟨a1, rfl⟩ := kV_int k1
    obtain ⟨a2, rfl⟩ := kV_str k2
    obtain ⟨a3, rfl⟩ := kV_int k3
    obtain ⟨a4, rfl⟩ := kV_int k4
    obtain ⟨b0, rfl⟩ := kV_int l0
    obtain ⟨b1, rfl⟩ := kV_int l1
    obtain ⟨b2, rfl⟩ := kV_str l2
    obtain ⟨b3, rfl⟩ := kV_int l3
    obtain ⟨b4, rfl⟩ := kV_int l4
    rw [run_equalIn_struct w 9999 274 _ _ (by rw [Program.fieldsOf, Tryz.underlying274]) holdNode]
    simp only [Program.fieldsOf, Tryz.underlying274, eqVs, eqV, ← beq_eqI, ← beq_eqStr]
    clear hu hv
    go_simp
    by_cases h0 : a0 = b0
    case neg => simp [h0]
    by_cases h1 : a1 = b1
    case neg => simp [h0, h1]
    by_cases h2 : a2.toList = b2.toList
    case neg => simp [h0, h1, h2]
    by_cases h3 : a3 = b3
    case neg => simp [h0, h1, h2, h3]
    by_cases h4 : a4 = b4
    case neg => simp [h0, h1, h2, h3, h4]
    simp [h0, h1, h2, h3, h4]

theorem holdInstr : Tryz.prog.stoodInHeld 212 = false := by kernel_rfl
theorem guardInstr : Tryz.prog.eqGuardType Tryz.prog.depth 212 = false := by
  show Tryz.prog.eqGuardType (_ + 1 + 1) 212 = false
  simp [Program.eqGuardType, Tryz.underlying212, Tryz.underlying3, Tryz.underlying9]
theorem eqTyInstr : EqTy Tryz.prog 212 [.int .i64, .int .i64, .int .i64, .str] where
  guard := guardInstr
  run w us vs hu hv := by
    obtain ⟨u0, us, rfl, k0, hu⟩ := kVs_cons hu
    obtain ⟨u1, us, rfl, k1, hu⟩ := kVs_cons hu
    obtain ⟨u2, us, rfl, k2, hu⟩ := kVs_cons hu
    obtain ⟨u3, us, rfl, k3, hu⟩ := kVs_cons hu
    cases kVs_nil hu
    obtain ⟨v0, vs, rfl, l0, hv⟩ := kVs_cons hv
    obtain ⟨v1, vs, rfl, l1, hv⟩ := kVs_cons hv
    obtain ⟨v2, vs, rfl, l2, hv⟩ := kVs_cons hv
    obtain ⟨v3, vs, rfl, l3, hv⟩ := kVs_cons hv
    cases kVs_nil hv
    obtain ⟨a0, rfl⟩ := kV_int k0
    obtain ⟨a1, rfl⟩ := kV_int k1
    obtain ⟨a2, rfl⟩ := kV_int k2
    obtain ⟨a3, rfl⟩ := kV_str k3
    obtain ⟨b0, rfl⟩ := kV_int l0
    obtain ⟨b1, rfl⟩ := kV_int l1
    obtain ⟨b2, rfl⟩ := kV_int l2
    obtain ⟨b3, rfl⟩ := kV_str l3
    rw [run_equalIn_struct w 9999 212 _ _ (by rw [Program.fieldsOf, Tryz.underlying212]) holdInstr]
    simp only [Program.fieldsOf, Tryz.underlying212, eqVs, eqV, ← beq_eqI, ← beq_eqStr]
    clear hu hv
    go_simp
    by_cases h0 : a0 = b0
    case neg => simp [h0]
    by_cases h1 : a1 = b1
    case neg => simp [h0, h1]
    by_cases h2 : a2 = b2
    case neg => simp [h0, h1, h2]
    by_cases h3 : a3.toList = b3.toList
    case neg => simp [h0, h1, h2, h3]
    simp [h0, h1, h2, h3]

end Go.Proofs.YtcaonpncopfeoaaGreat.V
