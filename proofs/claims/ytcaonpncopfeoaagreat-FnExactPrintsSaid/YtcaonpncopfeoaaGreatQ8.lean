/- Machines, links. -/
import Derived.Test.YtcaonpncopfeoaaGreatQ7
set_option linter.unusedVariables false
set_option linter.unusedSimpArgs false
namespace Go.Proofs.YtcaonpncopfeoaaGreat.V
open Go

def MdE8 (f : Nat) : List Mode :=
  match f with
  | 101 => [.rd, .rd, .rd]
  | 102 => [.rd]
  | 111 => [.rd]
  | 112 => [.rd, .rd, .rd]
  | 195 => [.rd]
  | 204 => [.rd]
  | 261 => [.rd, .rd]
  | 275 => [.rd, .rd]
  | 279 => [.rd, .rd]
  | _ => []
def E8 : Env := ⟨τ, MdE8⟩

/-- How a machine stands, in code of so many, with so many nodes. -/
def MState (nl np : Int) (m : DMachine) : Prop :=
  (m.xState = 0 ∧ 0 ≤ m.xAt ∧ m.xAt < nl ∧ m.xAsk = 0 ∧ m.xArg = 0) ∨ (m.xState = 1 ∧ 0 ≤ m.xAt ∧ m.xAt < nl ∧ 13 ≤ m.xAsk ∧ m.xAsk ≤ 19 ∧ m.xAsk ≠ 18 ∧ 0 ≤ m.xArg ∧ m.xArg < np) ∨ (m.xState = 2 ∧ m.xAt = 0 ∧ m.xAsk = 0 ∧ 0 ≤ m.xArg ∧ m.xArg < np) ∨ (m.xState = 3 ∧ m.xAt = 0 ∧ 1 ≤ m.xAsk ∧ m.xAsk ≤ 7 ∧ m.xArg = 0)
theorem mst_k0 {nl np : Int} {m : DMachine} (h : m.xState = 0) : MState nl np m ↔ 0 ≤ m.xAt ∧ m.xAt < nl ∧ m.xAsk = 0 ∧ m.xArg = 0 := by simp [MState, h]
theorem mst_k1 {nl np : Int} {m : DMachine} (h : m.xState = 1) : MState nl np m ↔ 0 ≤ m.xAt ∧ m.xAt < nl ∧ 13 ≤ m.xAsk ∧ m.xAsk ≤ 19 ∧ m.xAsk ≠ 18 ∧ 0 ≤ m.xArg ∧ m.xArg < np := by simp [MState, h]
theorem mst_k2 {nl np : Int} {m : DMachine} (h : m.xState = 2) : MState nl np m ↔ m.xAt = 0 ∧ m.xAsk = 0 ∧ 0 ≤ m.xArg ∧ m.xArg < np := by simp [MState, h]
theorem mst_k3 {nl np : Int} {m : DMachine} (h : m.xState = 3) : MState nl np m ↔ m.xAt = 0 ∧ 1 ≤ m.xAsk ∧ m.xAsk ≤ 7 ∧ m.xArg = 0 := by simp [MState, h]
theorem mst_ko {nl np : Int} {m : DMachine} (h0 : m.xState ≠ 0) (h1 : m.xState ≠ 1) (h2 : m.xState ≠ 2) (h3 : m.xState ≠ 3) : ¬ MState nl np m := by simp [MState, *]
def Has (p : DPool) (v : Int) : Prop := 0 ≤ v ∧ v < p.xNodes.length
def MachineOk (c : DCode) (m : DMachine) : Prop :=
  codeOk c = true ∧ poolOk m.xPool.xNodes = true ∧ Has m.xPool m.xS ∧ Has m.xPool m.xE ∧ Has m.xPool m.xD ∧ MState c.xList.length m.xPool.xNodes.length m
noncomputable def machineOk (c : DCode) (m : DMachine) : Bool := clB (MachineOk c m)
theorem machineOk_t {c : DCode} {m : DMachine} : machineOk c m = true ↔ MachineOk c m := clB_t
theorem machineOk_ff {c : DCode} {m : DMachine} (h : ¬ MachineOk c m) : machineOk c m = false := clB_f.2 h
@[reducible] def mV (m : DMachine) : AV := .rdv true m.c
set_option maxRecDepth 100000 in
set_option maxHeartbeats 1000000 in
theorem s_MachineOk_ok (c : DCode) (m : DMachine) (ho : c.ok) (hm : m.ok) : FnV Tryz.prog 175 [cV c, mV m] fun rs outs => rs = [bR (machineOk c m)] ∧ outs = [] := by
  refine fn_ok (E := E8) τ_ok mixed Tryz.func175 (by rfl) (by rfl) false (by simp [Tryz.f175]) ?_
  have hP := hm.1
  have hp := hm.1.1
  have hl := ho.2.1.1
  have w2 : wrp .i64 ((c.xList.length : Int) - 1) = c.xList.length - 1 := wrp_i64 (by omega) (by omega)
  conv => whnf
  refine (s_CodeOk_ok c ho).mono ?_
  rintro _ _ ⟨rfl, rfl⟩
  conv => whnf
  refine br_if (fun h1 => ?_) (fun h1 => ?_) <;> (try rw [h1]) <;> (conv => whnf)
  · exact bR_eq (machineOk_ff fun h => by rw [notB_t, h.1] at h1; cases h1).symm
  rw [notB_f] at h1
  refine (s_PoolOk_ok m.xPool hP).mono ?_
  rintro _ _ ⟨rfl, rfl⟩
  conv => whnf
  refine br_if (fun h2 => ?_) (fun h2 => ?_) <;> (try rw [h2]) <;> (conv => whnf)
  · exact bR_eq (machineOk_ff fun h => by rw [notB_t, h.2.1] at h2; cases h2).symm
  rw [notB_f] at h2
  refine (s_l2Has_ok m.xPool _ hp).mono ?_
  rintro _ _ ⟨rfl, rfl⟩
  conv => whnf
  refine br_if (fun h3 => ?_) (fun h3 => ?_) <;> (try rw [h3]) <;> (conv => whnf)
  · exact bR_eq (machineOk_ff fun h => by rw [notB_t, decide_eq_false_iff_not] at h3; exact h3 h.2.2.1).symm
  rw [notB_f, decide_eq_true_iff] at h3
  refine (s_l2Has_ok m.xPool _ hp).mono ?_
  rintro _ _ ⟨rfl, rfl⟩
  conv => whnf
  refine br_if (fun h4 => ?_) (fun h4 => ?_) <;> (try rw [h4]) <;> (conv => whnf)
  · exact bR_eq (machineOk_ff fun h => by rw [notB_t, decide_eq_false_iff_not] at h4; exact h4 h.2.2.2.1).symm
  rw [notB_f, decide_eq_true_iff] at h4
  refine (s_l2Has_ok m.xPool _ hp).mono ?_
  rintro _ _ ⟨rfl, rfl⟩
  conv => whnf
  refine br_if (fun h5 => ?_) (fun h5 => ?_) <;> (try rw [h5]) <;> (conv => whnf)
  · exact bR_eq (machineOk_ff fun h => by rw [notB_t, decide_eq_false_iff_not] at h5; exact h5 h.2.2.2.2.1).symm
  rw [notB_f, decide_eq_true_iff] at h5
  have e : machineOk c m = clB (MState c.xList.length m.xPool.xNodes.length m) := by
    rw [Bool.eq_iff_iff, machineOk_t, clB_t]
    exact ⟨fun h => h.2.2.2.2.2, fun h => ⟨h1, h2, h3, h4, h5, h⟩⟩
  rw [e]
  repeat' (first
    | (refine br_if (fun h => ?_) (fun h => ?_) <;> (try rw [h]) <;> (conv => whnf))
    | (refine (s_l1In_ok _ _ _).mono ?_; rintro _ _ ⟨rfl, rfl⟩; conv => whnf)
    | (refine (s_l2Has_ok m.xPool _ hp).mono ?_; rintro _ _ ⟨rfl, rfl⟩; conv => whnf)
    | fail)
  all_goals refine bR_eq (Bool.eq_iff_iff.2 ?_)
  all_goals rw [clB_t]
  all_goals clear hm hP ho
  all_goals simp only [eqI_t, eqI_f, ltI_t, ltI_f, leI_t, leI_f, true_and, and_true, false_iff, true_iff, notB_t, notB_f, decide_eq_true_eq, decide_eq_false_iff_not, Bool.false_eq_true, List.length_map] at *
  all_goals first
  | (rw [mst_k0 ‹_›] <;> omega) | (rw [mst_k1 ‹_›] <;> omega) | (rw [mst_k2 ‹_›] <;> omega) | (rw [mst_k3 ‹_›] <;> omega)
  | exact mst_ko ‹_› ‹_› ‹_› ‹_›

set_option maxRecDepth 100000 in
set_option maxHeartbeats 1000000 in
theorem i_MachineOk_ok (c : DCode) (m : DMachine) (ho : c.ok) (hm : m.ok) : FnV Tryz.prog 209 [cV c, mV m] fun rs outs => rs = [bR (machineOk c m)] ∧ outs = [] := by
  refine fn_ok (E := E8) τ_ok mixed Tryz.func209 (by rfl) (by rfl) false (by simp [Tryz.f209]) ?_
  have hP := hm.1
  have hp := hm.1.1
  have hl := ho.2.1.1
  have w2 : wrp .i64 ((c.xList.length : Int) - 1) = c.xList.length - 1 := wrp_i64 (by omega) (by omega)
  conv => whnf
  refine (i_CodeOk_ok c ho).mono ?_
  rintro _ _ ⟨rfl, rfl⟩
  conv => whnf
  refine br_if (fun h1 => ?_) (fun h1 => ?_) <;> (try rw [h1]) <;> (conv => whnf)
  · exact bR_eq (machineOk_ff fun h => by rw [notB_t, h.1] at h1; cases h1).symm
  rw [notB_f] at h1
  refine (i_PoolOk_ok m.xPool hP).mono ?_
  rintro _ _ ⟨rfl, rfl⟩
  conv => whnf
  refine br_if (fun h2 => ?_) (fun h2 => ?_) <;> (try rw [h2]) <;> (conv => whnf)
  · exact bR_eq (machineOk_ff fun h => by rw [notB_t, h.2.1] at h2; cases h2).symm
  rw [notB_f] at h2
  refine (i_isNode_ok m.xPool _ hp).mono ?_
  rintro _ _ ⟨rfl, rfl⟩
  conv => whnf
  refine br_if (fun h3 => ?_) (fun h3 => ?_) <;> (try rw [h3]) <;> (conv => whnf)
  · exact bR_eq (machineOk_ff fun h => by rw [notB_t, decide_eq_false_iff_not] at h3; exact h3 h.2.2.1).symm
  rw [notB_f, decide_eq_true_iff] at h3
  refine (i_isNode_ok m.xPool _ hp).mono ?_
  rintro _ _ ⟨rfl, rfl⟩
  conv => whnf
  refine br_if (fun h4 => ?_) (fun h4 => ?_) <;> (try rw [h4]) <;> (conv => whnf)
  · exact bR_eq (machineOk_ff fun h => by rw [notB_t, decide_eq_false_iff_not] at h4; exact h4 h.2.2.2.1).symm
  rw [notB_f, decide_eq_true_iff] at h4
  refine (i_isNode_ok m.xPool _ hp).mono ?_
  rintro _ _ ⟨rfl, rfl⟩
  conv => whnf
  refine br_if (fun h5 => ?_) (fun h5 => ?_) <;> (try rw [h5]) <;> (conv => whnf)
  · exact bR_eq (machineOk_ff fun h => by rw [notB_t, decide_eq_false_iff_not] at h5; exact h5 h.2.2.2.2.1).symm
  rw [notB_f, decide_eq_true_iff] at h5
  have e : machineOk c m = clB (MState c.xList.length m.xPool.xNodes.length m) := by
    rw [Bool.eq_iff_iff, machineOk_t, clB_t]
    exact ⟨fun h => h.2.2.2.2.2, fun h => ⟨h1, h2, h3, h4, h5, h⟩⟩
  rw [e]
  repeat' (first
    | (refine br_if (fun h => ?_) (fun h => ?_) <;> (try rw [h]) <;> (conv => whnf))
    | (refine (i_within_ok _ _ _).mono ?_; rintro _ _ ⟨rfl, rfl⟩; conv => whnf)
    | (refine (i_isNode_ok m.xPool _ hp).mono ?_; rintro _ _ ⟨rfl, rfl⟩; conv => whnf)
    | (refine (i_isPlace_ok c _ hl).mono ?_; rintro _ _ ⟨rfl, rfl⟩; conv => whnf)
    | fail)
  all_goals refine bR_eq (Bool.eq_iff_iff.2 ?_)
  all_goals rw [clB_t]
  all_goals clear hm hP ho
  all_goals simp only [eqI_t, eqI_f, ltI_t, ltI_f, leI_t, leI_f, true_and, and_true, false_iff, true_iff, notB_t, notB_f, decide_eq_true_eq, decide_eq_false_iff_not, Bool.false_eq_true, List.length_map] at *
  all_goals first
  | (rw [mst_k0 ‹_›] <;> omega) | (rw [mst_k1 ‹_›] <;> omega) | (rw [mst_k2 ‹_›] <;> omega) | (rw [mst_k3 ‹_›] <;> omega)
  | exact mst_ko ‹_› ‹_› ‹_› ‹_›

end Go.Proofs.YtcaonpncopfeoaaGreat.V
