/- Names, nodes and pools: what NameOk, l2Node / nodeOk and PoolOk come to. -/
import Derived.Test.YtcaonpncopfeoaaGreatQ4
import Derived.Test.YtcaonpncopfeoaaGreatD3
set_option linter.unusedVariables false
set_option linter.unusedSimpArgs false
namespace Go.Proofs.YtcaonpncopfeoaaGreat.V
open Go

def MdE5 (f : Nat) : List Mode :=
  match f with
  | 101 => [.rd, .rd, .rd]
  | 112 => [.rd, .rd, .rd]
  | 197 => [.rd]
  | 206 => [.rd]
  | 270 => [.rd, .rd]
  | 271 => [.rd]
  | 274 => [.rd, .rd]
  | 276 => [.rd]
  | 326 => [.rd, .rd]
  | 374 => [.rd, .rd]
  | _ => []
def E5 : Env := ⟨τ, MdE5⟩

def nameByte (z : Int) : Bool := decide (97 ≤ z ∧ z ≤ 122 ∨ z = 43 ∨ z = 45 ∨ z = 42 ∨ z = 60 ∨ z = 61 ∨ z = 63 ∨ z = 33 ∨ z = 47)
@[reducible] def u8V (z : Int) : AV := .rdv false [.sc (.int .u8 z)]

set_option maxRecDepth 100000 in
theorem s_l2NameByte_ok (z : Int) : FnV Tryz.prog 271 [u8V z] fun rs outs => rs = [bR (nameByte z)] ∧ outs = [] := by
  refine fn_ok (E := E5) τ_ok mixed Tryz.func271 (by rfl) (by rfl) false (by simp [Tryz.f271]) ?_
  conv => whnf
  repeat' (refine br_if (fun h => ?_) (fun h => ?_) <;> (try rw [h]) <;> (conv => whnf))
  all_goals refine bR_eq ?_
  all_goals simp only [leI_t, leI_f, eqI_t, eqI_f] at *
  all_goals first | (symm; apply decide_eq_true; omega) | (rw [eqI_eq]; unfold nameByte; apply decide_eq_decide.2; omega)

set_option maxRecDepth 100000 in
theorem sl_Index8_ok (zs : List Int) (hl : zs.length ≤ 1000000000) (z : Int) : FnV Tryz.prog 374 [bV zs, u8V z] fun rs outs => (∃ k : Int, (0 ≤ k ∧ z ∈ zs ∨ k = -1 ∧ z ∉ zs) ∧ rs = [iR k]) ∧ outs = [] := by
  refine fn_ok (E := E5) τ_ok mixed Tryz.func374 (by rfl) (by rfl) false (by simp [Tryz.f374]) ?_
  conv => whnf
  refine ⟨fun n s => ∃ (k : Int), s = ⟨[(0, .vals false [.rd none 1 (bts zs)]), (1, .vals false [.sc (.int .u8 z)]), (4, .vals false [.sc (.int .i64 0)]), (7, .vals false [.sc (.int .i64 zs.length)]), (8, .vals false [.sc (.int .i64 k)])], [], []⟩ ∧ n = zs.length - k.toNat ∧ 0 ≤ k ∧ k ≤ zs.length ∧ z ∉ zs.take k.toNat,
    ⟨_, _, norm_wk (keep := [0, 1, 4, 7, 8]) (kb := []) (ρ := []) rfl, ⟨0, by rw [bts_len], rfl, by omega, by omega, by simp⟩⟩, ?_⟩
  rintro n _ ⟨k, rfl, rfl, hk, hK, hno⟩
  conv => whnf
  refine br_if (fun h2 => ?_) (fun h2 => ?_) <;> (try rw [h2]) <;> (conv => whnf)
  · rw [ltI_t] at h2
    obtain ⟨d, hd⟩ : ∃ d, zs[k.toNat]? = some d := ⟨_, List.getElem?_eq_getElem (by omega)⟩
    refine ⟨by omega, _, bts_at hd, ?_⟩
    conv => whnf
    refine br_if (fun h3 => ?_) (fun h3 => ?_) <;> (try rw [h3]) <;> (conv => whnf)
    · rw [eqI_t] at h3
      subst h3
      exact ⟨⟨_, .inl ⟨hk, List.mem_of_getElem? hd⟩, rfl⟩, rfl⟩
    · rw [eqI_f] at h3
      rw [wrp_i64 (x := k + 1) (by omega) (by omega)]
      refine ⟨zs.length - (k + 1).toNat, _, by omega, norm_wk (keep := [0, 1, 4, 7, 8]) (kb := []) (ρ := []) rfl, ⟨k + 1, rfl, rfl, by omega, by omega, ?_⟩⟩
      rw [show (k + 1).toNat = k.toNat + 1 by omega, List.take_add_one, hd]
      simp [hno, h3]
  · rw [ltI_f] at h2
    refine ⟨⟨_, .inr ⟨rfl, ?_⟩, rfl⟩, rfl⟩
    rwa [List.take_of_length_le (by omega)] at hno

set_option maxRecDepth 100000 in
theorem sl_Contains8_ok (zs : List Int) (hl : zs.length ≤ 1000000000) (z : Int) : FnV Tryz.prog 326 [bV zs, u8V z] fun rs outs => rs = [bR (decide (z ∈ zs))] ∧ outs = [] := by
  refine fn_ok (E := E5) τ_ok mixed Tryz.func326 (by rfl) (by rfl) false (by simp [Tryz.f326]) ?_
  conv => whnf
  refine (sl_Index8_ok zs hl z).mono ?_
  rintro _ _ ⟨⟨k, hk, rfl⟩, rfl⟩
  conv => whnf
  refine bR_eq ?_
  rw [leI_eq]
  apply decide_eq_decide.2
  rcases hk with ⟨h1, h2⟩ | ⟨rfl, h2⟩
  · exact ⟨fun _ => h2, fun _ => h1⟩
  · exact ⟨fun h => absurd h (by omega), fun h => absurd h h2⟩

set_option maxRecDepth 100000 in
theorem i_isNameByte_ok (z : Int) : FnV Tryz.prog 276 [u8V z] fun rs outs => rs = [bR (nameByte z)] ∧ outs = [] := by
  refine fn_ok (E := E5) τ_ok mixed Tryz.func276 (by rfl) (by rfl) false (by simp [Tryz.f276]) ?_
  conv => whnf
  have key : ∀ (h : ¬ (97 ≤ z ∧ z ≤ 122)), decide (z ∈ [43, 45, 42, 60, 61, 63, 33, 47]) = nameByte z := fun h => by
    unfold nameByte
    apply decide_eq_decide.2
    simp only [List.mem_cons, List.not_mem_nil, or_false]
    omega
  refine br_if (fun h => ?_) (fun h => ?_) <;> (try rw [h]) <;> (conv => whnf)
  · refine br_if (fun h2 => ?_) (fun h2 => ?_) <;> (try rw [h2]) <;> (conv => whnf)
    · refine bR_eq ?_
      rw [leI_t] at *
      symm
      apply decide_eq_true
      omega
    · refine ⟨by decide, ?_⟩
      conv => whnf
      refine (sl_Contains8_ok [43, 45, 42, 60, 61, 63, 33, 47] (by decide) z).mono ?_
      rintro _ _ ⟨rfl, rfl⟩
      conv => whnf
      rw [leI_t] at h
      rw [leI_f] at h2
      exact bR_eq (key (by omega))
  · refine ⟨by decide, ?_⟩
    conv => whnf
    refine (sl_Contains8_ok [43, 45, 42, 60, 61, 63, 33, 47] (by decide) z).mono ?_
    rintro _ _ ⟨rfl, rfl⟩
    conv => whnf
    rw [leI_f] at h
    exact bR_eq (key (by omega))

open Classical in
noncomputable def nameOk (s : ByteArray) : Bool := decide (1 ≤ s.size ∧ s.size ≤ 12 ∧ ∀ z ∈ sb s, nameByte z = true)
theorem nameOk_t {s : ByteArray} : nameOk s = true ↔ 1 ≤ s.size ∧ s.size ≤ 12 ∧ ∀ z ∈ sb s, nameByte z = true := by
  unfold nameOk
  exact decide_eq_true_iff

theorem sb_at {s : ByteArray} {k : Int} (h0 : 0 ≤ k) (h1 : k < s.size) : (sb s)[k.toNat]? = some (btOf s k) := by
  rw [btOf_eq, dif_pos (by omega), sb, List.getElem?_map]
  have : s.data.toList[k.toNat]? = some (s[k.toNat]'(by omega)) := by
    rw [Array.getElem?_toList]
    exact Array.getElem?_eq_getElem _
  rw [this]
  rfl
theorem all_snoc {α : Type} {P : α → Prop} {l : List α} {k : Nat} {x : α} (h : l[k]? = some x) (ha : ∀ y ∈ l.take k, P y) (hx : P x) : ∀ y ∈ l.take (k + 1), P y := by
  intro y hy
  rw [List.take_add_one, h] at hy
  simp only [Option.toList_some, List.mem_append, List.mem_singleton] at hy
  rcases hy with hy | rfl
  · exact ha y hy
  · exact hx

set_option maxRecDepth 100000 in
theorem s_NameOk_ok (s : ByteArray) (hs : s.size ≤ 9223372036854775807) : FnV Tryz.prog 197 [sV s] fun rs outs => rs = [bR (nameOk s)] ∧ outs = [] := by
  refine fn_ok (E := E5) τ_ok mixed Tryz.func197 (by rfl) (by rfl) false (by simp [Tryz.f197]) ?_
  conv => whnf
  refine ⟨fun n st => ∃ (k : Int), st = ⟨[(0, .vals false [.sc (.string s)]), (2, .vals false [.sc (.bool false)]), (3, .vals false [.sc (.int .i64 k)])], [], []⟩ ∧ n = s.size - k.toNat ∧ 0 ≤ k ∧ k ≤ s.size ∧ ∀ z ∈ (sb s).take k.toNat, nameByte z = true,
    ⟨_, _, norm_wk (keep := [0, 2, 3]) (kb := []) (ρ := []) rfl, ⟨0, rfl, rfl, by omega, by omega, by simp⟩⟩, ?_⟩
  rintro n _ ⟨k, rfl, rfl, hk, hK, hall⟩
  conv => whnf
  refine br_if (fun h2 => ?_) (fun h2 => ?_) <;> (try rw [h2]) <;> (conv => whnf)
  · rw [ltI_t] at h2
    refine ⟨by omega, by omega, ?_⟩
    conv => whnf
    refine (s_l2NameByte_ok _).mono ?_
    rintro _ _ ⟨rfl, rfl⟩
    conv => whnf
    have hat := sb_at hk h2
    refine br_if (fun h3 => ?_) (fun h3 => ?_) <;> (try rw [h3]) <;> (conv => whnf)
    · refine bR_eq ?_
      rw [notB_t] at h3
      symm
      apply Bool.eq_false_iff.2
      rw [Ne, nameOk_t]
      rintro ⟨-, -, h⟩
      rw [h _ (List.mem_of_getElem? hat)] at h3
      cases h3
    · rw [notB_f] at h3
      rw [wrp_i64 (x := k + 1) (by omega) (by omega)]
      refine ⟨s.size - (k + 1).toNat, _, by omega, norm_wk (keep := [0, 2, 3]) (kb := []) (ρ := []) rfl, ⟨k + 1, rfl, rfl, by omega, by omega, ?_⟩⟩
      rw [show (k + 1).toNat = k.toNat + 1 by omega]
      exact all_snoc hat hall h3
  · rw [ltI_f] at h2
    refine (s_l1In_ok _ _ _).mono ?_
    rintro _ _ ⟨rfl, rfl⟩
    conv => whnf
    refine bR_eq (Bool.eq_iff_iff.2 ?_)
    rw [nameOk_t, decide_eq_true_iff]
    rw [List.take_of_length_le (by rw [sb_len]; omega)] at hall
    exact ⟨fun h => ⟨by omega, by omega, hall⟩, fun h => ⟨by omega, by omega⟩⟩

set_option maxRecDepth 100000 in
theorem i_NameOk_ok (s : ByteArray) (hs : s.size ≤ 9223372036854775807) : FnV Tryz.prog 206 [sV s] fun rs outs => rs = [bR (nameOk s)] ∧ outs = [] := by
  refine fn_ok (E := E5) τ_ok mixed Tryz.func206 (by rfl) (by rfl) false (by simp [Tryz.f206]) ?_
  conv => whnf
  refine (i_within_ok _ _ _).mono ?_
  rintro _ _ ⟨rfl, rfl⟩
  conv => whnf
  refine br_if (fun h1 => ?_) (fun h1 => ?_) <;> (try rw [h1]) <;> (conv => whnf)
  · refine bR_eq ?_
    rw [notB_t, decide_eq_false_iff_not] at h1
    symm
    apply Bool.eq_false_iff.2
    rw [Ne, nameOk_t]
    omega
  rw [notB_f, decide_eq_true_iff] at h1
  refine ⟨fun n st => ∃ (k : Int), st = ⟨[(0, .vals false [.sc (.string s)]), (2, .vals false [.sc (.bool false)]), (9, .vals false [.sc (.int .i64 s.size)]), (10, .vals false [.sc (.int .i64 k)])], [], []⟩ ∧ n = s.size - k.toNat ∧ 0 ≤ k ∧ k ≤ s.size ∧ ∀ z ∈ (sb s).take k.toNat, nameByte z = true,
    ⟨_, _, norm_wk (keep := [0, 2, 9, 10]) (kb := []) (ρ := []) rfl, ⟨0, rfl, rfl, by omega, by omega, by simp⟩⟩, ?_⟩
  rintro n _ ⟨k, rfl, rfl, hk, hK, hall⟩
  conv => whnf
  refine br_if (fun h2 => ?_) (fun h2 => ?_) <;> (try rw [h2]) <;> (conv => whnf)
  · rw [ltI_t] at h2
    refine ⟨by omega, by omega, ?_⟩
    conv => whnf
    refine (i_isNameByte_ok _).mono ?_
    rintro _ _ ⟨rfl, rfl⟩
    conv => whnf
    have hat := sb_at hk h2
    refine br_if (fun h3 => ?_) (fun h3 => ?_) <;> (try rw [h3]) <;> (conv => whnf)
    · refine bR_eq ?_
      rw [notB_t] at h3
      symm
      apply Bool.eq_false_iff.2
      rw [Ne, nameOk_t]
      rintro ⟨-, -, h⟩
      rw [h _ (List.mem_of_getElem? hat)] at h3
      cases h3
    · rw [notB_f] at h3
      rw [wrp_i64 (x := k + 1) (by omega) (by omega)]
      refine ⟨s.size - (k + 1).toNat, _, by omega, norm_wk (keep := [0, 2, 9, 10]) (kb := []) (ρ := []) rfl, ⟨k + 1, rfl, rfl, by omega, by omega, ?_⟩⟩
      rw [show (k + 1).toNat = k.toNat + 1 by omega]
      exact all_snoc hat hall h3
  · rw [ltI_f] at h2
    refine bR_eq ?_
    symm
    rw [nameOk_t]
    rw [List.take_of_length_le (by rw [sb_len]; omega)] at hall
    exact ⟨by omega, by omega, hall⟩

noncomputable def nameI (s : ByteArray) : Int := if nameOk s = true then 1 else 0
theorem nameI_t {s : ByteArray} : nameOk s = true ↔ nameI s = 1 := by unfold nameI; split <;> simp_all
theorem nameI_f {s : ByteArray} : nameOk s = false ↔ nameI s = 0 := by unfold nameI; split <;> simp_all
theorem emp_t {s : ByteArray} : eqStr s ⟨#[]⟩ = true ↔ s.size = 0 := by
  rw [eqStr_t]
  exact ⟨fun h => by rw [h]; rfl, fun h => ByteArray.ext (Array.eq_empty_of_size_eq_zero h)⟩
theorem emp_f {s : ByteArray} : eqStr s ⟨#[]⟩ = false ↔ s.size ≠ 0 := by
  rw [Ne, ← emp_t]
  simp

/-- A node is right, so many ahead of it. -/
def NodeOk (x : DNode) (n : Int) : Prop :=
  (x.xKind = 1 ∧ x.xN = 0 ∧ x.xS.size = 0 ∧ x.xA = 0 ∧ x.xB = 0) ∨
  (x.xKind = 2 ∧ 0 ≤ x.xN ∧ x.xN ≤ 1 ∧ x.xS.size = 0 ∧ x.xA = 0 ∧ x.xB = 0) ∨
  (x.xKind = 3 ∧ -1000000000 ≤ x.xN ∧ x.xN ≤ 1000000000 ∧ x.xS.size = 0 ∧ x.xA = 0 ∧ x.xB = 0) ∨
  (x.xKind = 4 ∧ x.xN = 0 ∧ nameI x.xS = 1 ∧ x.xA = 0 ∧ x.xB = 0) ∨
  (x.xKind = 5 ∧ x.xN = 0 ∧ x.xS.size = 0 ∧ 0 ≤ x.xA ∧ x.xA < n ∧ 0 ≤ x.xB ∧ x.xB < n) ∨
  (x.xKind = 6 ∧ 0 ≤ x.xN ∧ x.xN ≤ 1000000000 ∧ x.xS.size = 0 ∧ 0 ≤ x.xA ∧ x.xA < n ∧ x.xB = 0) ∨
  (x.xKind = 7 ∧ x.xN = 0 ∧ x.xS.size = 0 ∧ 0 ≤ x.xA ∧ x.xA < n ∧ x.xB = 0) ∨
  (x.xKind = 8 ∧ 0 ≤ x.xN ∧ x.xN ≤ 99 ∧ x.xS.size = 0 ∧ x.xA = 0 ∧ x.xB = 0) ∨
  (x.xKind = 9 ∧ 0 ≤ x.xN ∧ x.xN ≤ 1000000000 ∧ x.xS.size = 0 ∧ x.xA = 0 ∧ x.xB = 0)
noncomputable def nodeOk (x : DNode) (n : Int) : Bool := @decide (NodeOk x n) (Classical.propDecidable _)
theorem nodeOk_t {x : DNode} {n : Int} : nodeOk x n = true ↔ NodeOk x n := by
  unfold nodeOk
  exact @decide_eq_true_iff _ (Classical.propDecidable _)

theorem node_k1 {x : DNode} {n : Int} (h : x.xKind = 1) : NodeOk x n ↔ x.xN = 0 ∧ x.xS.size = 0 ∧ x.xA = 0 ∧ x.xB = 0 := by simp [NodeOk, h]
theorem node_k2 {x : DNode} {n : Int} (h : x.xKind = 2) : NodeOk x n ↔ 0 ≤ x.xN ∧ x.xN ≤ 1 ∧ x.xS.size = 0 ∧ x.xA = 0 ∧ x.xB = 0 := by simp [NodeOk, h]
theorem node_k3 {x : DNode} {n : Int} (h : x.xKind = 3) : NodeOk x n ↔ -1000000000 ≤ x.xN ∧ x.xN ≤ 1000000000 ∧ x.xS.size = 0 ∧ x.xA = 0 ∧ x.xB = 0 := by simp [NodeOk, h]
theorem node_k4 {x : DNode} {n : Int} (h : x.xKind = 4) : NodeOk x n ↔ x.xN = 0 ∧ nameI x.xS = 1 ∧ x.xA = 0 ∧ x.xB = 0 := by simp [NodeOk, h]
theorem node_k5 {x : DNode} {n : Int} (h : x.xKind = 5) : NodeOk x n ↔ x.xN = 0 ∧ x.xS.size = 0 ∧ 0 ≤ x.xA ∧ x.xA < n ∧ 0 ≤ x.xB ∧ x.xB < n := by simp [NodeOk, h]
theorem node_k6 {x : DNode} {n : Int} (h : x.xKind = 6) : NodeOk x n ↔ 0 ≤ x.xN ∧ x.xN ≤ 1000000000 ∧ x.xS.size = 0 ∧ 0 ≤ x.xA ∧ x.xA < n ∧ x.xB = 0 := by simp [NodeOk, h]
theorem node_k7 {x : DNode} {n : Int} (h : x.xKind = 7) : NodeOk x n ↔ x.xN = 0 ∧ x.xS.size = 0 ∧ 0 ≤ x.xA ∧ x.xA < n ∧ x.xB = 0 := by simp [NodeOk, h]
theorem node_k8 {x : DNode} {n : Int} (h : x.xKind = 8) : NodeOk x n ↔ 0 ≤ x.xN ∧ x.xN ≤ 99 ∧ x.xS.size = 0 ∧ x.xA = 0 ∧ x.xB = 0 := by simp [NodeOk, h]
theorem node_k9 {x : DNode} {n : Int} (h : x.xKind = 9) : NodeOk x n ↔ 0 ≤ x.xN ∧ x.xN ≤ 1000000000 ∧ x.xS.size = 0 ∧ x.xA = 0 ∧ x.xB = 0 := by simp [NodeOk, h]
theorem node_k0 {x : DNode} {n : Int} (h1 : x.xKind ≠ 1) (h2 : x.xKind ≠ 2) (h3 : x.xKind ≠ 3) (h4 : x.xKind ≠ 4) (h5 : x.xKind ≠ 5) (h6 : x.xKind ≠ 6) (h7 : x.xKind ≠ 7) (h8 : x.xKind ≠ 8) (h9 : x.xKind ≠ 9) : ¬ NodeOk x n := by simp [NodeOk, *]
set_option maxRecDepth 100000 in
set_option maxHeartbeats 1000000 in
theorem s_l2Node_ok (x : DNode) (n : Int) (ho : x.ok) (h0 : 0 ≤ n) (h1 : n ≤ 9223372036854775807) : FnV Tryz.prog 270 [.rdv true x.c, iV n] fun rs outs => rs = [bR (nodeOk x n)] ∧ outs = [] := by
  refine fn_ok (E := E5) τ_ok mixed Tryz.func270 (by rfl) (by rfl) false (by simp [Tryz.f270]) ?_
  obtain ⟨oK, oN, oS, oA, oB⟩ := ho
  conv => whnf
  refine (s_l1In_ok _ _ _).mono ?_
  rintro _ _ ⟨rfl, rfl⟩
  conv => whnf
  refine (s_l1In_ok _ _ _).mono ?_
  rintro _ _ ⟨rfl, rfl⟩
  conv => whnf
  rw [wrp_i64 (x := n - 1) (by omega) (by omega)]
  repeat' (first
    | (refine br_if (fun h => ?_) (fun h => ?_) <;> (try rw [h]) <;> (conv => whnf))
    | (refine (s_l1In_ok _ _ _).mono ?_; rintro _ _ ⟨rfl, rfl⟩; conv => whnf)
    | (refine (s_NameOk_ok _ oS).mono ?_; rintro _ _ ⟨rfl, rfl⟩; conv => whnf)
    | (refine ⟨eqTyNode, ?_⟩; conv => whnf)
    | fail)
  all_goals (
      refine bR_eq (Bool.eq_iff_iff.2 ?_)
      rw [nodeOk_t]
      simp only [eqVs, eqV, Bool.and_eq_true, eqI_t, eqI_f, emp_t, emp_f, eqStr_self, eqI_self, true_and, and_true, false_iff, true_iff, nameI_t, nameI_f, notB_t, notB_f, decide_eq_true_eq, decide_eq_false_iff_not, Bool.false_eq_true] at *
      first
      | (rw [node_k1 ‹_›]; omega) | (rw [node_k2 ‹_›]; omega) | (rw [node_k3 ‹_›]; omega) | (rw [node_k4 ‹_›]; omega) | (rw [node_k5 ‹_›]; omega) | (rw [node_k6 ‹_›]; omega) | (rw [node_k7 ‹_›]; omega) | (rw [node_k8 ‹_›]; omega) | (rw [node_k9 ‹_›]; omega)
      | exact node_k0 ‹_› ‹_› ‹_› ‹_› ‹_› ‹_› ‹_› ‹_› ‹_›)

set_option maxRecDepth 100000 in
set_option maxHeartbeats 1000000 in
theorem i_nodeOk_ok (x : DNode) (n : Int) (ho : x.ok) (h0 : 0 ≤ n) (h1 : n ≤ 9223372036854775807) : FnV Tryz.prog 274 [.rdv true x.c, iV n] fun rs outs => rs = [bR (nodeOk x n)] ∧ outs = [] := by
  refine fn_ok (E := E5) τ_ok mixed Tryz.func274 (by rfl) (by rfl) false (by simp [Tryz.f274]) ?_
  obtain ⟨oK, oN, oS, oA, oB⟩ := ho
  have hw : wrp .i64 (n - 1) = n - 1 := wrp_i64 (by omega) (by omega)
  conv => whnf
  refine ⟨.take 0 (.take 3 (.take 4 (.or 1 (.take 2 (.take 5 .done)) .nil))), by rfl, ?_⟩
  apply Exists.intro
  refine ⟨?_, ?_⟩
  · conv => whnf
    exact norm_wk (keep := [0, 1, 2, 4, 5, 6, 7]) (kb := [2]) (ρ := []) rfl
  conv => whnf
  refine ⟨.take 0 (.take 3 (.early 1 (.take 2 (.take 6 (.or 4 (.take 5 (.take 7 .done)) .nil))))), by rfl, ?_⟩
  apply Exists.intro
  refine ⟨?_, ?_⟩
  · conv => whnf
    repeat (refine ⟨rfl, ?_⟩; conv => whnf)
    exact norm_wk (keep := [0, 1, 2, 4, 5, 6, 7, 8, 9]) (kb := [2]) (ρ := []) rfl
  conv => whnf
  repeat' (first
    | (refine br_if (fun h => ?_) (fun h => ?_) <;> (try rw [h]) <;> (conv => whnf))
    | (refine (i_within_ok _ _ _).mono ?_; rintro _ _ ⟨rfl, rfl⟩; conv => whnf)
    | (refine (i_NameOk_ok _ oS).mono ?_; rintro _ _ ⟨rfl, rfl⟩; conv => whnf)
    | fail)
  all_goals try (
      refine bR_eq (Bool.eq_iff_iff.2 ?_)
      rw [nodeOk_t]
      simp only [eqVs, eqV, Bool.and_eq_true, eqI_t, eqI_f, emp_t, emp_f, eqStr_self, eqI_self, true_and, and_true, false_iff, true_iff, nameI_t, nameI_f, notB_t, notB_f, decide_eq_true_eq, decide_eq_false_iff_not, Bool.false_eq_true] at *
      first
      | (rw [node_k1 ‹_›]; omega) | (rw [node_k2 ‹_›]; omega) | (rw [node_k3 ‹_›]; omega) | (rw [node_k4 ‹_›]; omega) | (rw [node_k5 ‹_›]; omega) | (rw [node_k6 ‹_›]; omega) | (rw [node_k7 ‹_›]; omega) | (rw [node_k8 ‹_›]; omega) | (rw [node_k9 ‹_›]; omega)
      | exact node_k0 ‹_› ‹_› ‹_› ‹_› ‹_› ‹_› ‹_› ‹_› ‹_›)
  refine ⟨.take 0 (.take 2 (.take 3 (.take 5 (.take 7 (.take 8 (.early 1 (.early 6 (.or 4 (.or 9 (.take 10 (.take 11 .done)) .nil) .nil)))))))), by rfl, ?_⟩
  apply Exists.intro
  refine ⟨?_, ?_⟩
  · conv => whnf
    refine (i_within_ok _ _ _).mono ?_
    rintro _ _ ⟨rfl, rfl⟩
    conv => whnf
    repeat (refine ⟨rfl, ?_⟩; conv => whnf)
    refine (i_within_ok _ _ _).mono ?_
    rintro _ _ ⟨rfl, rfl⟩
    conv => whnf
    repeat (refine ⟨rfl, ?_⟩; conv => whnf)
    exact norm_wk (keep := [0, 1, 2, 4, 5, 6, 7, 8, 9]) (kb := [2]) (ρ := []) rfl
  conv => whnf
  refine (i_within_ok _ _ _).mono ?_
  rintro _ _ ⟨rfl, rfl⟩
  conv => whnf
  repeat' (first
    | (refine br_if (fun h => ?_) (fun h => ?_) <;> (try rw [h]) <;> (conv => whnf))
    | fail)
  all_goals (
      refine bR_eq (Bool.eq_iff_iff.2 ?_)
      rw [nodeOk_t]
      simp only [eqVs, eqV, Bool.and_eq_true, eqI_t, eqI_f, emp_t, emp_f, eqStr_self, eqI_self, true_and, and_true, false_iff, true_iff, nameI_t, nameI_f, notB_t, notB_f, decide_eq_true_eq, decide_eq_false_iff_not, Bool.false_eq_true] at *
      first
      | (rw [node_k1 ‹_›]; omega) | (rw [node_k2 ‹_›]; omega) | (rw [node_k3 ‹_›]; omega) | (rw [node_k4 ‹_›]; omega) | (rw [node_k5 ‹_›]; omega) | (rw [node_k6 ‹_›]; omega) | (rw [node_k7 ‹_›]; omega) | (rw [node_k8 ‹_›]; omega) | (rw [node_k9 ‹_›]; omega)
      | exact node_k0 ‹_› ‹_› ‹_› ‹_› ‹_› ‹_› ‹_› ‹_› ‹_›)

noncomputable def clB (p : Prop) : Bool := @decide p (Classical.propDecidable _)
theorem clB_t {p : Prop} : clB p = true ↔ p := by
  unfold clB
  exact @decide_eq_true_iff _ (Classical.propDecidable _)
theorem clB_f {p : Prop} : clB p = false ↔ ¬ p := by rw [Bool.eq_false_iff, Ne, clB_t]
noncomputable def poolOk (l : List DNode) : Bool := clB (l.length ≤ 3000 ∧ ∀ (i : Nat) (x : DNode), l[i]? = some x → NodeOk x i)
theorem poolOk_t {l : List DNode} : poolOk l = true ↔ l.length ≤ 3000 ∧ ∀ (i : Nat) (x : DNode), l[i]? = some x → NodeOk x i := by
  unfold poolOk
  exact clB_t
theorem poolOk_ff {l : List DNode} {i : Nat} {x : DNode} (h : l[i]? = some x) (h2 : nodeOk x i = false) : poolOk l = false := by
  rw [Bool.eq_false_iff, Ne, poolOk_t]
  rintro ⟨-, h3⟩
  have := nodeOk_t.2 (h3 i x h)
  rw [h2] at this
  cases this


@[reducible] def pV (p : DPool) : AV := .rdv true p.c

set_option maxRecDepth 100000 in
theorem s_PoolOk_ok (p : DPool) (hp : p.ok) : FnV Tryz.prog 195 [pV p] fun rs outs => rs = [bR (poolOk p.xNodes)] ∧ outs = [] := by
  refine fn_ok (E := E5) τ_ok mixed Tryz.func195 (by rfl) (by rfl) false (by simp [Tryz.f195]) ?_
  obtain ⟨hl, ho⟩ := hp
  conv => whnf
  refine ⟨fun n s => ∃ (k : Int), s = ⟨[(1, .bptr 1 0 0), (2, .vals false [.sc (.bool false)]), (3, .vals false [.sc (.int .i64 k)])], [(1, ⟨0, [.rd none 5 (p.xNodes.map DNode.c)]⟩)], []⟩ ∧ n = p.xNodes.length - k.toNat ∧ 0 ≤ k ∧ k ≤ p.xNodes.length ∧ ∀ (i : Nat) (x : DNode), i < k.toNat → p.xNodes[i]? = some x → NodeOk x i,
    ⟨_, _, norm_wk (keep := [1, 2, 3]) (kb := [1]) (ρ := []) rfl, ⟨0, rfl, rfl, by omega, by omega, fun i x h => absurd h (by simp)⟩⟩, ?_⟩
  rintro n _ ⟨k, rfl, rfl, hk, hK, hall⟩
  conv => whnf
  refine br_if (fun h2 => ?_) (fun h2 => ?_) <;> (try rw [h2]) <;> (conv => whnf)
  · rw [ltI_t] at h2
    try rw [List.length_map] at h2
    obtain ⟨x, hx⟩ : ∃ x, p.xNodes[k.toNat]? = some x := ⟨_, List.getElem?_eq_getElem (by omega)⟩
    have hg : (p.xNodes.map DNode.c)[k.toNat]? = some x.c := by rw [List.getElem?_map, hx]; rfl
    refine ⟨by omega, _, hg, ?_⟩
    conv => whnf
    refine (s_l2Node_ok _ _ (ho x (List.mem_of_getElem? hx)) hk (by omega)).mono ?_
    rintro _ _ ⟨rfl, rfl⟩
    conv => whnf
    rw [show nodeOk x k = nodeOk x (k.toNat : Int) by rw [Int.toNat_of_nonneg hk]]
    refine br_if (fun h3 => ?_) (fun h3 => ?_) <;> (try rw [h3]) <;> (conv => whnf)
    · rw [notB_t] at h3
      exact bR_eq (poolOk_ff hx h3).symm
    · rw [notB_f] at h3
      rw [wrp_i64 (x := k + 1) (by omega) (by omega)]
      refine ⟨p.xNodes.length - (k + 1).toNat, _, by omega, norm_wk (keep := [1, 2, 3]) (kb := [1]) (ρ := []) rfl, ⟨k + 1, rfl, rfl, by omega, by omega, ?_⟩⟩
      intro i y hi hy
      by_cases e : i = k.toNat
      · subst e
        rw [hx] at hy
        cases hy
        exact nodeOk_t.1 h3
      · exact hall i y (by omega) hy
  · rw [ltI_f] at h2
    try rw [List.length_map] at h2
    refine bR_eq (Bool.eq_iff_iff.2 ?_)
    rw [poolOk_t, leI_t, List.length_map]
    exact ⟨fun h => ⟨by omega, fun i y hy => hall i y (by have := (List.getElem?_eq_some_iff.1 hy).1; omega) hy⟩, fun h => by omega⟩

set_option maxRecDepth 100000 in
theorem i_PoolOk_ok (p : DPool) (hp : p.ok) : FnV Tryz.prog 204 [pV p] fun rs outs => rs = [bR (poolOk p.xNodes)] ∧ outs = [] := by
  refine fn_ok (E := E5) τ_ok mixed Tryz.func204 (by rfl) (by rfl) false (by simp [Tryz.f204]) ?_
  obtain ⟨hl, ho⟩ := hp
  conv => whnf
  refine ⟨fun n s => ∃ (k : Int), s = ⟨[(1, .bptr 1 0 0), (2, .vals false [.sc (.bool false)]), (6, .vals false [.rd none 5 (p.xNodes.map DNode.c)]), (7, .vals false [.sc (.int .i64 p.xNodes.length)]), (8, .vals false [.sc (.int .i64 k)])], [(1, ⟨0, [.rd none 5 (p.xNodes.map DNode.c)]⟩)], []⟩ ∧ n = p.xNodes.length - k.toNat ∧ 0 ≤ k ∧ k ≤ p.xNodes.length ∧ ∀ (i : Nat) (x : DNode), i < k.toNat → p.xNodes[i]? = some x → NodeOk x i,
    ⟨_, _, norm_wk (keep := [1, 2, 6, 7, 8]) (kb := [1]) (ρ := []) rfl, ⟨0, by rw [List.length_map], rfl, by omega, by omega, fun i x h => absurd h (by simp)⟩⟩, ?_⟩
  rintro n _ ⟨k, rfl, rfl, hk, hK, hall⟩
  conv => whnf
  refine br_if (fun h2 => ?_) (fun h2 => ?_) <;> (try rw [h2]) <;> (conv => whnf)
  · rw [ltI_t] at h2
    try rw [List.length_map] at h2
    obtain ⟨x, hx⟩ : ∃ x, p.xNodes[k.toNat]? = some x := ⟨_, List.getElem?_eq_getElem (by omega)⟩
    have hg : (p.xNodes.map DNode.c)[k.toNat]? = some x.c := by rw [List.getElem?_map, hx]; rfl
    refine ⟨by omega, _, hg, ?_⟩
    conv => whnf
    refine (i_nodeOk_ok _ _ (ho x (List.mem_of_getElem? hx)) hk (by omega)).mono ?_
    rintro _ _ ⟨rfl, rfl⟩
    conv => whnf
    rw [show nodeOk x k = nodeOk x (k.toNat : Int) by rw [Int.toNat_of_nonneg hk]]
    refine br_if (fun h3 => ?_) (fun h3 => ?_) <;> (try rw [h3]) <;> (conv => whnf)
    · rw [notB_t] at h3
      exact bR_eq (poolOk_ff hx h3).symm
    · rw [notB_f] at h3
      rw [wrp_i64 (x := k + 1) (by omega) (by omega)]
      refine ⟨p.xNodes.length - (k + 1).toNat, _, by omega, norm_wk (keep := [1, 2, 6, 7, 8]) (kb := [1]) (ρ := []) rfl, ⟨k + 1, rfl, rfl, by omega, by omega, ?_⟩⟩
      intro i y hi hy
      by_cases e : i = k.toNat
      · subst e
        rw [hx] at hy
        cases hy
        exact nodeOk_t.1 h3
      · exact hall i y (by omega) hy
  · rw [ltI_f] at h2
    try rw [List.length_map] at h2
    refine bR_eq (Bool.eq_iff_iff.2 ?_)
    rw [poolOk_t, leI_t, List.length_map]
    exact ⟨fun h => ⟨by omega, fun i y hy => hall i y (by have := (List.getElem?_eq_some_iff.1 hy).1; omega) hy⟩, fun h => by omega⟩

end Go.Proofs.YtcaonpncopfeoaaGreat.V
