/- Definitions, instructions, code. -/
import Derived.Test.YtcaonpncopfeoaaGreatQ5
set_option linter.unusedVariables false
set_option linter.unusedSimpArgs false
namespace Go.Proofs.YtcaonpncopfeoaaGreat.V
open Go

def MdE6 (f : Nat) : List Mode :=
  match f with
  | 101 => [.rd, .rd, .rd]
  | 112 => [.rd, .rd, .rd]
  | 197 => [.rd]
  | 206 => [.rd]
  | 261 => [.rd, .rd]
  | 275 => [.rd, .rd]
  | 277 => [.rd, .clo]
  | 278 => [.rd, .mptr]
  | _ => []
def E6 : Env := ⟨τ, MdE6⟩

/-- The place of the first that is so. -/
def fidx {α : Type} (p : α → Bool) : List α → Int → Int
  | [], _ => -1
  | h :: r, k => if p h = true then k else fidx p r (k + 1)
theorem fidx_step {α : Type} {p : α → Bool} {hs : List α} {k : Nat} {x : α} (hx : hs[k]? = some x) : fidx p (hs.drop k) k = if p x = true then (k : Int) else fidx p (hs.drop (k + 1)) ((k : Int) + 1) := by
  obtain ⟨hlt, e⟩ := List.getElem?_eq_some_iff.1 hx
  rw [List.drop_eq_getElem_cons hlt, e]
  rfl
theorem fidx_ge {α : Type} (p : α → Bool) : ∀ (l : List α) (k : Int), 0 ≤ k → (fidx p l k = -1 ∧ l.any p = false ∨ k ≤ fidx p l k ∧ fidx p l k < k + l.length ∧ l.any p = true ∧ ∃ x, l[(fidx p l k - k).toNat]? = some x ∧ p x = true)
  | [], k, _ => .inl ⟨rfl, rfl⟩
  | x :: r, k, hk => by
    unfold fidx
    split
    · rename_i h
      exact .inr ⟨Int.le_refl _, by simp only [List.length_cons]; omega, by simp [h], x, by simp, h⟩
    · rename_i h
      rcases fidx_ge p r (k + 1) (by omega) with ⟨h1, h2⟩ | ⟨h1, h2, h3, y, h4, h5⟩
      · exact .inl ⟨h1, by simp [h2, h]⟩
      · refine .inr ⟨by omega, by simp only [List.length_cons]; omega, by simp [h3], y, ?_, h5⟩
        rw [show (fidx p r (k + 1) - k).toNat = (fidx p r (k + 1) - (k + 1)).toNat + 1 by omega]
        exact h4
theorem fidx_any {α : Type} (p : α → Bool) (l : List α) : leI 0 (fidx p l 0) = l.any p := by
  rcases fidx_ge p l 0 (by omega) with ⟨h1, h2⟩ | ⟨h1, h2, h3, _⟩
  · rw [h1, h2]
    exact leI_f.2 (by decide)
  · rw [h3]
    exact leI_t.2 h1

@[reducible] def cV (c : DCode) : AV := .rdv true c.c

set_option maxRecDepth 100000 in
theorem i_DefOf1_ok (name : ByteArray) (x : DDef) : FnV Tryz.prog 278 [.rdv true x.c, .mptr none [.sc (.string name)]] fun rs outs => rs = [bR (eqStr x.xName name)] ∧ outs = [[.sc (.string name)]] := by
  refine fn_ok (E := E6) τ_ok mixed Tryz.func278 (by rfl) (by rfl) false (by simp [Tryz.f278]) ?_
  conv => whnf
  exact ⟨rfl, rfl⟩

set_option maxRecDepth 100000 in
theorem i_DefOf_ix (name : ByteArray) (xs : List DDef) (hl : xs.length ≤ 9223372036854775807) : FnV Tryz.prog 277 [.rdv false [.sl true 3 (xs.map (fun x : DDef => x.c))], .mptr (some 278) [.sc (.string name)]] fun rs outs => rs = [iR (fidx (fun x : DDef => eqStr x.xName name) xs 0)] ∧ outs = [[.sc (.string name)]] := by
  refine fn_ok (E := E6) τ_ok mixed Tryz.func277 (by rfl) (by rfl) false (by simp [Tryz.f277]) ?_
  conv => whnf
  rw [List.length_map]
  refine ⟨fun m s => ∃ (k : Int), s = ⟨[(0, .vals false [.rd none 3 (xs.map (fun x : DDef => x.c))]), (1, .clo 278 1000001 0), (4, .vals false [.sc (.int .i64 0)]), (7, .vals false [.sc (.int .i64 (xs.length : Nat))]), (8, .vals false [.sc (.int .i64 k)])], [(1000001, ⟨0, [.sc (.string name)]⟩)], []⟩ ∧ m = xs.length - k.toNat ∧ 0 ≤ k ∧ k ≤ xs.length ∧ fidx (fun x : DDef => eqStr x.xName name) (xs.drop k.toNat) k = fidx (fun x : DDef => eqStr x.xName name) xs 0,
    ⟨_, _, norm_wk (keep := [0, 1, 4, 7, 8]) (kb := [1000001]) (ρ := []) rfl, ⟨0, rfl, rfl, by omega, by omega, rfl⟩⟩, ?_⟩
  rintro m _ ⟨k, rfl, rfl, k0, k1, hk⟩
  conv => whnf
  refine br_if (fun h => ?_) (fun h => ?_) <;> (try rw [h]) <;> (conv => whnf)
  · rw [ltI_t] at h
    obtain ⟨x, hx⟩ : ∃ x, xs[k.toNat]? = some x := ⟨_, List.getElem?_eq_getElem (by omega)⟩
    have hss := fidx_step (p := (fun x : DDef => eqStr x.xName name)) hx
    rw [Int.toNat_of_nonneg k0] at hss
    rw [hss] at hk
    refine ⟨by omega, _, by rw [List.getElem?_map, hx]; rfl, ?_⟩
    conv => whnf
    refine (i_DefOf1_ok name x).mono ?_
    rintro _ _ ⟨rfl, rfl⟩
    conv => whnf
    refine br_if (fun h2 => ?_) (fun h2 => ?_) <;> (try rw [h2]) <;> (conv => whnf)
    · rw [if_pos h2] at hk
      rw [← hk]
      exact ⟨rfl, rfl⟩
    · rw [if_neg (by rw [h2]; decide)] at hk
      rw [wrp_i64 (x := k + 1) (by omega) (by omega)]
      have ek : (k + 1).toNat = k.toNat + 1 := by omega
      exact ⟨xs.length - (k + 1).toNat, _, by omega, norm_wk (keep := [0, 1, 4, 7, 8]) (kb := [1000001]) (ρ := []) rfl, ⟨k + 1, rfl, rfl, by omega, by omega, by rw [ek]; exact hk⟩⟩
  · rw [ltI_f] at h
    rw [List.drop_eq_nil_of_le (by omega)] at hk
    rw [← hk]
    exact ⟨rfl, rfl⟩

noncomputable def defOf (c : DCode) (name : ByteArray) : Int := fidx (fun x : DDef => eqStr x.xName name) c.xDefs 0

set_option maxRecDepth 100000 in
theorem i_DefOf_ok (c : DCode) (name : ByteArray) (hl : c.xDefs.length ≤ 9223372036854775807) : FnV Tryz.prog 207 [cV c, sV name] fun rs outs => rs = [iR (defOf c name)] ∧ outs = [] := by
  refine fn_ok (E := E6) τ_ok mixed Tryz.func207 (by rfl) (by rfl) false (by simp [Tryz.f207]) ?_
  conv => whnf
  refine (i_DefOf_ix name c.xDefs hl).mono ?_
  rintro _ _ ⟨rfl, rfl⟩
  conv => whnf
  exact ⟨rfl, rfl⟩

set_option maxRecDepth 100000 in
theorem s_DefOf_ok (c : DCode) (name : ByteArray) (hl : c.xDefs.length ≤ 9223372036854775807) : FnV Tryz.prog 198 [cV c, sV name] fun rs outs => rs = [iR (defOf c name)] ∧ outs = [] := by
  refine fn_ok (E := E6) τ_ok mixed Tryz.func198 (by rfl) (by rfl) false (by simp [Tryz.f198]) ?_
  conv => whnf
  refine ⟨fun m s => ∃ (k : Int), s = ⟨[(1, .vals false [.sc (.string name)]), (2, .bptr 2 0 0), (4, .vals false [.sc (.int .i64 0)]), (5, .vals false [.sc (.int .i64 k)])], [(2, ⟨0, c.x⟩)], []⟩ ∧ m = c.xDefs.length - k.toNat ∧ 0 ≤ k ∧ k ≤ c.xDefs.length ∧ fidx (fun x : DDef => eqStr x.xName name) (c.xDefs.drop k.toNat) k = defOf c name,
    ⟨_, _, norm_wk (keep := [1, 2, 4, 5]) (kb := [2]) (ρ := []) rfl, ⟨0, rfl, rfl, by omega, by omega, rfl⟩⟩, ?_⟩
  rintro m _ ⟨k, rfl, rfl, k0, k1, hk⟩
  conv => whnf
  refine br_if (fun h => ?_) (fun h => ?_) <;> (try rw [h]) <;> (conv => whnf)
  · rw [ltI_t, List.length_map] at h
    obtain ⟨x, hx⟩ : ∃ x, c.xDefs[k.toNat]? = some x := ⟨_, List.getElem?_eq_getElem (by omega)⟩
    have hss := fidx_step (p := fun x : DDef => eqStr x.xName name) hx
    rw [Int.toNat_of_nonneg k0] at hss
    rw [hss] at hk
    refine ⟨by omega, _, by rw [List.getElem?_map, hx]; rfl, ?_⟩
    conv => whnf
    refine br_if (fun h2 => ?_) (fun h2 => ?_) <;> (try rw [h2]) <;> (conv => whnf)
    · rw [if_pos h2] at hk
      rw [← hk]
      exact ⟨rfl, rfl⟩
    · rw [if_neg (by rw [h2]; decide)] at hk
      rw [wrp_i64 (x := k + 1) (by omega) (by omega)]
      have ek : (k + 1).toNat = k.toNat + 1 := by omega
      exact ⟨c.xDefs.length - (k + 1).toNat, _, by omega, norm_wk (keep := [1, 2, 4, 5]) (kb := [2]) (ρ := []) rfl, ⟨k + 1, rfl, rfl, by omega, by omega, by rw [ek]; exact hk⟩⟩
  · rw [ltI_f, List.length_map] at h
    rw [List.drop_eq_nil_of_le (by omega)] at hk
    rw [← hk]
    exact ⟨rfl, rfl⟩

set_option maxRecDepth 100000 in
theorem s_l2Has_ok (p : DPool) (v : Int) (hl : p.xNodes.length ≤ 9223372036854775807) : FnV Tryz.prog 261 [pV p, iV v] fun rs outs => rs = [bR (decide (0 ≤ v ∧ v < p.xNodes.length))] ∧ outs = [] := by
  refine fn_ok (E := E6) τ_ok mixed Tryz.func261 (by rfl) (by rfl) false (by simp [Tryz.f261]) ?_
  conv => whnf
  refine (s_l1In_ok _ _ _).mono ?_
  rintro _ _ ⟨rfl, rfl⟩
  conv => whnf
  rw [List.length_map, wrp_i64 (by omega) (by omega)]
  exact bR_eq (decide_eq_decide.2 (by omega))
set_option maxRecDepth 100000 in
theorem i_isNode_ok (p : DPool) (v : Int) (hl : p.xNodes.length ≤ 9223372036854775807) : FnV Tryz.prog 275 [pV p, iV v] fun rs outs => rs = [bR (decide (0 ≤ v ∧ v < p.xNodes.length))] ∧ outs = [] := by
  refine fn_ok (E := E6) τ_ok mixed Tryz.func275 (by rfl) (by rfl) false (by simp [Tryz.f275]) ?_
  conv => whnf
  refine (i_within_ok _ _ _).mono ?_
  rintro _ _ ⟨rfl, rfl⟩
  conv => whnf
  rw [List.length_map, wrp_i64 (by omega) (by omega)]
  exact bR_eq (decide_eq_decide.2 (by omega))
set_option maxRecDepth 100000 in
theorem i_isPlace_ok (c : DCode) (v : Int) (hl : c.xList.length ≤ 9223372036854775807) : FnV Tryz.prog 279 [cV c, iV v] fun rs outs => rs = [bR (decide (0 ≤ v ∧ v < c.xList.length))] ∧ outs = [] := by
  refine fn_ok (E := E6) τ_ok mixed Tryz.func279 (by rfl) (by rfl) false (by simp [Tryz.f279]) ?_
  conv => whnf
  refine (i_within_ok _ _ _).mono ?_
  rintro _ _ ⟨rfl, rfl⟩
  conv => whnf
  rw [List.length_map, wrp_i64 (by omega) (by omega)]
  exact bR_eq (decide_eq_decide.2 (by omega))

/-- An instruction is right: at a place, in code of so many, with a pool of so many. -/
def InstrOk (nl np : Int) (x : DInstr) (i : Int) : Prop :=
  (x.xOp = 1 ∧ 0 ≤ x.xN ∧ x.xN < np ∧ x.xI = 0 ∧ x.xS.size = 0) ∨
  (x.xOp = 2 ∧ 0 ≤ x.xN ∧ x.xN ≤ 20 ∧ 0 ≤ x.xI ∧ x.xI ≤ 3 ∧ x.xS.size = 0) ∨
  (x.xOp = 3 ∧ x.xN = 0 ∧ x.xI = 0 ∧ nameI x.xS = 1) ∨
  (x.xOp = 4 ∧ i < x.xN ∧ x.xN ≤ nl ∧ x.xI = 0 ∧ x.xS.size = 0) ∨
  (x.xOp = 5 ∧ i < x.xN ∧ x.xN ≤ nl ∧ x.xI = 0 ∧ x.xS.size = 0) ∨
  (x.xOp = 6 ∧ i < x.xN ∧ x.xN < nl ∧ 0 ≤ x.xI ∧ x.xI ≤ 4 ∧ x.xS.size = 0) ∨
  (x.xOp = 7 ∧ x.xN = 0 ∧ 0 ≤ x.xI ∧ x.xI ≤ 4 ∧ x.xS.size = 0) ∨
  (x.xOp = 8 ∧ x.xN = 0 ∧ x.xI = 0 ∧ x.xS.size = 0) ∨
  (x.xOp = 9 ∧ x.xN = 0 ∧ x.xI = 0 ∧ x.xS.size = 0)
theorem instr_k1 {nl np : Int} {x : DInstr} {i : Int} (h : x.xOp = 1) : InstrOk nl np x i ↔ 0 ≤ x.xN ∧ x.xN < np ∧ x.xI = 0 ∧ x.xS.size = 0 := by simp [InstrOk, h]
theorem instr_k2 {nl np : Int} {x : DInstr} {i : Int} (h : x.xOp = 2) : InstrOk nl np x i ↔ 0 ≤ x.xN ∧ x.xN ≤ 20 ∧ 0 ≤ x.xI ∧ x.xI ≤ 3 ∧ x.xS.size = 0 := by simp [InstrOk, h]
theorem instr_k3 {nl np : Int} {x : DInstr} {i : Int} (h : x.xOp = 3) : InstrOk nl np x i ↔ x.xN = 0 ∧ x.xI = 0 ∧ nameI x.xS = 1 := by simp [InstrOk, h]
theorem instr_k4 {nl np : Int} {x : DInstr} {i : Int} (h : x.xOp = 4) : InstrOk nl np x i ↔ i < x.xN ∧ x.xN ≤ nl ∧ x.xI = 0 ∧ x.xS.size = 0 := by simp [InstrOk, h]
theorem instr_k5 {nl np : Int} {x : DInstr} {i : Int} (h : x.xOp = 5) : InstrOk nl np x i ↔ i < x.xN ∧ x.xN ≤ nl ∧ x.xI = 0 ∧ x.xS.size = 0 := by simp [InstrOk, h]
theorem instr_k6 {nl np : Int} {x : DInstr} {i : Int} (h : x.xOp = 6) : InstrOk nl np x i ↔ i < x.xN ∧ x.xN < nl ∧ 0 ≤ x.xI ∧ x.xI ≤ 4 ∧ x.xS.size = 0 := by simp [InstrOk, h]
theorem instr_k7 {nl np : Int} {x : DInstr} {i : Int} (h : x.xOp = 7) : InstrOk nl np x i ↔ x.xN = 0 ∧ 0 ≤ x.xI ∧ x.xI ≤ 4 ∧ x.xS.size = 0 := by simp [InstrOk, h]
theorem instr_k8 {nl np : Int} {x : DInstr} {i : Int} (h : x.xOp = 8) : InstrOk nl np x i ↔ x.xN = 0 ∧ x.xI = 0 ∧ x.xS.size = 0 := by simp [InstrOk, h]
theorem instr_k9 {nl np : Int} {x : DInstr} {i : Int} (h : x.xOp = 9) : InstrOk nl np x i ↔ x.xN = 0 ∧ x.xI = 0 ∧ x.xS.size = 0 := by simp [InstrOk, h]
theorem instr_k0 {nl np : Int} {x : DInstr} {i : Int} (h1 : x.xOp ≠ 1) (h2 : x.xOp ≠ 2) (h3 : x.xOp ≠ 3) (h4 : x.xOp ≠ 4) (h5 : x.xOp ≠ 5) (h6 : x.xOp ≠ 6) (h7 : x.xOp ≠ 7) (h8 : x.xOp ≠ 8) (h9 : x.xOp ≠ 9) : ¬ InstrOk nl np x i := by simp [InstrOk, *]
noncomputable def instrOk (c : DCode) (x : DInstr) (i : Int) : Bool := clB (InstrOk c.xList.length c.xPool.xNodes.length x i)
set_option maxRecDepth 100000 in
set_option maxHeartbeats 1000000 in
theorem s_l4Instr_ok (c : DCode) (ho : c.ok) (i : Int) (h0 : 0 ≤ i) (x : DInstr) (hx : c.xList[i.toNat]? = some x) : FnV Tryz.prog 196 [cV c, iV i] fun rs outs => rs = [bR (instrOk c x i)] ∧ outs = [] := by
  refine fn_ok (E := E6) τ_ok mixed Tryz.func196 (by rfl) (by rfl) false (by simp [Tryz.f196]) ?_
  obtain ⟨⟨hp, -⟩, ⟨hl, hI⟩, -⟩ := ho
  obtain ⟨oO, oN, oI, oS⟩ := hI x (List.mem_of_getElem? hx)
  have hi := (List.getElem?_eq_some_iff.1 hx).1
  conv => whnf
  refine ⟨by omega, _, by rw [List.getElem?_map, hx]; rfl, ?_⟩
  conv => whnf
  repeat' (first
    | (refine br_if (fun h => ?_) (fun h => ?_) <;> (try rw [h]) <;> (conv => whnf))
    | (refine (s_l1In_ok _ _ _).mono ?_; rintro _ _ ⟨rfl, rfl⟩; conv => whnf)
    | (refine (s_l2Has_ok c.xPool _ hp).mono ?_; rintro _ _ ⟨rfl, rfl⟩; conv => whnf)
    | (refine (s_NameOk_ok _ oS).mono ?_; rintro _ _ ⟨rfl, rfl⟩; conv => whnf)
    | (refine ⟨eqTyInstr, ?_⟩; conv => whnf)
    | fail)
  all_goals (
      refine bR_eq (Bool.eq_iff_iff.2 ?_)
      unfold instrOk
      rw [clB_t]
      simp only [eqVs, eqV, Bool.and_eq_true, Bool.and_eq_false_iff, Bool.true_and, Bool.and_true, eq_self, eqI_t, eqI_f, ltI_t, ltI_f, leI_t, leI_f, emp_t, emp_f, eqStr_self, eqI_self, true_and, and_true, false_iff, true_iff, nameI_t, nameI_f, notB_t, notB_f, decide_eq_true_eq, decide_eq_false_iff_not, Bool.false_eq_true, List.length_map] at *
      first
      | (rw [instr_k1 ‹_›] <;> omega) | (rw [instr_k2 ‹_›] <;> omega) | (rw [instr_k3 ‹_›] <;> omega) | (rw [instr_k4 ‹_›] <;> omega) | (rw [instr_k5 ‹_›] <;> omega) | (rw [instr_k6 ‹_›] <;> omega) | (rw [instr_k7 ‹_›] <;> omega) | (rw [instr_k8 ‹_›] <;> omega) | (rw [instr_k9 ‹_›] <;> omega)
      | exact instr_k0 ‹_› ‹_› ‹_› ‹_› ‹_› ‹_› ‹_› ‹_› ‹_›)

set_option maxRecDepth 100000 in
set_option maxHeartbeats 1000000 in
theorem i_instrOk_ok (c : DCode) (ho : c.ok) (i : Int) (h0 : 0 ≤ i) (x : DInstr) (hx : c.xList[i.toNat]? = some x) : FnV Tryz.prog 205 [cV c, iV i] fun rs outs => rs = [bR (instrOk c x i)] ∧ outs = [] := by
  refine fn_ok (E := E6) τ_ok mixed Tryz.func205 (by rfl) (by rfl) false (by simp [Tryz.f205]) ?_
  obtain ⟨⟨hp, -⟩, ⟨hl, hI⟩, -⟩ := ho
  obtain ⟨oO, oN, oI, oS⟩ := hI x (List.mem_of_getElem? hx)
  have hi := (List.getElem?_eq_some_iff.1 hx).1
  have w1 : wrp .i64 (i + 1) = i + 1 := wrp_i64 (by omega) (by omega)
  have w2 : wrp .i64 ((c.xList.length : Int) - 1) = c.xList.length - 1 := wrp_i64 (by omega) (by omega)
  conv => whnf
  refine ⟨by omega, _, by rw [List.getElem?_map, hx]; rfl, ?_⟩
  conv => whnf
  refine ⟨.calm 0 (.calm 1 (.calm 2 (.calm 3 (.calm 4 (.calm 5 (.calm 6 (.calm 7 (.calm 8 (.calm 9 (.calm 10 (.calm 11 .done))))))))))), by rfl, ?_⟩
  apply Exists.intro
  refine ⟨?_, ?_⟩
  · conv => whnf
    repeat (refine ⟨rfl, ?_⟩; conv => whnf)
    exact norm_wk (keep := [0, 1, 2, 4, 5, 6, 7, 8]) (kb := [2, 5]) (ρ := []) rfl
  conv => whnf
  repeat' (first
    | (refine br_if (fun h => ?_) (fun h => ?_) <;> (try rw [h]) <;> (conv => whnf))
    | (refine (i_within_ok _ _ _).mono ?_; rintro _ _ ⟨rfl, rfl⟩; conv => whnf)
    | (refine (i_isNode_ok c.xPool _ hp).mono ?_; rintro _ _ ⟨rfl, rfl⟩; conv => whnf)
    | (refine (i_NameOk_ok _ oS).mono ?_; rintro _ _ ⟨rfl, rfl⟩; conv => whnf)
    | fail)
  all_goals try (
      refine bR_eq (Bool.eq_iff_iff.2 ?_)
      unfold instrOk
      rw [clB_t]
      simp only [eqVs, eqV, Bool.and_eq_true, Bool.and_eq_false_iff, Bool.true_and, Bool.and_true, eq_self, eqI_t, eqI_f, ltI_t, ltI_f, leI_t, leI_f, emp_t, emp_f, eqStr_self, eqI_self, true_and, and_true, false_iff, true_iff, nameI_t, nameI_f, notB_t, notB_f, decide_eq_true_eq, decide_eq_false_iff_not, Bool.false_eq_true, List.length_map] at *
      first
      | (rw [instr_k1 ‹_›] <;> omega) | (rw [instr_k2 ‹_›] <;> omega) | (rw [instr_k3 ‹_›] <;> omega) | (rw [instr_k4 ‹_›] <;> omega) | (rw [instr_k5 ‹_›] <;> omega) | (rw [instr_k6 ‹_›] <;> omega) | (rw [instr_k7 ‹_›] <;> omega) | (rw [instr_k8 ‹_›] <;> omega) | (rw [instr_k9 ‹_›] <;> omega)
      | exact instr_k0 ‹_› ‹_› ‹_› ‹_› ‹_› ‹_› ‹_› ‹_› ‹_›)
  · refine ⟨.take 0 (.take 3 (.early 1 (.early 4 (.or 2 (.or 5 (.calm 6 (.calm 7 .done)) .nil) .nil)))), by rfl, ?_⟩
    apply Exists.intro
    refine ⟨?_, ?_⟩
    · conv => whnf
      repeat (first | (refine ⟨rfl, ?_⟩; conv => whnf) | (refine (i_within_ok _ _ _).mono ?_; rintro _ _ ⟨rfl, rfl⟩; conv => whnf))
      exact norm_wk (keep := [0, 1, 2, 4, 5, 6, 7, 8]) (kb := [2, 5]) (ρ := []) rfl
    conv => whnf
    repeat' (refine br_if (fun h => ?_) (fun h => ?_) <;> (try rw [h]) <;> (conv => whnf))
    all_goals (
        refine bR_eq (Bool.eq_iff_iff.2 ?_)
        unfold instrOk
        rw [clB_t]
        simp only [eqVs, eqV, Bool.and_eq_true, Bool.and_eq_false_iff, Bool.true_and, Bool.and_true, eq_self, eqI_t, eqI_f, ltI_t, ltI_f, leI_t, leI_f, emp_t, emp_f, eqStr_self, eqI_self, true_and, and_true, false_iff, true_iff, nameI_t, nameI_f, notB_t, notB_f, decide_eq_true_eq, decide_eq_false_iff_not, Bool.false_eq_true, List.length_map] at *
        first
        | (rw [instr_k1 ‹_›] <;> omega) | (rw [instr_k2 ‹_›] <;> omega) | (rw [instr_k3 ‹_›] <;> omega) | (rw [instr_k4 ‹_›] <;> omega) | (rw [instr_k5 ‹_›] <;> omega) | (rw [instr_k6 ‹_›] <;> omega) | (rw [instr_k7 ‹_›] <;> omega) | (rw [instr_k8 ‹_›] <;> omega) | (rw [instr_k9 ‹_›] <;> omega)
        | exact instr_k0 ‹_› ‹_› ‹_› ‹_› ‹_› ‹_› ‹_› ‹_› ‹_›)
  · refine ⟨.take 0 (.take 2 (.take 3 (.take 4 (.take 9 (.early 1 (.early 10 (.or 5 (.take 6 (.take 7 (.or 8 (.or 11 (.calm 12 (.calm 13 .done)) .nil) .nil))) .nil))))))), by rfl, ?_⟩
    apply Exists.intro
    refine ⟨?_, ?_⟩
    · conv => whnf
      repeat (first | (refine ⟨rfl, ?_⟩; conv => whnf) | (refine (i_within_ok _ _ _).mono ?_; rintro _ _ ⟨rfl, rfl⟩; conv => whnf))
      exact norm_wk (keep := [0, 1, 2, 4, 5, 6, 7, 8]) (kb := [2, 5]) (ρ := []) rfl
    conv => whnf
    repeat' (refine br_if (fun h => ?_) (fun h => ?_) <;> (try rw [h]) <;> (conv => whnf))
    all_goals (
        refine bR_eq (Bool.eq_iff_iff.2 ?_)
        unfold instrOk
        rw [clB_t]
        simp only [eqVs, eqV, Bool.and_eq_true, Bool.and_eq_false_iff, Bool.true_and, Bool.and_true, eq_self, eqI_t, eqI_f, ltI_t, ltI_f, leI_t, leI_f, emp_t, emp_f, eqStr_self, eqI_self, true_and, and_true, false_iff, true_iff, nameI_t, nameI_f, notB_t, notB_f, decide_eq_true_eq, decide_eq_false_iff_not, Bool.false_eq_true, List.length_map] at *
        first
        | (rw [instr_k1 ‹_›] <;> omega) | (rw [instr_k2 ‹_›] <;> omega) | (rw [instr_k3 ‹_›] <;> omega) | (rw [instr_k4 ‹_›] <;> omega) | (rw [instr_k5 ‹_›] <;> omega) | (rw [instr_k6 ‹_›] <;> omega) | (rw [instr_k7 ‹_›] <;> omega) | (rw [instr_k8 ‹_›] <;> omega) | (rw [instr_k9 ‹_›] <;> omega)
        | exact instr_k0 ‹_› ‹_› ‹_› ‹_› ‹_› ‹_› ‹_› ‹_› ‹_›)

end Go.Proofs.YtcaonpncopfeoaaGreat.V
