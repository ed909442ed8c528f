/- What the functions eqT of the laws come to. (printed by wip/tools/fam.py) -/
import Derived.Test.YtcaonpncopfeoaaGreatT
import Derived.Test.YtcaonpncopfeoaaGreatD1
set_option linter.unusedVariables false
set_option linter.unusedSimpArgs false
namespace Go.Proofs.YtcaonpncopfeoaaGreat.V
open Go

def Mdeq (f : Nat) : List Mode :=
  match f with
  | 21 => [.rd, .rd]
  | 22 => [.rd, .rd]
  | 30 => [.rd, .rd]
  | 41 => [.rd, .rd]
  | 87 => [.rd, .rd]
  | 88 => [.rd, .rd]
  | 89 => [.rd, .rd]
  | 90 => [.rd, .rd]
  | 120 => [.rd, .rd]
  | 121 => [.rd, .rd]
  | 122 => [.rd, .rd]
  | 123 => [.rd, .rd]
  | 124 => [.rd, .rd]
  | 186 => [.rd, .rd]
  | 187 => [.rd, .rd]
  | 188 => [.rd, .rd]
  | 216 => [.rd, .rd]
  | 217 => [.rd, .rd]
  | 218 => [.rd, .rd]
  | 219 => [.rd, .rd]
  | 267 => [.rd, .rd]
  | 282 => [.rd, .rd]
  | 283 => [.rd, .rd]
  | _ => []
def Eneq : Env := ⟨τ, Mdeq⟩

theorem q0 : notB true = false := notB_f.2 rfl

set_option maxRecDepth 100000 in
theorem eqNode_ok (a : DNode) (ho : a.ok) : FnV Tryz.prog 267 [.rdv true a.c, .rdv true a.c] fun rs outs => rs = [bR true] ∧ outs = [] := by
  refine fn_ok (E := Eneq) τ_ok mixed Tryz.func267 (by rfl) (by rfl) false (by simp [Tryz.f267]) ?_
  obtain ⟨oKind, oN, oS, oA, oB⟩ := ho
  conv => whnf
  rw [eqI_self, q0]
  conv => whnf
  rw [eqI_self, q0]
  conv => whnf
  rw [eqStr_self, q0]
  conv => whnf
  rw [eqI_self, q0]
  conv => whnf
  rw [eqI_self, q0]
  conv => whnf
  exact ⟨rfl, rfl⟩

set_option maxRecDepth 100000 in
theorem eqNodeS_ok (xs : List DNode) (hl : xs.length ≤ 9223372036854775807) (ho : ∀ y ∈ xs, y.ok) :
    FnV Tryz.prog 186 [.rdv false [.sl true 5 (xs.map DNode.c)], .rdv false [.sl true 5 (xs.map DNode.c)]] fun rs outs => rs = [bR true] ∧ outs = [] := by
  refine fn_ok (E := Eneq) τ_ok mixed Tryz.func186 (by rfl) (by rfl) false (by simp [Tryz.f186]) ?_
  conv => whnf
  rw [eqI_self, q0]
  conv => whnf
  refine ⟨fun m s => ∃ (k : Int), s = ⟨[(0, .vals false [.rd none 5 (xs.map DNode.c)]), (1, .vals false [.rd none 5 (xs.map DNode.c)]), (4, .vals false [.sc (.bool false)]), (5, .vals false [.sc (.int .i64 k)])], [], []⟩ ∧ m = xs.length - k.toNat ∧ 0 ≤ k ∧ k ≤ xs.length,
    ⟨_, _, norm_wk (keep := [0, 1, 4, 5]) (kb := []) (ρ := []) rfl, ⟨0, rfl, rfl, by omega, by omega⟩⟩, ?_⟩
  rintro m _ ⟨k, rfl, rfl, k0, k1⟩
  conv => whnf
  refine br_if (fun h => ?_) (fun h => ?_) <;> (try rw [h]) <;> (conv => whnf)
  · rw [ltI_t, List.length_map] at h
    obtain ⟨x, hx⟩ : ∃ x, xs[k.toNat]? = some x := ⟨_, List.getElem?_eq_getElem (by omega)⟩
    have hm := List.mem_of_getElem? hx
    have hg : (xs.map DNode.c)[k.toNat]? = some x.c := by
      rw [List.getElem?_map, hx]
      rfl
    refine ⟨.take 0 (.take 1 (.take 4 (.take 5 (.or 2 (.or 3 (.or 6 (.or 7 (.or 8 (.take 9 .done) .nil) .nil) .nil) (.or 6 (.or 3 (.or 7 (.or 8 (.take 9 .done) .nil) .nil) (.or 7 (.or 3 (.or 8 (.take 9 .done) .nil) .nil) .nil)) .nil)) (.or 6 (.or 2 (.or 3 (.or 7 (.or 8 (.take 9 .done) .nil) .nil) (.or 7 (.or 3 (.or 8 (.take 9 .done) .nil) .nil) .nil)) (.or 7 (.or 2 (.or 3 (.or 8 (.take 9 .done) .nil) .nil) .nil) .nil)) .nil))))), by rfl, ?_⟩
    apply Exists.intro
    refine ⟨?_, ?_⟩
    · conv => whnf
      refine ⟨?_, ?_⟩
      · conv => whnf
        refine ⟨by omega, _, hg, ?_⟩
        conv => whnf
        refine ⟨?_, ?_⟩
        · conv => whnf
          refine ⟨by omega, _, hg, ?_⟩
          conv => whnf
          refine (eqNode_ok x (ho x hm)).mono ?_
          rintro _ _ ⟨rfl, rfl⟩
          conv => whnf
          exact norm_wk (keep := [0, 1, 4, 5, 26]) (kb := []) (ρ := []) rfl
        · conv => whnf
          refine ⟨by omega, _, hg, ?_⟩
          conv => whnf
          refine ⟨?_, ?_⟩
          · conv => whnf
            refine (eqNode_ok x (ho x hm)).mono ?_
            rintro _ _ ⟨rfl, rfl⟩
            conv => whnf
            exact norm_wk (keep := [0, 1, 4, 5, 26]) (kb := []) (ρ := []) rfl
          · conv => whnf
            refine (eqNode_ok x (ho x hm)).mono ?_
            rintro _ _ ⟨rfl, rfl⟩
            conv => whnf
            exact norm_wk (keep := [0, 1, 4, 5, 26]) (kb := []) (ρ := []) rfl
      · conv => whnf
        refine ⟨by omega, _, hg, ?_⟩
        conv => whnf
        refine ⟨?_, ?_⟩
        · conv => whnf
          refine ⟨by omega, _, hg, ?_⟩
          conv => whnf
          refine ⟨?_, ?_⟩
          · conv => whnf
            refine (eqNode_ok x (ho x hm)).mono ?_
            rintro _ _ ⟨rfl, rfl⟩
            conv => whnf
            exact norm_wk (keep := [0, 1, 4, 5, 26]) (kb := []) (ρ := []) rfl
          · conv => whnf
            refine (eqNode_ok x (ho x hm)).mono ?_
            rintro _ _ ⟨rfl, rfl⟩
            conv => whnf
            exact norm_wk (keep := [0, 1, 4, 5, 26]) (kb := []) (ρ := []) rfl
        · conv => whnf
          refine ⟨by omega, _, hg, ?_⟩
          conv => whnf
          refine (eqNode_ok x (ho x hm)).mono ?_
          rintro _ _ ⟨rfl, rfl⟩
          conv => whnf
          exact norm_wk (keep := [0, 1, 4, 5, 26]) (kb := []) (ρ := []) rfl
    conv => whnf
    rw [q0]
    conv => whnf
    rw [wrp_i64 (x := k + 1) (by omega) (by omega)]
    exact ⟨xs.length - (k + 1).toNat, _, by omega, norm_wk (keep := [0, 1, 4, 5]) (kb := []) (ρ := []) rfl, ⟨k + 1, rfl, rfl, by omega, by omega⟩⟩
  · exact ⟨rfl, rfl⟩

set_option maxRecDepth 100000 in
theorem eqPool_ok (a : DPool) (ho : a.ok) : FnV Tryz.prog 88 [.rdv true a.c, .rdv true a.c] fun rs outs => rs = [bR true] ∧ outs = [] := by
  refine fn_ok (E := Eneq) τ_ok mixed Tryz.func88 (by rfl) (by rfl) false (by simp [Tryz.f88]) ?_
  have oNodes : (a.xNodes.length ≤ 9223372036854775807 ∧ ∀ y ∈ a.xNodes, y.ok) := ho
  conv => whnf
  refine (eqNodeS_ok a.xNodes oNodes.1 oNodes.2).mono ?_
  rintro _ _ ⟨rfl, rfl⟩
  conv => whnf
  rw [q0]
  conv => whnf
  exact ⟨rfl, rfl⟩

set_option maxRecDepth 100000 in
theorem eqInstr_ok (a : DInstr) (ho : a.ok) : FnV Tryz.prog 187 [.rdv true a.c, .rdv true a.c] fun rs outs => rs = [bR true] ∧ outs = [] := by
  refine fn_ok (E := Eneq) τ_ok mixed Tryz.func187 (by rfl) (by rfl) false (by simp [Tryz.f187]) ?_
  obtain ⟨oOp, oN, oI, oS⟩ := ho
  conv => whnf
  rw [eqI_self, q0]
  conv => whnf
  rw [eqI_self, q0]
  conv => whnf
  rw [eqI_self, q0]
  conv => whnf
  rw [eqStr_self, q0]
  conv => whnf
  exact ⟨rfl, rfl⟩

set_option maxRecDepth 100000 in
theorem eqDef_ok (a : DDef) (ho : a.ok) : FnV Tryz.prog 188 [.rdv true a.c, .rdv true a.c] fun rs outs => rs = [bR true] ∧ outs = [] := by
  refine fn_ok (E := Eneq) τ_ok mixed Tryz.func188 (by rfl) (by rfl) false (by simp [Tryz.f188]) ?_
  obtain ⟨oName, oAt, oArgs⟩ := ho
  conv => whnf
  rw [eqStr_self, q0]
  conv => whnf
  rw [eqI_self, q0]
  conv => whnf
  rw [eqI_self, q0]
  conv => whnf
  exact ⟨rfl, rfl⟩

set_option maxRecDepth 100000 in
theorem eqInstrS_ok (xs : List DInstr) (hl : xs.length ≤ 9223372036854775807) (ho : ∀ y ∈ xs, y.ok) :
    FnV Tryz.prog 89 [.rdv false [.sl true 4 (xs.map DInstr.c)], .rdv false [.sl true 4 (xs.map DInstr.c)]] fun rs outs => rs = [bR true] ∧ outs = [] := by
  refine fn_ok (E := Eneq) τ_ok mixed Tryz.func89 (by rfl) (by rfl) false (by simp [Tryz.f89]) ?_
  conv => whnf
  rw [eqI_self, q0]
  conv => whnf
  refine ⟨fun m s => ∃ (k : Int), s = ⟨[(0, .vals false [.rd none 4 (xs.map DInstr.c)]), (1, .vals false [.rd none 4 (xs.map DInstr.c)]), (4, .vals false [.sc (.bool false)]), (5, .vals false [.sc (.int .i64 k)])], [], []⟩ ∧ m = xs.length - k.toNat ∧ 0 ≤ k ∧ k ≤ xs.length,
    ⟨_, _, norm_wk (keep := [0, 1, 4, 5]) (kb := []) (ρ := []) rfl, ⟨0, rfl, rfl, by omega, by omega⟩⟩, ?_⟩
  rintro m _ ⟨k, rfl, rfl, k0, k1⟩
  conv => whnf
  refine br_if (fun h => ?_) (fun h => ?_) <;> (try rw [h]) <;> (conv => whnf)
  · rw [ltI_t, List.length_map] at h
    obtain ⟨x, hx⟩ : ∃ x, xs[k.toNat]? = some x := ⟨_, List.getElem?_eq_getElem (by omega)⟩
    have hm := List.mem_of_getElem? hx
    have hg : (xs.map DInstr.c)[k.toNat]? = some x.c := by
      rw [List.getElem?_map, hx]
      rfl
    refine ⟨.take 0 (.take 1 (.take 4 (.take 5 (.or 2 (.or 3 (.or 6 (.or 7 (.or 8 (.take 9 .done) .nil) .nil) .nil) (.or 6 (.or 3 (.or 7 (.or 8 (.take 9 .done) .nil) .nil) (.or 7 (.or 3 (.or 8 (.take 9 .done) .nil) .nil) .nil)) .nil)) (.or 6 (.or 2 (.or 3 (.or 7 (.or 8 (.take 9 .done) .nil) .nil) (.or 7 (.or 3 (.or 8 (.take 9 .done) .nil) .nil) .nil)) (.or 7 (.or 2 (.or 3 (.or 8 (.take 9 .done) .nil) .nil) .nil) .nil)) .nil))))), by rfl, ?_⟩
    apply Exists.intro
    refine ⟨?_, ?_⟩
    · conv => whnf
      refine ⟨?_, ?_⟩
      · conv => whnf
        refine ⟨by omega, _, hg, ?_⟩
        conv => whnf
        refine ⟨?_, ?_⟩
        · conv => whnf
          refine ⟨by omega, _, hg, ?_⟩
          conv => whnf
          refine (eqInstr_ok x (ho x hm)).mono ?_
          rintro _ _ ⟨rfl, rfl⟩
          conv => whnf
          exact norm_wk (keep := [0, 1, 4, 5, 26]) (kb := []) (ρ := []) rfl
        · conv => whnf
          refine ⟨by omega, _, hg, ?_⟩
          conv => whnf
          refine ⟨?_, ?_⟩
          · conv => whnf
            refine (eqInstr_ok x (ho x hm)).mono ?_
            rintro _ _ ⟨rfl, rfl⟩
            conv => whnf
            exact norm_wk (keep := [0, 1, 4, 5, 26]) (kb := []) (ρ := []) rfl
          · conv => whnf
            refine (eqInstr_ok x (ho x hm)).mono ?_
            rintro _ _ ⟨rfl, rfl⟩
            conv => whnf
            exact norm_wk (keep := [0, 1, 4, 5, 26]) (kb := []) (ρ := []) rfl
      · conv => whnf
        refine ⟨by omega, _, hg, ?_⟩
        conv => whnf
        refine ⟨?_, ?_⟩
        · conv => whnf
          refine ⟨by omega, _, hg, ?_⟩
          conv => whnf
          refine ⟨?_, ?_⟩
          · conv => whnf
            refine (eqInstr_ok x (ho x hm)).mono ?_
            rintro _ _ ⟨rfl, rfl⟩
            conv => whnf
            exact norm_wk (keep := [0, 1, 4, 5, 26]) (kb := []) (ρ := []) rfl
          · conv => whnf
            refine (eqInstr_ok x (ho x hm)).mono ?_
            rintro _ _ ⟨rfl, rfl⟩
            conv => whnf
            exact norm_wk (keep := [0, 1, 4, 5, 26]) (kb := []) (ρ := []) rfl
        · conv => whnf
          refine ⟨by omega, _, hg, ?_⟩
          conv => whnf
          refine (eqInstr_ok x (ho x hm)).mono ?_
          rintro _ _ ⟨rfl, rfl⟩
          conv => whnf
          exact norm_wk (keep := [0, 1, 4, 5, 26]) (kb := []) (ρ := []) rfl
    conv => whnf
    rw [q0]
    conv => whnf
    rw [wrp_i64 (x := k + 1) (by omega) (by omega)]
    exact ⟨xs.length - (k + 1).toNat, _, by omega, norm_wk (keep := [0, 1, 4, 5]) (kb := []) (ρ := []) rfl, ⟨k + 1, rfl, rfl, by omega, by omega⟩⟩
  · exact ⟨rfl, rfl⟩

set_option maxRecDepth 100000 in
theorem eqDefS_ok (xs : List DDef) (hl : xs.length ≤ 9223372036854775807) (ho : ∀ y ∈ xs, y.ok) :
    FnV Tryz.prog 90 [.rdv false [.sl true 3 (xs.map DDef.c)], .rdv false [.sl true 3 (xs.map DDef.c)]] fun rs outs => rs = [bR true] ∧ outs = [] := by
  refine fn_ok (E := Eneq) τ_ok mixed Tryz.func90 (by rfl) (by rfl) false (by simp [Tryz.f90]) ?_
  conv => whnf
  rw [eqI_self, q0]
  conv => whnf
  refine ⟨fun m s => ∃ (k : Int), s = ⟨[(0, .vals false [.rd none 3 (xs.map DDef.c)]), (1, .vals false [.rd none 3 (xs.map DDef.c)]), (4, .vals false [.sc (.bool false)]), (5, .vals false [.sc (.int .i64 k)])], [], []⟩ ∧ m = xs.length - k.toNat ∧ 0 ≤ k ∧ k ≤ xs.length,
    ⟨_, _, norm_wk (keep := [0, 1, 4, 5]) (kb := []) (ρ := []) rfl, ⟨0, rfl, rfl, by omega, by omega⟩⟩, ?_⟩
  rintro m _ ⟨k, rfl, rfl, k0, k1⟩
  conv => whnf
  refine br_if (fun h => ?_) (fun h => ?_) <;> (try rw [h]) <;> (conv => whnf)
  · rw [ltI_t, List.length_map] at h
    obtain ⟨x, hx⟩ : ∃ x, xs[k.toNat]? = some x := ⟨_, List.getElem?_eq_getElem (by omega)⟩
    have hm := List.mem_of_getElem? hx
    have hg : (xs.map DDef.c)[k.toNat]? = some x.c := by
      rw [List.getElem?_map, hx]
      rfl
    refine ⟨.take 0 (.take 1 (.take 4 (.take 5 (.or 2 (.or 3 (.or 6 (.or 7 (.or 8 (.take 9 .done) .nil) .nil) .nil) (.or 6 (.or 3 (.or 7 (.or 8 (.take 9 .done) .nil) .nil) (.or 7 (.or 3 (.or 8 (.take 9 .done) .nil) .nil) .nil)) .nil)) (.or 6 (.or 2 (.or 3 (.or 7 (.or 8 (.take 9 .done) .nil) .nil) (.or 7 (.or 3 (.or 8 (.take 9 .done) .nil) .nil) .nil)) (.or 7 (.or 2 (.or 3 (.or 8 (.take 9 .done) .nil) .nil) .nil) .nil)) .nil))))), by rfl, ?_⟩
    apply Exists.intro
    refine ⟨?_, ?_⟩
    · conv => whnf
      refine ⟨?_, ?_⟩
      · conv => whnf
        refine ⟨by omega, _, hg, ?_⟩
        conv => whnf
        refine ⟨?_, ?_⟩
        · conv => whnf
          refine ⟨by omega, _, hg, ?_⟩
          conv => whnf
          refine (eqDef_ok x (ho x hm)).mono ?_
          rintro _ _ ⟨rfl, rfl⟩
          conv => whnf
          exact norm_wk (keep := [0, 1, 4, 5, 26]) (kb := []) (ρ := []) rfl
        · conv => whnf
          refine ⟨by omega, _, hg, ?_⟩
          conv => whnf
          refine ⟨?_, ?_⟩
          · conv => whnf
            refine (eqDef_ok x (ho x hm)).mono ?_
            rintro _ _ ⟨rfl, rfl⟩
            conv => whnf
            exact norm_wk (keep := [0, 1, 4, 5, 26]) (kb := []) (ρ := []) rfl
          · conv => whnf
            refine (eqDef_ok x (ho x hm)).mono ?_
            rintro _ _ ⟨rfl, rfl⟩
            conv => whnf
            exact norm_wk (keep := [0, 1, 4, 5, 26]) (kb := []) (ρ := []) rfl
      · conv => whnf
        refine ⟨by omega, _, hg, ?_⟩
        conv => whnf
        refine ⟨?_, ?_⟩
        · conv => whnf
          refine ⟨by omega, _, hg, ?_⟩
          conv => whnf
          refine ⟨?_, ?_⟩
          · conv => whnf
            refine (eqDef_ok x (ho x hm)).mono ?_
            rintro _ _ ⟨rfl, rfl⟩
            conv => whnf
            exact norm_wk (keep := [0, 1, 4, 5, 26]) (kb := []) (ρ := []) rfl
          · conv => whnf
            refine (eqDef_ok x (ho x hm)).mono ?_
            rintro _ _ ⟨rfl, rfl⟩
            conv => whnf
            exact norm_wk (keep := [0, 1, 4, 5, 26]) (kb := []) (ρ := []) rfl
        · conv => whnf
          refine ⟨by omega, _, hg, ?_⟩
          conv => whnf
          refine (eqDef_ok x (ho x hm)).mono ?_
          rintro _ _ ⟨rfl, rfl⟩
          conv => whnf
          exact norm_wk (keep := [0, 1, 4, 5, 26]) (kb := []) (ρ := []) rfl
    conv => whnf
    rw [q0]
    conv => whnf
    rw [wrp_i64 (x := k + 1) (by omega) (by omega)]
    exact ⟨xs.length - (k + 1).toNat, _, by omega, norm_wk (keep := [0, 1, 4, 5]) (kb := []) (ρ := []) rfl, ⟨k + 1, rfl, rfl, by omega, by omega⟩⟩
  · exact ⟨rfl, rfl⟩

set_option maxRecDepth 100000 in
theorem eqCode_ok (a : DCode) (ho : a.ok) : FnV Tryz.prog 22 [.rdv true a.c, .rdv true a.c] fun rs outs => rs = [bR true] ∧ outs = [] := by
  refine fn_ok (E := Eneq) τ_ok mixed Tryz.func22 (by rfl) (by rfl) false (by simp [Tryz.f22]) ?_
  obtain ⟨oPool, oList, oDefs⟩ := ho
  conv => whnf
  refine (eqPool_ok a.xPool oPool).mono ?_
  rintro _ _ ⟨rfl, rfl⟩
  conv => whnf
  rw [q0]
  conv => whnf
  refine (eqInstrS_ok a.xList oList.1 oList.2).mono ?_
  rintro _ _ ⟨rfl, rfl⟩
  conv => whnf
  rw [q0]
  conv => whnf
  refine (eqDefS_ok a.xDefs oDefs.1 oDefs.2).mono ?_
  rintro _ _ ⟨rfl, rfl⟩
  conv => whnf
  rw [q0]
  conv => whnf
  exact ⟨rfl, rfl⟩

set_option maxRecDepth 100000 in
theorem eqMachine_ok (a : DMachine) (ho : a.ok) : FnV Tryz.prog 87 [.rdv true a.c, .rdv true a.c] fun rs outs => rs = [bR true] ∧ outs = [] := by
  refine fn_ok (E := Eneq) τ_ok mixed Tryz.func87 (by rfl) (by rfl) false (by simp [Tryz.f87]) ?_
  obtain ⟨oPool, oAt, oS, oE, oD, oState, oAsk, oArg⟩ := ho
  conv => whnf
  refine (eqPool_ok a.xPool oPool).mono ?_
  rintro _ _ ⟨rfl, rfl⟩
  conv => whnf
  rw [q0]
  conv => whnf
  rw [eqI_self, q0]
  conv => whnf
  rw [eqI_self, q0]
  conv => whnf
  rw [eqI_self, q0]
  conv => whnf
  rw [eqI_self, q0]
  conv => whnf
  rw [eqI_self, q0]
  conv => whnf
  rw [eqI_self, q0]
  conv => whnf
  rw [eqI_self, q0]
  conv => whnf
  exact ⟨rfl, rfl⟩

set_option maxRecDepth 100000 in
theorem eqPiece_ok (a : DPiece) (ho : a.ok) : FnV Tryz.prog 283 [.rdv true a.c, .rdv true a.c] fun rs outs => rs = [bR true] ∧ outs = [] := by
  refine fn_ok (E := Eneq) τ_ok mixed Tryz.func283 (by rfl) (by rfl) false (by simp [Tryz.f283]) ?_
  obtain ⟨oNo, oText⟩ := ho
  conv => whnf
  rw [eqI_self, q0]
  conv => whnf
  rw [eqStr_self, q0]
  conv => whnf
  exact ⟨rfl, rfl⟩

set_option maxRecDepth 100000 in
theorem eqStringS_ok (xs : List ByteArray) (hl : xs.length ≤ 9223372036854775807) :
    FnV Tryz.prog 41 [.rdv false [.sl true 1 (ssC xs)], .rdv false [.sl true 1 (ssC xs)]] fun rs outs => rs = [bR true] ∧ outs = [] := by
  refine fn_ok (E := Eneq) τ_ok mixed Tryz.func41 (by rfl) (by rfl) false (by simp [Tryz.f41]) ?_
  conv => whnf
  rw [eqI_self, q0]
  conv => whnf
  refine ⟨fun m s => ∃ (k : Int), s = ⟨[(0, .vals false [.rd none 1 (ssC xs)]), (1, .vals false [.rd none 1 (ssC xs)]), (4, .vals false [.sc (.bool false)]), (5, .vals false [.sc (.int .i64 k)])], [], []⟩ ∧ m = xs.length - k.toNat ∧ 0 ≤ k ∧ k ≤ xs.length,
    ⟨_, _, norm_wk (keep := [0, 1, 4, 5]) (kb := []) (ρ := []) rfl, ⟨0, rfl, rfl, by omega, by omega⟩⟩, ?_⟩
  rintro m _ ⟨k, rfl, rfl, k0, k1⟩
  conv => whnf
  refine br_if (fun h => ?_) (fun h => ?_) <;> (try rw [h]) <;> (conv => whnf)
  · rw [ltI_t, List.length_map] at h
    obtain ⟨x, hx⟩ : ∃ x, xs[k.toNat]? = some x := ⟨_, List.getElem?_eq_getElem (by omega)⟩
    have hm := List.mem_of_getElem? hx
    have hg : (ssC xs)[k.toNat]? = some [.sc (.string x)] := by
      rw [List.getElem?_map, hx]
      rfl
    refine ⟨.take 0 (.take 1 (.take 4 (.take 5 (.or 2 (.early 3 (.or 6 (.or 7 (.take 8 .done) .nil) .nil)) (.or 6 (.early 7 (.or 2 (.or 3 (.take 8 .done) .nil) .nil)) .nil))))), by rfl, ?_⟩
    apply Exists.intro
    refine ⟨?_, ?_⟩
    · conv => whnf
      refine ⟨?_, ?_⟩
      · conv => whnf
        refine ⟨by omega, _, hg, ?_⟩
        conv => whnf
        refine ⟨by omega, _, hg, ?_⟩
        conv => whnf
        refine ⟨rfl, ?_⟩
        conv => whnf
        refine ⟨rfl, ?_⟩
        conv => whnf
        exact norm_wk (keep := [0, 1, 4, 5, 25]) (kb := []) (ρ := []) rfl
      · conv => whnf
        refine ⟨by omega, _, hg, ?_⟩
        conv => whnf
        refine ⟨by omega, _, hg, ?_⟩
        conv => whnf
        refine ⟨rfl, ?_⟩
        conv => whnf
        refine ⟨rfl, ?_⟩
        conv => whnf
        exact norm_wk (keep := [0, 1, 4, 5, 25]) (kb := []) (ρ := []) rfl
    conv => whnf
    rw [eqStr_self, q0]
    conv => whnf
    rw [wrp_i64 (x := k + 1) (by omega) (by omega)]
    exact ⟨xs.length - (k + 1).toNat, _, by omega, norm_wk (keep := [0, 1, 4, 5]) (kb := []) (ρ := []) rfl, ⟨k + 1, rfl, rfl, by omega, by omega⟩⟩
  · exact ⟨rfl, rfl⟩

set_option maxRecDepth 100000 in
theorem eqPieceS_ok (xs : List DPiece) (hl : xs.length ≤ 9223372036854775807) (ho : ∀ y ∈ xs, y.ok) :
    FnV Tryz.prog 282 [.rdv false [.sl true 2 (xs.map DPiece.c)], .rdv false [.sl true 2 (xs.map DPiece.c)]] fun rs outs => rs = [bR true] ∧ outs = [] := by
  refine fn_ok (E := Eneq) τ_ok mixed Tryz.func282 (by rfl) (by rfl) false (by simp [Tryz.f282]) ?_
  conv => whnf
  rw [eqI_self, q0]
  conv => whnf
  refine ⟨fun m s => ∃ (k : Int), s = ⟨[(0, .vals false [.rd none 2 (xs.map DPiece.c)]), (1, .vals false [.rd none 2 (xs.map DPiece.c)]), (4, .vals false [.sc (.bool false)]), (5, .vals false [.sc (.int .i64 k)])], [], []⟩ ∧ m = xs.length - k.toNat ∧ 0 ≤ k ∧ k ≤ xs.length,
    ⟨_, _, norm_wk (keep := [0, 1, 4, 5]) (kb := []) (ρ := []) rfl, ⟨0, rfl, rfl, by omega, by omega⟩⟩, ?_⟩
  rintro m _ ⟨k, rfl, rfl, k0, k1⟩
  conv => whnf
  refine br_if (fun h => ?_) (fun h => ?_) <;> (try rw [h]) <;> (conv => whnf)
  · rw [ltI_t, List.length_map] at h
    obtain ⟨x, hx⟩ : ∃ x, xs[k.toNat]? = some x := ⟨_, List.getElem?_eq_getElem (by omega)⟩
    have hm := List.mem_of_getElem? hx
    have hg : (xs.map DPiece.c)[k.toNat]? = some x.c := by
      rw [List.getElem?_map, hx]
      rfl
    refine ⟨.take 0 (.take 1 (.take 4 (.take 5 (.or 2 (.or 3 (.or 6 (.or 7 (.or 8 (.take 9 .done) .nil) .nil) .nil) (.or 6 (.or 3 (.or 7 (.or 8 (.take 9 .done) .nil) .nil) (.or 7 (.or 3 (.or 8 (.take 9 .done) .nil) .nil) .nil)) .nil)) (.or 6 (.or 2 (.or 3 (.or 7 (.or 8 (.take 9 .done) .nil) .nil) (.or 7 (.or 3 (.or 8 (.take 9 .done) .nil) .nil) .nil)) (.or 7 (.or 2 (.or 3 (.or 8 (.take 9 .done) .nil) .nil) .nil) .nil)) .nil))))), by rfl, ?_⟩
    apply Exists.intro
    refine ⟨?_, ?_⟩
    · conv => whnf
      refine ⟨?_, ?_⟩
      · conv => whnf
        refine ⟨by omega, _, hg, ?_⟩
        conv => whnf
        refine ⟨?_, ?_⟩
        · conv => whnf
          refine ⟨by omega, _, hg, ?_⟩
          conv => whnf
          refine (eqPiece_ok x (ho x hm)).mono ?_
          rintro _ _ ⟨rfl, rfl⟩
          conv => whnf
          exact norm_wk (keep := [0, 1, 4, 5, 26]) (kb := []) (ρ := []) rfl
        · conv => whnf
          refine ⟨by omega, _, hg, ?_⟩
          conv => whnf
          refine ⟨?_, ?_⟩
          · conv => whnf
            refine (eqPiece_ok x (ho x hm)).mono ?_
            rintro _ _ ⟨rfl, rfl⟩
            conv => whnf
            exact norm_wk (keep := [0, 1, 4, 5, 26]) (kb := []) (ρ := []) rfl
          · conv => whnf
            refine (eqPiece_ok x (ho x hm)).mono ?_
            rintro _ _ ⟨rfl, rfl⟩
            conv => whnf
            exact norm_wk (keep := [0, 1, 4, 5, 26]) (kb := []) (ρ := []) rfl
      · conv => whnf
        refine ⟨by omega, _, hg, ?_⟩
        conv => whnf
        refine ⟨?_, ?_⟩
        · conv => whnf
          refine ⟨by omega, _, hg, ?_⟩
          conv => whnf
          refine ⟨?_, ?_⟩
          · conv => whnf
            refine (eqPiece_ok x (ho x hm)).mono ?_
            rintro _ _ ⟨rfl, rfl⟩
            conv => whnf
            exact norm_wk (keep := [0, 1, 4, 5, 26]) (kb := []) (ρ := []) rfl
          · conv => whnf
            refine (eqPiece_ok x (ho x hm)).mono ?_
            rintro _ _ ⟨rfl, rfl⟩
            conv => whnf
            exact norm_wk (keep := [0, 1, 4, 5, 26]) (kb := []) (ρ := []) rfl
        · conv => whnf
          refine ⟨by omega, _, hg, ?_⟩
          conv => whnf
          refine (eqPiece_ok x (ho x hm)).mono ?_
          rintro _ _ ⟨rfl, rfl⟩
          conv => whnf
          exact norm_wk (keep := [0, 1, 4, 5, 26]) (kb := []) (ρ := []) rfl
    conv => whnf
    rw [q0]
    conv => whnf
    rw [wrp_i64 (x := k + 1) (by omega) (by omega)]
    exact ⟨xs.length - (k + 1).toNat, _, by omega, norm_wk (keep := [0, 1, 4, 5]) (kb := []) (ρ := []) rfl, ⟨k + 1, rfl, rfl, by omega, by omega⟩⟩
  · exact ⟨rfl, rfl⟩

set_option maxRecDepth 100000 in
theorem eqLink_ok (a : DLink) (ho : a.ok) : FnV Tryz.prog 217 [.rdv true a.c, .rdv true a.c] fun rs outs => rs = [bR true] ∧ outs = [] := by
  refine fn_ok (E := Eneq) τ_ok mixed Tryz.func217 (by rfl) (by rfl) false (by simp [Tryz.f217]) ?_
  obtain ⟨oSent, oAcked, oQueue, oGot, oHeld⟩ := ho
  conv => whnf
  rw [eqI_self, q0]
  conv => whnf
  rw [eqI_self, q0]
  conv => whnf
  refine (eqStringS_ok a.xQueue oQueue.1).mono ?_
  rintro _ _ ⟨rfl, rfl⟩
  conv => whnf
  rw [q0]
  conv => whnf
  rw [eqI_self, q0]
  conv => whnf
  refine (eqPieceS_ok a.xHeld oHeld.1 oHeld.2).mono ?_
  rintro _ _ ⟨rfl, rfl⟩
  conv => whnf
  rw [q0]
  conv => whnf
  exact ⟨rfl, rfl⟩

set_option maxRecDepth 100000 in
theorem eqProc_ok (a : DProc) (ho : a.ok) : FnV Tryz.prog 21 [.rdv true a.c, .rdv true a.c] fun rs outs => rs = [bR true] ∧ outs = [] := by
  refine fn_ok (E := Eneq) τ_ok mixed Tryz.func21 (by rfl) (by rfl) false (by simp [Tryz.f21]) ?_
  obtain ⟨oPid, oM, oBox, oOut⟩ := ho
  conv => whnf
  rw [eqI_self, q0]
  conv => whnf
  refine (eqMachine_ok a.xM oM).mono ?_
  rintro _ _ ⟨rfl, rfl⟩
  conv => whnf
  rw [q0]
  conv => whnf
  refine (eqStringS_ok a.xBox oBox.1).mono ?_
  rintro _ _ ⟨rfl, rfl⟩
  conv => whnf
  rw [q0]
  conv => whnf
  refine (eqStringS_ok a.xOut oOut.1).mono ?_
  rintro _ _ ⟨rfl, rfl⟩
  conv => whnf
  rw [q0]
  conv => whnf
  exact ⟨rfl, rfl⟩

set_option maxRecDepth 100000 in
theorem eqHome_ok (a : DHome) (ho : a.ok) : FnV Tryz.prog 216 [.rdv true a.c, .rdv true a.c] fun rs outs => rs = [bR true] ∧ outs = [] := by
  refine fn_ok (E := Eneq) τ_ok mixed Tryz.func216 (by rfl) (by rfl) false (by simp [Tryz.f216]) ?_
  obtain ⟨oAt, oP⟩ := ho
  conv => whnf
  rw [eqI_self, q0]
  conv => whnf
  refine (eqProc_ok a.xP oP).mono ?_
  rintro _ _ ⟨rfl, rfl⟩
  conv => whnf
  rw [q0]
  conv => whnf
  exact ⟨rfl, rfl⟩

set_option maxRecDepth 100000 in
theorem eqGram_ok (a : DGram) (ho : a.ok) : FnV Tryz.prog 218 [.rdv true a.c, .rdv true a.c] fun rs outs => rs = [bR true] ∧ outs = [] := by
  refine fn_ok (E := Eneq) τ_ok mixed Tryz.func218 (by rfl) (by rfl) false (by simp [Tryz.f218]) ?_
  obtain ⟨oKind, oFrom, oTo, oP⟩ := ho
  conv => whnf
  rw [eqI_self, q0]
  conv => whnf
  rw [eqI_self, q0]
  conv => whnf
  rw [eqI_self, q0]
  conv => whnf
  refine (eqPiece_ok a.xP oP).mono ?_
  rintro _ _ ⟨rfl, rfl⟩
  conv => whnf
  rw [q0]
  conv => whnf
  exact ⟨rfl, rfl⟩

set_option maxRecDepth 100000 in
theorem eqParked_ok (a : DParked) (ho : a.ok) : FnV Tryz.prog 219 [.rdv true a.c, .rdv true a.c] fun rs outs => rs = [bR true] ∧ outs = [] := by
  refine fn_ok (E := Eneq) τ_ok mixed Tryz.func219 (by rfl) (by rfl) false (by simp [Tryz.f219]) ?_
  obtain ⟨oAt, oTo, oText⟩ := ho
  conv => whnf
  rw [eqI_self, q0]
  conv => whnf
  rw [eqI_self, q0]
  conv => whnf
  rw [eqStr_self, q0]
  conv => whnf
  exact ⟨rfl, rfl⟩

set_option maxRecDepth 100000 in
theorem eqHomeS_ok (xs : List DHome) (hl : xs.length ≤ 9223372036854775807) (ho : ∀ y ∈ xs, y.ok) :
    FnV Tryz.prog 120 [.rdv false [.sl true 12 (xs.map DHome.c)], .rdv false [.sl true 12 (xs.map DHome.c)]] fun rs outs => rs = [bR true] ∧ outs = [] := by
  refine fn_ok (E := Eneq) τ_ok mixed Tryz.func120 (by rfl) (by rfl) false (by simp [Tryz.f120]) ?_
  conv => whnf
  rw [eqI_self, q0]
  conv => whnf
  refine ⟨fun m s => ∃ (k : Int), s = ⟨[(0, .vals false [.rd none 12 (xs.map DHome.c)]), (1, .vals false [.rd none 12 (xs.map DHome.c)]), (4, .vals false [.sc (.bool false)]), (5, .vals false [.sc (.int .i64 k)])], [], []⟩ ∧ m = xs.length - k.toNat ∧ 0 ≤ k ∧ k ≤ xs.length,
    ⟨_, _, norm_wk (keep := [0, 1, 4, 5]) (kb := []) (ρ := []) rfl, ⟨0, rfl, rfl, by omega, by omega⟩⟩, ?_⟩
  rintro m _ ⟨k, rfl, rfl, k0, k1⟩
  conv => whnf
  refine br_if (fun h => ?_) (fun h => ?_) <;> (try rw [h]) <;> (conv => whnf)
  · rw [ltI_t, List.length_map] at h
    obtain ⟨x, hx⟩ : ∃ x, xs[k.toNat]? = some x := ⟨_, List.getElem?_eq_getElem (by omega)⟩
    have hm := List.mem_of_getElem? hx
    have hg : (xs.map DHome.c)[k.toNat]? = some x.c := by
      rw [List.getElem?_map, hx]
      rfl
    refine ⟨.take 0 (.take 1 (.take 4 (.take 5 (.or 2 (.or 3 (.or 6 (.or 7 (.or 8 (.take 9 .done) .nil) .nil) .nil) (.or 6 (.or 3 (.or 7 (.or 8 (.take 9 .done) .nil) .nil) (.or 7 (.or 3 (.or 8 (.take 9 .done) .nil) .nil) .nil)) .nil)) (.or 6 (.or 2 (.or 3 (.or 7 (.or 8 (.take 9 .done) .nil) .nil) (.or 7 (.or 3 (.or 8 (.take 9 .done) .nil) .nil) .nil)) (.or 7 (.or 2 (.or 3 (.or 8 (.take 9 .done) .nil) .nil) .nil) .nil)) .nil))))), by rfl, ?_⟩
    apply Exists.intro
    refine ⟨?_, ?_⟩
    · conv => whnf
      refine ⟨?_, ?_⟩
      · conv => whnf
        refine ⟨by omega, _, hg, ?_⟩
        conv => whnf
        refine ⟨?_, ?_⟩
        · conv => whnf
          refine ⟨by omega, _, hg, ?_⟩
          conv => whnf
          refine (eqHome_ok x (ho x hm)).mono ?_
          rintro _ _ ⟨rfl, rfl⟩
          conv => whnf
          exact norm_wk (keep := [0, 1, 4, 5, 26]) (kb := []) (ρ := []) rfl
        · conv => whnf
          refine ⟨by omega, _, hg, ?_⟩
          conv => whnf
          refine ⟨?_, ?_⟩
          · conv => whnf
            refine (eqHome_ok x (ho x hm)).mono ?_
            rintro _ _ ⟨rfl, rfl⟩
            conv => whnf
            exact norm_wk (keep := [0, 1, 4, 5, 26]) (kb := []) (ρ := []) rfl
          · conv => whnf
            refine (eqHome_ok x (ho x hm)).mono ?_
            rintro _ _ ⟨rfl, rfl⟩
            conv => whnf
            exact norm_wk (keep := [0, 1, 4, 5, 26]) (kb := []) (ρ := []) rfl
      · conv => whnf
        refine ⟨by omega, _, hg, ?_⟩
        conv => whnf
        refine ⟨?_, ?_⟩
        · conv => whnf
          refine ⟨by omega, _, hg, ?_⟩
          conv => whnf
          refine ⟨?_, ?_⟩
          · conv => whnf
            refine (eqHome_ok x (ho x hm)).mono ?_
            rintro _ _ ⟨rfl, rfl⟩
            conv => whnf
            exact norm_wk (keep := [0, 1, 4, 5, 26]) (kb := []) (ρ := []) rfl
          · conv => whnf
            refine (eqHome_ok x (ho x hm)).mono ?_
            rintro _ _ ⟨rfl, rfl⟩
            conv => whnf
            exact norm_wk (keep := [0, 1, 4, 5, 26]) (kb := []) (ρ := []) rfl
        · conv => whnf
          refine ⟨by omega, _, hg, ?_⟩
          conv => whnf
          refine (eqHome_ok x (ho x hm)).mono ?_
          rintro _ _ ⟨rfl, rfl⟩
          conv => whnf
          exact norm_wk (keep := [0, 1, 4, 5, 26]) (kb := []) (ρ := []) rfl
    conv => whnf
    rw [q0]
    conv => whnf
    rw [wrp_i64 (x := k + 1) (by omega) (by omega)]
    exact ⟨xs.length - (k + 1).toNat, _, by omega, norm_wk (keep := [0, 1, 4, 5]) (kb := []) (ρ := []) rfl, ⟨k + 1, rfl, rfl, by omega, by omega⟩⟩
  · exact ⟨rfl, rfl⟩

set_option maxRecDepth 100000 in
theorem eqLinkS_ok (xs : List DLink) (hl : xs.length ≤ 9223372036854775807) (ho : ∀ y ∈ xs, y.ok) :
    FnV Tryz.prog 121 [.rdv false [.sl true 5 (xs.map DLink.c)], .rdv false [.sl true 5 (xs.map DLink.c)]] fun rs outs => rs = [bR true] ∧ outs = [] := by
  refine fn_ok (E := Eneq) τ_ok mixed Tryz.func121 (by rfl) (by rfl) false (by simp [Tryz.f121]) ?_
  conv => whnf
  rw [eqI_self, q0]
  conv => whnf
  refine ⟨fun m s => ∃ (k : Int), s = ⟨[(0, .vals false [.rd none 5 (xs.map DLink.c)]), (1, .vals false [.rd none 5 (xs.map DLink.c)]), (4, .vals false [.sc (.bool false)]), (5, .vals false [.sc (.int .i64 k)])], [], []⟩ ∧ m = xs.length - k.toNat ∧ 0 ≤ k ∧ k ≤ xs.length,
    ⟨_, _, norm_wk (keep := [0, 1, 4, 5]) (kb := []) (ρ := []) rfl, ⟨0, rfl, rfl, by omega, by omega⟩⟩, ?_⟩
  rintro m _ ⟨k, rfl, rfl, k0, k1⟩
  conv => whnf
  refine br_if (fun h => ?_) (fun h => ?_) <;> (try rw [h]) <;> (conv => whnf)
  · rw [ltI_t, List.length_map] at h
    obtain ⟨x, hx⟩ : ∃ x, xs[k.toNat]? = some x := ⟨_, List.getElem?_eq_getElem (by omega)⟩
    have hm := List.mem_of_getElem? hx
    have hg : (xs.map DLink.c)[k.toNat]? = some x.c := by
      rw [List.getElem?_map, hx]
      rfl
    refine ⟨.take 0 (.take 1 (.take 4 (.take 5 (.or 2 (.or 3 (.or 6 (.or 7 (.or 8 (.take 9 .done) .nil) .nil) .nil) (.or 6 (.or 3 (.or 7 (.or 8 (.take 9 .done) .nil) .nil) (.or 7 (.or 3 (.or 8 (.take 9 .done) .nil) .nil) .nil)) .nil)) (.or 6 (.or 2 (.or 3 (.or 7 (.or 8 (.take 9 .done) .nil) .nil) (.or 7 (.or 3 (.or 8 (.take 9 .done) .nil) .nil) .nil)) (.or 7 (.or 2 (.or 3 (.or 8 (.take 9 .done) .nil) .nil) .nil) .nil)) .nil))))), by rfl, ?_⟩
    apply Exists.intro
    refine ⟨?_, ?_⟩
    · conv => whnf
      refine ⟨?_, ?_⟩
      · conv => whnf
        refine ⟨by omega, _, hg, ?_⟩
        conv => whnf
        refine ⟨?_, ?_⟩
        · conv => whnf
          refine ⟨by omega, _, hg, ?_⟩
          conv => whnf
          refine (eqLink_ok x (ho x hm)).mono ?_
          rintro _ _ ⟨rfl, rfl⟩
          conv => whnf
          exact norm_wk (keep := [0, 1, 4, 5, 26]) (kb := []) (ρ := []) rfl
        · conv => whnf
          refine ⟨by omega, _, hg, ?_⟩
          conv => whnf
          refine ⟨?_, ?_⟩
          · conv => whnf
            refine (eqLink_ok x (ho x hm)).mono ?_
            rintro _ _ ⟨rfl, rfl⟩
            conv => whnf
            exact norm_wk (keep := [0, 1, 4, 5, 26]) (kb := []) (ρ := []) rfl
          · conv => whnf
            refine (eqLink_ok x (ho x hm)).mono ?_
            rintro _ _ ⟨rfl, rfl⟩
            conv => whnf
            exact norm_wk (keep := [0, 1, 4, 5, 26]) (kb := []) (ρ := []) rfl
      · conv => whnf
        refine ⟨by omega, _, hg, ?_⟩
        conv => whnf
        refine ⟨?_, ?_⟩
        · conv => whnf
          refine ⟨by omega, _, hg, ?_⟩
          conv => whnf
          refine ⟨?_, ?_⟩
          · conv => whnf
            refine (eqLink_ok x (ho x hm)).mono ?_
            rintro _ _ ⟨rfl, rfl⟩
            conv => whnf
            exact norm_wk (keep := [0, 1, 4, 5, 26]) (kb := []) (ρ := []) rfl
          · conv => whnf
            refine (eqLink_ok x (ho x hm)).mono ?_
            rintro _ _ ⟨rfl, rfl⟩
            conv => whnf
            exact norm_wk (keep := [0, 1, 4, 5, 26]) (kb := []) (ρ := []) rfl
        · conv => whnf
          refine ⟨by omega, _, hg, ?_⟩
          conv => whnf
          refine (eqLink_ok x (ho x hm)).mono ?_
          rintro _ _ ⟨rfl, rfl⟩
          conv => whnf
          exact norm_wk (keep := [0, 1, 4, 5, 26]) (kb := []) (ρ := []) rfl
    conv => whnf
    rw [q0]
    conv => whnf
    rw [wrp_i64 (x := k + 1) (by omega) (by omega)]
    exact ⟨xs.length - (k + 1).toNat, _, by omega, norm_wk (keep := [0, 1, 4, 5]) (kb := []) (ρ := []) rfl, ⟨k + 1, rfl, rfl, by omega, by omega⟩⟩
  · exact ⟨rfl, rfl⟩

set_option maxRecDepth 100000 in
theorem eqGramS_ok (xs : List DGram) (hl : xs.length ≤ 9223372036854775807) (ho : ∀ y ∈ xs, y.ok) :
    FnV Tryz.prog 122 [.rdv false [.sl true 5 (xs.map DGram.c)], .rdv false [.sl true 5 (xs.map DGram.c)]] fun rs outs => rs = [bR true] ∧ outs = [] := by
  refine fn_ok (E := Eneq) τ_ok mixed Tryz.func122 (by rfl) (by rfl) false (by simp [Tryz.f122]) ?_
  conv => whnf
  rw [eqI_self, q0]
  conv => whnf
  refine ⟨fun m s => ∃ (k : Int), s = ⟨[(0, .vals false [.rd none 5 (xs.map DGram.c)]), (1, .vals false [.rd none 5 (xs.map DGram.c)]), (4, .vals false [.sc (.bool false)]), (5, .vals false [.sc (.int .i64 k)])], [], []⟩ ∧ m = xs.length - k.toNat ∧ 0 ≤ k ∧ k ≤ xs.length,
    ⟨_, _, norm_wk (keep := [0, 1, 4, 5]) (kb := []) (ρ := []) rfl, ⟨0, rfl, rfl, by omega, by omega⟩⟩, ?_⟩
  rintro m _ ⟨k, rfl, rfl, k0, k1⟩
  conv => whnf
  refine br_if (fun h => ?_) (fun h => ?_) <;> (try rw [h]) <;> (conv => whnf)
  · rw [ltI_t, List.length_map] at h
    obtain ⟨x, hx⟩ : ∃ x, xs[k.toNat]? = some x := ⟨_, List.getElem?_eq_getElem (by omega)⟩
    have hm := List.mem_of_getElem? hx
    have hg : (xs.map DGram.c)[k.toNat]? = some x.c := by
      rw [List.getElem?_map, hx]
      rfl
    refine ⟨.take 0 (.take 1 (.take 4 (.take 5 (.or 2 (.or 3 (.or 6 (.or 7 (.or 8 (.take 9 .done) .nil) .nil) .nil) (.or 6 (.or 3 (.or 7 (.or 8 (.take 9 .done) .nil) .nil) (.or 7 (.or 3 (.or 8 (.take 9 .done) .nil) .nil) .nil)) .nil)) (.or 6 (.or 2 (.or 3 (.or 7 (.or 8 (.take 9 .done) .nil) .nil) (.or 7 (.or 3 (.or 8 (.take 9 .done) .nil) .nil) .nil)) (.or 7 (.or 2 (.or 3 (.or 8 (.take 9 .done) .nil) .nil) .nil) .nil)) .nil))))), by rfl, ?_⟩
    apply Exists.intro
    refine ⟨?_, ?_⟩
    · conv => whnf
      refine ⟨?_, ?_⟩
      · conv => whnf
        refine ⟨by omega, _, hg, ?_⟩
        conv => whnf
        refine ⟨?_, ?_⟩
        · conv => whnf
          refine ⟨by omega, _, hg, ?_⟩
          conv => whnf
          refine (eqGram_ok x (ho x hm)).mono ?_
          rintro _ _ ⟨rfl, rfl⟩
          conv => whnf
          exact norm_wk (keep := [0, 1, 4, 5, 26]) (kb := []) (ρ := []) rfl
        · conv => whnf
          refine ⟨by omega, _, hg, ?_⟩
          conv => whnf
          refine ⟨?_, ?_⟩
          · conv => whnf
            refine (eqGram_ok x (ho x hm)).mono ?_
            rintro _ _ ⟨rfl, rfl⟩
            conv => whnf
            exact norm_wk (keep := [0, 1, 4, 5, 26]) (kb := []) (ρ := []) rfl
          · conv => whnf
            refine (eqGram_ok x (ho x hm)).mono ?_
            rintro _ _ ⟨rfl, rfl⟩
            conv => whnf
            exact norm_wk (keep := [0, 1, 4, 5, 26]) (kb := []) (ρ := []) rfl
      · conv => whnf
        refine ⟨by omega, _, hg, ?_⟩
        conv => whnf
        refine ⟨?_, ?_⟩
        · conv => whnf
          refine ⟨by omega, _, hg, ?_⟩
          conv => whnf
          refine ⟨?_, ?_⟩
          · conv => whnf
            refine (eqGram_ok x (ho x hm)).mono ?_
            rintro _ _ ⟨rfl, rfl⟩
            conv => whnf
            exact norm_wk (keep := [0, 1, 4, 5, 26]) (kb := []) (ρ := []) rfl
          · conv => whnf
            refine (eqGram_ok x (ho x hm)).mono ?_
            rintro _ _ ⟨rfl, rfl⟩
            conv => whnf
            exact norm_wk (keep := [0, 1, 4, 5, 26]) (kb := []) (ρ := []) rfl
        · conv => whnf
          refine ⟨by omega, _, hg, ?_⟩
          conv => whnf
          refine (eqGram_ok x (ho x hm)).mono ?_
          rintro _ _ ⟨rfl, rfl⟩
          conv => whnf
          exact norm_wk (keep := [0, 1, 4, 5, 26]) (kb := []) (ρ := []) rfl
    conv => whnf
    rw [q0]
    conv => whnf
    rw [wrp_i64 (x := k + 1) (by omega) (by omega)]
    exact ⟨xs.length - (k + 1).toNat, _, by omega, norm_wk (keep := [0, 1, 4, 5]) (kb := []) (ρ := []) rfl, ⟨k + 1, rfl, rfl, by omega, by omega⟩⟩
  · exact ⟨rfl, rfl⟩

set_option maxRecDepth 100000 in
theorem eqParkedS_ok (xs : List DParked) (hl : xs.length ≤ 9223372036854775807) (ho : ∀ y ∈ xs, y.ok) :
    FnV Tryz.prog 123 [.rdv false [.sl true 3 (xs.map DParked.c)], .rdv false [.sl true 3 (xs.map DParked.c)]] fun rs outs => rs = [bR true] ∧ outs = [] := by
  refine fn_ok (E := Eneq) τ_ok mixed Tryz.func123 (by rfl) (by rfl) false (by simp [Tryz.f123]) ?_
  conv => whnf
  rw [eqI_self, q0]
  conv => whnf
  refine ⟨fun m s => ∃ (k : Int), s = ⟨[(0, .vals false [.rd none 3 (xs.map DParked.c)]), (1, .vals false [.rd none 3 (xs.map DParked.c)]), (4, .vals false [.sc (.bool false)]), (5, .vals false [.sc (.int .i64 k)])], [], []⟩ ∧ m = xs.length - k.toNat ∧ 0 ≤ k ∧ k ≤ xs.length,
    ⟨_, _, norm_wk (keep := [0, 1, 4, 5]) (kb := []) (ρ := []) rfl, ⟨0, rfl, rfl, by omega, by omega⟩⟩, ?_⟩
  rintro m _ ⟨k, rfl, rfl, k0, k1⟩
  conv => whnf
  refine br_if (fun h => ?_) (fun h => ?_) <;> (try rw [h]) <;> (conv => whnf)
  · rw [ltI_t, List.length_map] at h
    obtain ⟨x, hx⟩ : ∃ x, xs[k.toNat]? = some x := ⟨_, List.getElem?_eq_getElem (by omega)⟩
    have hm := List.mem_of_getElem? hx
    have hg : (xs.map DParked.c)[k.toNat]? = some x.c := by
      rw [List.getElem?_map, hx]
      rfl
    refine ⟨.take 0 (.take 1 (.take 4 (.take 5 (.or 2 (.or 3 (.or 6 (.or 7 (.or 8 (.take 9 .done) .nil) .nil) .nil) (.or 6 (.or 3 (.or 7 (.or 8 (.take 9 .done) .nil) .nil) (.or 7 (.or 3 (.or 8 (.take 9 .done) .nil) .nil) .nil)) .nil)) (.or 6 (.or 2 (.or 3 (.or 7 (.or 8 (.take 9 .done) .nil) .nil) (.or 7 (.or 3 (.or 8 (.take 9 .done) .nil) .nil) .nil)) (.or 7 (.or 2 (.or 3 (.or 8 (.take 9 .done) .nil) .nil) .nil) .nil)) .nil))))), by rfl, ?_⟩
    apply Exists.intro
    refine ⟨?_, ?_⟩
    · conv => whnf
      refine ⟨?_, ?_⟩
      · conv => whnf
        refine ⟨by omega, _, hg, ?_⟩
        conv => whnf
        refine ⟨?_, ?_⟩
        · conv => whnf
          refine ⟨by omega, _, hg, ?_⟩
          conv => whnf
          refine (eqParked_ok x (ho x hm)).mono ?_
          rintro _ _ ⟨rfl, rfl⟩
          conv => whnf
          exact norm_wk (keep := [0, 1, 4, 5, 26]) (kb := []) (ρ := []) rfl
        · conv => whnf
          refine ⟨by omega, _, hg, ?_⟩
          conv => whnf
          refine ⟨?_, ?_⟩
          · conv => whnf
            refine (eqParked_ok x (ho x hm)).mono ?_
            rintro _ _ ⟨rfl, rfl⟩
            conv => whnf
            exact norm_wk (keep := [0, 1, 4, 5, 26]) (kb := []) (ρ := []) rfl
          · conv => whnf
            refine (eqParked_ok x (ho x hm)).mono ?_
            rintro _ _ ⟨rfl, rfl⟩
            conv => whnf
            exact norm_wk (keep := [0, 1, 4, 5, 26]) (kb := []) (ρ := []) rfl
      · conv => whnf
        refine ⟨by omega, _, hg, ?_⟩
        conv => whnf
        refine ⟨?_, ?_⟩
        · conv => whnf
          refine ⟨by omega, _, hg, ?_⟩
          conv => whnf
          refine ⟨?_, ?_⟩
          · conv => whnf
            refine (eqParked_ok x (ho x hm)).mono ?_
            rintro _ _ ⟨rfl, rfl⟩
            conv => whnf
            exact norm_wk (keep := [0, 1, 4, 5, 26]) (kb := []) (ρ := []) rfl
          · conv => whnf
            refine (eqParked_ok x (ho x hm)).mono ?_
            rintro _ _ ⟨rfl, rfl⟩
            conv => whnf
            exact norm_wk (keep := [0, 1, 4, 5, 26]) (kb := []) (ρ := []) rfl
        · conv => whnf
          refine ⟨by omega, _, hg, ?_⟩
          conv => whnf
          refine (eqParked_ok x (ho x hm)).mono ?_
          rintro _ _ ⟨rfl, rfl⟩
          conv => whnf
          exact norm_wk (keep := [0, 1, 4, 5, 26]) (kb := []) (ρ := []) rfl
    conv => whnf
    rw [q0]
    conv => whnf
    rw [wrp_i64 (x := k + 1) (by omega) (by omega)]
    exact ⟨xs.length - (k + 1).toNat, _, by omega, norm_wk (keep := [0, 1, 4, 5]) (kb := []) (ρ := []) rfl, ⟨k + 1, rfl, rfl, by omega, by omega⟩⟩
  · exact ⟨rfl, rfl⟩

set_option maxRecDepth 100000 in
theorem eqStringSS_ok (xs : List (List ByteArray)) (hl : xs.length ≤ 9223372036854775807) (ho : ∀ l ∈ xs, l.length ≤ 9223372036854775807 ∧ ∀ y ∈ l, y.size ≤ 9223372036854775807) :
    FnV Tryz.prog 124 [.rdv false [.sl true 1 (sssC xs)], .rdv false [.sl true 1 (sssC xs)]] fun rs outs => rs = [bR true] ∧ outs = [] := by
  refine fn_ok (E := Eneq) τ_ok mixed Tryz.func124 (by rfl) (by rfl) false (by simp [Tryz.f124]) ?_
  conv => whnf
  rw [eqI_self, q0]
  conv => whnf
  refine ⟨fun m s => ∃ (k : Int), s = ⟨[(0, .vals false [.rd none 1 (sssC xs)]), (1, .vals false [.rd none 1 (sssC xs)]), (4, .vals false [.sc (.bool false)]), (5, .vals false [.sc (.int .i64 k)])], [], []⟩ ∧ m = xs.length - k.toNat ∧ 0 ≤ k ∧ k ≤ xs.length,
    ⟨_, _, norm_wk (keep := [0, 1, 4, 5]) (kb := []) (ρ := []) rfl, ⟨0, rfl, rfl, by omega, by omega⟩⟩, ?_⟩
  rintro m _ ⟨k, rfl, rfl, k0, k1⟩
  conv => whnf
  refine br_if (fun h => ?_) (fun h => ?_) <;> (try rw [h]) <;> (conv => whnf)
  · rw [ltI_t, List.length_map] at h
    obtain ⟨x, hx⟩ : ∃ x, xs[k.toNat]? = some x := ⟨_, List.getElem?_eq_getElem (by omega)⟩
    have hm := List.mem_of_getElem? hx
    have hg : (sssC xs)[k.toNat]? = some [.sl true 1 (ssC x)] := by
      rw [List.getElem?_map, hx]
      rfl
    refine ⟨.take 0 (.take 1 (.take 4 (.take 5 (.or 2 (.or 3 (.or 6 (.or 7 (.or 8 (.take 9 .done) .nil) .nil) .nil) (.or 6 (.or 3 (.or 7 (.or 8 (.take 9 .done) .nil) .nil) (.or 7 (.or 3 (.or 8 (.take 9 .done) .nil) .nil) .nil)) .nil)) (.or 6 (.or 2 (.or 3 (.or 7 (.or 8 (.take 9 .done) .nil) .nil) (.or 7 (.or 3 (.or 8 (.take 9 .done) .nil) .nil) .nil)) (.or 7 (.or 2 (.or 3 (.or 8 (.take 9 .done) .nil) .nil) .nil) .nil)) .nil))))), by rfl, ?_⟩
    apply Exists.intro
    refine ⟨?_, ?_⟩
    · conv => whnf
      refine ⟨?_, ?_⟩
      · conv => whnf
        refine ⟨by omega, _, hg, ?_⟩
        conv => whnf
        refine ⟨?_, ?_⟩
        · conv => whnf
          refine ⟨by omega, _, hg, ?_⟩
          conv => whnf
          refine (eqStringS_ok x (ho x hm).1).mono ?_
          rintro _ _ ⟨rfl, rfl⟩
          conv => whnf
          exact norm_wk (keep := [0, 1, 4, 5, 26]) (kb := []) (ρ := []) rfl
        · conv => whnf
          refine ⟨by omega, _, hg, ?_⟩
          conv => whnf
          refine ⟨?_, ?_⟩
          · conv => whnf
            refine (eqStringS_ok x (ho x hm).1).mono ?_
            rintro _ _ ⟨rfl, rfl⟩
            conv => whnf
            exact norm_wk (keep := [0, 1, 4, 5, 26]) (kb := []) (ρ := []) rfl
          · conv => whnf
            refine (eqStringS_ok x (ho x hm).1).mono ?_
            rintro _ _ ⟨rfl, rfl⟩
            conv => whnf
            exact norm_wk (keep := [0, 1, 4, 5, 26]) (kb := []) (ρ := []) rfl
      · conv => whnf
        refine ⟨by omega, _, hg, ?_⟩
        conv => whnf
        refine ⟨?_, ?_⟩
        · conv => whnf
          refine ⟨by omega, _, hg, ?_⟩
          conv => whnf
          refine ⟨?_, ?_⟩
          · conv => whnf
            refine (eqStringS_ok x (ho x hm).1).mono ?_
            rintro _ _ ⟨rfl, rfl⟩
            conv => whnf
            exact norm_wk (keep := [0, 1, 4, 5, 26]) (kb := []) (ρ := []) rfl
          · conv => whnf
            refine (eqStringS_ok x (ho x hm).1).mono ?_
            rintro _ _ ⟨rfl, rfl⟩
            conv => whnf
            exact norm_wk (keep := [0, 1, 4, 5, 26]) (kb := []) (ρ := []) rfl
        · conv => whnf
          refine ⟨by omega, _, hg, ?_⟩
          conv => whnf
          refine (eqStringS_ok x (ho x hm).1).mono ?_
          rintro _ _ ⟨rfl, rfl⟩
          conv => whnf
          exact norm_wk (keep := [0, 1, 4, 5, 26]) (kb := []) (ρ := []) rfl
    conv => whnf
    rw [q0]
    conv => whnf
    rw [wrp_i64 (x := k + 1) (by omega) (by omega)]
    exact ⟨xs.length - (k + 1).toNat, _, by omega, norm_wk (keep := [0, 1, 4, 5]) (kb := []) (ρ := []) rfl, ⟨k + 1, rfl, rfl, by omega, by omega⟩⟩
  · exact ⟨rfl, rfl⟩

set_option maxRecDepth 100000 in
theorem eqWorld_ok (a : DWorld) (ho : a.ok) : FnV Tryz.prog 30 [.rdv true a.c, .rdv true a.c] fun rs outs => rs = [bR true] ∧ outs = [] := by
  refine fn_ok (E := Eneq) τ_ok mixed Tryz.func30 (by rfl) (by rfl) false (by simp [Tryz.f30]) ?_
  obtain ⟨oCode, oPlaces, oHomes, oLinks, oGrams, oParked, oNext, oGave, oTook⟩ := ho
  conv => whnf
  refine (eqCode_ok a.xCode oCode).mono ?_
  rintro _ _ ⟨rfl, rfl⟩
  conv => whnf
  rw [q0]
  conv => whnf
  rw [eqI_self, q0]
  conv => whnf
  refine (eqHomeS_ok a.xHomes oHomes.1 oHomes.2).mono ?_
  rintro _ _ ⟨rfl, rfl⟩
  conv => whnf
  rw [q0]
  conv => whnf
  refine (eqLinkS_ok a.xLinks oLinks.1 oLinks.2).mono ?_
  rintro _ _ ⟨rfl, rfl⟩
  conv => whnf
  rw [q0]
  conv => whnf
  refine (eqGramS_ok a.xGrams oGrams.1 oGrams.2).mono ?_
  rintro _ _ ⟨rfl, rfl⟩
  conv => whnf
  rw [q0]
  conv => whnf
  refine (eqParkedS_ok a.xParked oParked.1 oParked.2).mono ?_
  rintro _ _ ⟨rfl, rfl⟩
  conv => whnf
  rw [q0]
  conv => whnf
  rw [eqI_self, q0]
  conv => whnf
  refine (eqStringSS_ok a.xGave oGave.1 oGave.2).mono ?_
  rintro _ _ ⟨rfl, rfl⟩
  conv => whnf
  rw [q0]
  conv => whnf
  refine (eqStringSS_ok a.xTook oTook.1 oTook.2).mono ?_
  rintro _ _ ⟨rfl, rfl⟩
  conv => whnf
  rw [q0]
  conv => whnf
  exact ⟨rfl, rfl⟩

end Go.Proofs.YtcaonpncopfeoaaGreat.V
