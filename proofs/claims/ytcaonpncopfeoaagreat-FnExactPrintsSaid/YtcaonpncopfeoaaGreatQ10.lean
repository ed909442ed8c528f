/- What roots hang on: reach. -/
import Derived.Test.YtcaonpncopfeoaaGreatQ9
set_option linter.unusedVariables false
set_option linter.unusedSimpArgs false
namespace Go.Proofs.YtcaonpncopfeoaaGreat.V
open Go

def MdE10 (f : Nat) : List Mode :=
  match f with
  | _ => []
def E10 : Env := ⟨τ, MdE10⟩

@[reducible] def bbC (v : List Bool) : List (List C) := v.map fun b => [.sc (.bool b)]
@[reducible] def nnC (v : List Int) : List (List C) := v.map fun b => [.sc (.int .i64 b)]
@[reducible] def nnV (v : List Int) : AV := .rdv false [.sl true 1 (nnC v)]
@[reducible] def bbR (v : List Bool) : RV := ⟨false, [.own true 1 (bbC v)]⟩
def mkB (v : List Bool) (i : Int) : List Bool := v.set i.toNat true
def stepR (l : List DNode) (v : List Bool) (i : Nat) : List Bool :=
  match l[i]? with
  | none => v
  | some x => if v[i]? = some true then (if x.xKind = 5 then mkB (mkB v x.xA) x.xB else if x.xKind = 6 ∨ x.xKind = 7 then mkB v x.xA else v) else v
def reachD (l : List DNode) (v : List Bool) : Nat → List Bool
  | 0 => v
  | k + 1 => reachD l (stepR l v k) k
def reachL (l : List DNode) (roots : List Int) : List Bool := reachD l (roots.foldl mkB (List.replicate l.length false)) l.length

theorem mkB_len (v : List Bool) (i : Int) : (mkB v i).length = v.length := by simp [mkB]
theorem foldB_len (r : List Int) : ∀ v : List Bool, (r.foldl mkB v).length = v.length := by
  induction r with
  | nil => exact fun _ => rfl
  | cons x r ih => intro v; rw [List.foldl_cons, ih, mkB_len]
theorem stepR_len (l : List DNode) (v : List Bool) (i : Nat) : (stepR l v i).length = v.length := by
  unfold stepR
  split
  · rfl
  · split
    · split
      · rw [mkB_len, mkB_len]
      · split
        · rw [mkB_len]
        · rfl
    · rfl

theorem bbC_at {v : List Bool} {i : Int} (h0 : 0 ≤ i) (h1 : i < v.length) : ∃ b, v[i.toNat]? = some b ∧ (bbC v)[i.toNat]? = some [.sc (.bool b)] := by
  refine ⟨v[i.toNat], List.getElem?_eq_getElem (by omega), ?_⟩
  rw [List.getElem?_map, List.getElem?_eq_getElem (by omega)]
  rfl
theorem bbC_set (v : List Bool) (i : Int) : (bbC v).set i.toNat [.sc (.bool true)] = bbC (mkB v i) := by
  rw [mkB, bbC, bbC, List.map_set]
theorem reachD_step (l : List DNode) (v : List Bool) (k : Int) (h : 0 ≤ k) : reachD l v (k + 1).toNat = reachD l (stepR l v k.toNat) k.toNat := by
  rw [show (k + 1).toNat = k.toNat + 1 by omega]
  rfl
theorem step_off {l : List DNode} {v : List Bool} {i : Nat} {x : DNode} (hx : l[i]? = some x) (hv : v[i]? = some false) : stepR l v i = v := by
  simp [stepR, hx, hv]
theorem step_5 {l : List DNode} {v : List Bool} {i : Nat} {x : DNode} (hx : l[i]? = some x) (hv : v[i]? = some true) (hk : x.xKind = 5) : stepR l v i = mkB (mkB v x.xA) x.xB := by
  simp [stepR, hx, hv, hk]
theorem step_67 {l : List DNode} {v : List Bool} {i : Nat} {x : DNode} (hx : l[i]? = some x) (hv : v[i]? = some true) (hk : x.xKind = 6 ∨ x.xKind = 7) : stepR l v i = mkB v x.xA := by
  rcases hk with hk | hk <;> simp [stepR, hx, hv, hk]
theorem step_o {l : List DNode} {v : List Bool} {i : Nat} {x : DNode} (hx : l[i]? = some x) (h5 : x.xKind ≠ 5) (h6 : x.xKind ≠ 6) (h7 : x.xKind ≠ 7) : stepR l v i = v := by
  simp [stepR, hx, h5, h6, h7]
theorem kids_5 {l : List DNode} (hp : poolOk l = true) {i : Nat} {x : DNode} (hx : l[i]? = some x) (hk : x.xKind = 5) : (0 ≤ x.xA ∧ x.xA < i) ∧ 0 ≤ x.xB ∧ x.xB < i := by
  have := (node_k5 hk).1 ((poolOk_t.1 hp).2 i x hx)
  omega
theorem kids_67 {l : List DNode} (hp : poolOk l = true) {i : Nat} {x : DNode} (hx : l[i]? = some x) (hk : x.xKind = 6 ∨ x.xKind = 7) : 0 ≤ x.xA ∧ x.xA < i := by
  rcases hk with hk | hk
  · have := (node_k6 hk).1 ((poolOk_t.1 hp).2 i x hx)
    omega
  · have := (node_k7 hk).1 ((poolOk_t.1 hp).2 i x hx)
    omega

theorem reachD_len (l : List DNode) : ∀ (k : Nat) (v : List Bool), (reachD l v k).length = v.length
  | 0, _ => rfl
  | k + 1, v => by
    show (reachD l (stepR l v k) k).length = v.length
    rw [reachD_len l k, stepR_len]
theorem reachL_len (l : List DNode) (roots : List Int) : (reachL l roots).length = l.length := by
  rw [reachL, reachD_len, foldB_len, List.length_replicate]

set_option maxRecDepth 100000 in
set_option maxHeartbeats 1000000 in
theorem s_l7Reach_ok (p : DPool) (roots : List Int) (hl : p.xNodes.length ≤ 1000000) (hp : poolOk p.xNodes = true) (hr : roots.length ≤ 1000000) (hR : ∀ r ∈ roots, Has p r) :
    FnV Tryz.prog 370 [pV p, nnV roots] fun rs outs => rs = [bbR (reachL p.xNodes roots)] ∧ outs = [] := by
  refine fn_ok (E := E10) τ_ok mixed Tryz.func370 (by rfl) (by rfl) false (by simp [Tryz.f370]) ?_
  have hrep : List.replicate (((p.xNodes.map DNode.c).length : Int)).toNat (List.map zC d4.zero) = bbC (List.replicate p.xNodes.length false) := by
    rw [List.length_map, Int.toNat_natCast, bbC, List.map_replicate]
    rfl
  have hnl : (p.xNodes.map DNode.c).length = p.xNodes.length := List.length_map ..
  have hrl : (nnC roots).length = roots.length := List.length_map ..
  conv => whnf
  refine ⟨by omega, rfl, by rw [hnl]; simp only [d4]; omega, by omega, ?_⟩
  rw [hrep]
  conv => whnf
  refine ⟨fun m s => ∃ (k : Int), s = ⟨[(1, .vals false [.rd none 1 (nnC roots)]), (2, .bptr 2 0 0), (5, .vals false [.ref 100 0]), (6, .vals false [.sc (.int .i64 k)])], [(2, ⟨0, [.rd none 5 (p.xNodes.map DNode.c)]⟩)], [(100, ⟨true, 0, 0, true, 1, bbC ((roots.take k.toNat).foldl mkB (List.replicate p.xNodes.length false))⟩)]⟩ ∧ m = roots.length - k.toNat ∧ 0 ≤ k ∧ k ≤ roots.length,
    ⟨_, _, norm_wk (keep := [1, 2, 5, 6]) (kb := [2]) (ρ := [(12, some 100)]) rfl, ⟨0, rfl, rfl, by omega, by omega⟩⟩, ?_⟩
  rintro m _ ⟨k, rfl, rfl, k0, k1⟩
  conv => whnf
  refine br_if (fun h => ?_) (fun h => ?_) <;> (try rw [h]) <;> (conv => whnf)
  · rw [ltI_t] at h
    obtain ⟨r, hx⟩ : ∃ x, roots[k.toNat]? = some x := ⟨_, List.getElem?_eq_getElem (by omega)⟩
    refine ⟨by omega, _, by rw [List.getElem?_map, hx]; rfl, ?_⟩
    conv => whnf
    have hH := hR r (List.mem_of_getElem? hx)
    have hvl : (bbC ((roots.take k.toNat).foldl mkB (List.replicate p.xNodes.length false))).length = p.xNodes.length := by rw [bbC, List.length_map, foldB_len, List.length_replicate]
    refine ⟨hH.1, by rw [hvl]; exact hH.2, ?_⟩
    conv => whnf
    obtain ⟨b, -, hat⟩ := bbC_at (v := (roots.take k.toNat).foldl mkB (List.replicate p.xNodes.length false)) hH.1 (by rw [foldB_len, List.length_replicate]; exact hH.2)
    refine ⟨_, hat, ?_⟩
    conv => whnf
    rw [wrp_i64 (x := k + 1) (by omega) (by omega)]
    refine ⟨roots.length - (k + 1).toNat, _, by omega, norm_wk (keep := [1, 2, 5, 6]) (kb := [2]) (ρ := [(100, some 100)]) rfl, ⟨k + 1, ?_, rfl, by omega, by omega⟩⟩
    rw [show (k + 1).toNat = k.toNat + 1 by omega, List.take_add_one, hx, List.foldl_append]
    generalize (roots.take k.toNat).foldl mkB (List.replicate p.xNodes.length false) = v
    rw [show List.foldl mkB v (some r).toList = mkB v r from rfl, ← bbC_set]
    rfl
  rw [ltI_f] at h
  rw [List.take_of_length_le (by omega)]
  rw [hnl, wrp_i64 (by omega) (by omega)]
  refine ⟨fun m s => ∃ (k : Int) (v : List Bool), s = ⟨[(2, .bptr 2 0 0), (5, .vals false [.ref 100 0]), (7, .vals false [.sc (.int .i64 k)])], [(2, ⟨0, [.rd none 5 (p.xNodes.map DNode.c)]⟩)], [(100, ⟨true, 0, 0, true, 1, bbC v⟩)]⟩ ∧ m = (k + 1).toNat ∧ -1 ≤ k ∧ k < p.xNodes.length ∧ v.length = p.xNodes.length ∧ reachD p.xNodes v (k + 1).toNat = reachL p.xNodes roots,
    ⟨_, _, norm_wk (keep := [2, 5, 7]) (kb := [2]) (ρ := [(100, some 100)]) rfl, ⟨p.xNodes.length - 1, _, rfl, rfl, by omega, by omega, by rw [foldB_len, List.length_replicate], ?_⟩⟩, ?_⟩
  · rw [show ((p.xNodes.length : Int) - 1 + 1).toNat = p.xNodes.length by omega]
    rfl
  clear k0 k1 h k
  rintro m _ ⟨k, v, rfl, rfl, k0, k1, hv, hk⟩
  conv => whnf
  refine br_if (fun h => ?_) (fun h => ?_) <;> (try rw [h]) <;> (conv => whnf)
  · rw [leI_t] at h
    rw [reachD_step _ _ _ h] at hk
    obtain ⟨x, hx⟩ : ∃ x, p.xNodes[k.toNat]? = some x := ⟨_, List.getElem?_eq_getElem (by omega)⟩
    obtain ⟨b, hvb, hat⟩ := bbC_at (v := v) h (by omega)
    have hvl : (bbC v).length = p.xNodes.length := by rw [bbC, List.length_map, hv]
    refine ⟨h, _, by rw [List.getElem?_map, hx]; rfl, ?_⟩
    conv => whnf
    refine ⟨h, by rw [hvl]; omega, ?_⟩
    conv => whnf
    refine ⟨_, hat, ?_⟩
    conv => whnf
    have hm : ∀ j : Int, (bbC (mkB v j)).length = p.xNodes.length := fun j => by rw [bbC, List.length_map, mkB_len, hv]
    have fin : ∀ v' : List Bool, stepR p.xNodes v k.toNat = v' → v'.length = p.xNodes.length ∧ reachD p.xNodes v' ((k - 1) + 1).toNat = reachL p.xNodes roots := fun v' e => by
      rw [← e, stepR_len, show (k - 1 + 1).toNat = k.toNat by omega]
      exact ⟨hv, hk⟩
    have wk : wrp .i64 (k - 1) = k - 1 := wrp_i64 (by omega) (by omega)
    refine br_if (fun h2 => ?_) (fun h2 => ?_) <;> (try rw [h2]) <;> (conv => whnf)
    · rw [notB_t] at h2
      subst h2
      obtain ⟨f1, f2⟩ := fin v (step_off hx hvb)
      rw [wk]
      exact ⟨(k - 1 + 1).toNat, _, by omega, norm_wk (keep := [2, 5, 7]) (kb := [2]) (ρ := [(100, some 100)]) rfl, ⟨k - 1, v, rfl, rfl, by omega, by omega, f1, f2⟩⟩
    rw [notB_f] at h2
    subst h2
    refine br_if (fun h5 => ?_) (fun h5 => ?_) <;> (try rw [h5]) <;> (conv => whnf)
    · rw [eqI_t] at h5
      obtain ⟨⟨a0, a1⟩, b0, b1⟩ := kids_5 hp hx h5
      obtain ⟨ba, -, hata⟩ := bbC_at (v := v) a0 (by omega)
      obtain ⟨bb, -, hatb⟩ := bbC_at (v := mkB v x.xA) b0 (by rw [mkB_len]; omega)
      refine ⟨a0, by rw [hvl]; omega, ?_⟩
      conv => whnf
      refine ⟨_, hata, ?_⟩
      conv => whnf
      refine ⟨b0, ?_, ?_⟩
      · show x.xB < (((bbC v).set x.xA.toNat [.sc (.bool true)]).length : Int)
        rw [bbC_set, hm]
        omega
      conv => whnf
      refine ⟨_, (show ((bbC v).set x.xA.toNat [.sc (.bool true)])[x.xB.toNat]? = some _ from by rw [bbC_set]; exact hatb), ?_⟩
      conv => whnf
      obtain ⟨f1, f2⟩ := fin _ (step_5 hx hvb h5)
      rw [wk]
      exact ⟨(k - 1 + 1).toNat, _, by omega, norm_wk (keep := [2, 5, 7]) (kb := [2]) (ρ := [(100, some 100)]) rfl, ⟨k - 1, _, by rw [← bbC_set, ← bbC_set]; rfl, rfl, by omega, by omega, f1, f2⟩⟩
    rw [eqI_f] at h5
    have one : ∀ (h67 : x.xKind = 6 ∨ x.xKind = 7), True := fun _ => trivial
    refine br_if (fun h6 => ?_) (fun h6 => ?_) <;> (try rw [h6]) <;> (conv => whnf)
    · rw [eqI_t] at h6
      obtain ⟨a0, a1⟩ := kids_67 hp hx (.inl h6)
      obtain ⟨ba, -, hata⟩ := bbC_at (v := v) a0 (by omega)
      refine ⟨a0, by rw [hvl]; omega, ?_⟩
      conv => whnf
      refine ⟨_, hata, ?_⟩
      conv => whnf
      obtain ⟨f1, f2⟩ := fin _ (step_67 hx hvb (.inl h6))
      rw [wk]
      exact ⟨(k - 1 + 1).toNat, _, by omega, norm_wk (keep := [2, 5, 7]) (kb := [2]) (ρ := [(100, some 100)]) rfl, ⟨k - 1, _, by rw [← bbC_set]; rfl, rfl, by omega, by omega, f1, f2⟩⟩
    rw [eqI_f] at h6
    refine br_if (fun h7 => ?_) (fun h7 => ?_) <;> (try rw [h7]) <;> (conv => whnf)
    · rw [eqI_t] at h7
      obtain ⟨a0, a1⟩ := kids_67 hp hx (.inr h7)
      obtain ⟨ba, -, hata⟩ := bbC_at (v := v) a0 (by omega)
      refine ⟨a0, by rw [hvl]; omega, ?_⟩
      conv => whnf
      refine ⟨_, hata, ?_⟩
      conv => whnf
      obtain ⟨f1, f2⟩ := fin _ (step_67 hx hvb (.inr h7))
      rw [wk]
      exact ⟨(k - 1 + 1).toNat, _, by omega, norm_wk (keep := [2, 5, 7]) (kb := [2]) (ρ := [(100, some 100)]) rfl, ⟨k - 1, _, by rw [← bbC_set]; rfl, rfl, by omega, by omega, f1, f2⟩⟩
    rw [eqI_f] at h7
    obtain ⟨f1, f2⟩ := fin v (step_o hx h5 h6 h7)
    rw [wk]
    exact ⟨(k - 1 + 1).toNat, _, by omega, norm_wk (keep := [2, 5, 7]) (kb := [2]) (ρ := [(100, some 100)]) rfl, ⟨k - 1, v, rfl, rfl, by omega, by omega, f1, f2⟩⟩
  · rw [leI_f] at h
    rw [show (k + 1).toNat = 0 by omega] at hk
    replace hk : v = reachL p.xNodes roots := hk
    rw [← hk]
    exact ⟨rfl, rfl⟩

set_option maxRecDepth 100000 in
set_option maxHeartbeats 1000000 in
theorem i_reach_ok (p : DPool) (roots : List Int) (hl : p.xNodes.length ≤ 1000000) (hp : poolOk p.xNodes = true) (hr : roots.length ≤ 1000000) (hR : ∀ r ∈ roots, Has p r) :
    FnV Tryz.prog 394 [pV p, nnV roots] fun rs outs => rs = [bbR (reachL p.xNodes roots)] ∧ outs = [] := by
  refine fn_ok (E := E10) τ_ok mixed Tryz.func394 (by rfl) (by rfl) false (by simp [Tryz.f394]) ?_
  have hrep : List.replicate (((p.xNodes.map DNode.c).length : Int)).toNat (List.map zC d4.zero) = bbC (List.replicate p.xNodes.length false) := by
    rw [List.length_map, Int.toNat_natCast, bbC, List.map_replicate]
    rfl
  have hnl : (p.xNodes.map DNode.c).length = p.xNodes.length := List.length_map ..
  have hrl : (nnC roots).length = roots.length := List.length_map ..
  conv => whnf
  refine ⟨by omega, rfl, by rw [hnl]; simp only [d4]; omega, by omega, ?_⟩
  rw [hrep]
  conv => whnf
  refine ⟨fun m s => ∃ (k : Int), s = ⟨[(2, .bptr 2 0 0), (5, .vals false [.ref 100 0]), (14, .vals false [.rd none 1 (nnC roots)]), (15, .vals false [.sc (.int .i64 roots.length)]), (16, .vals false [.sc (.int .i64 k)])], [(2, ⟨0, [.rd none 5 (p.xNodes.map DNode.c)]⟩)], [(100, ⟨true, 0, 0, true, 1, bbC ((roots.take k.toNat).foldl mkB (List.replicate p.xNodes.length false))⟩)]⟩ ∧ m = roots.length - k.toNat ∧ 0 ≤ k ∧ k ≤ roots.length,
    ⟨_, _, norm_wk (keep := [2, 5, 14, 15, 16]) (kb := [2]) (ρ := [(13, some 100)]) rfl, ⟨0, by rw [hrl]; rfl, rfl, by omega, by omega⟩⟩, ?_⟩
  rintro m _ ⟨k, rfl, rfl, k0, k1⟩
  conv => whnf
  refine br_if (fun h => ?_) (fun h => ?_) <;> (try rw [h]) <;> (conv => whnf)
  · rw [ltI_t] at h
    obtain ⟨r, hx⟩ : ∃ x, roots[k.toNat]? = some x := ⟨_, List.getElem?_eq_getElem (by omega)⟩
    refine ⟨by omega, _, by rw [List.getElem?_map, hx]; rfl, ?_⟩
    conv => whnf
    have hH := hR r (List.mem_of_getElem? hx)
    have hvl : (bbC ((roots.take k.toNat).foldl mkB (List.replicate p.xNodes.length false))).length = p.xNodes.length := by rw [bbC, List.length_map, foldB_len, List.length_replicate]
    refine ⟨hH.1, by rw [hvl]; exact hH.2, ?_⟩
    conv => whnf
    obtain ⟨b, -, hat⟩ := bbC_at (v := (roots.take k.toNat).foldl mkB (List.replicate p.xNodes.length false)) hH.1 (by rw [foldB_len, List.length_replicate]; exact hH.2)
    refine ⟨_, hat, ?_⟩
    conv => whnf
    rw [wrp_i64 (x := k + 1) (by omega) (by omega)]
    refine ⟨roots.length - (k + 1).toNat, _, by omega, norm_wk (keep := [2, 5, 14, 15, 16]) (kb := [2]) (ρ := [(100, some 100)]) rfl, ⟨k + 1, ?_, rfl, by omega, by omega⟩⟩
    rw [show (k + 1).toNat = k.toNat + 1 by omega, List.take_add_one, hx, List.foldl_append]
    generalize (roots.take k.toNat).foldl mkB (List.replicate p.xNodes.length false) = v
    rw [show List.foldl mkB v (some r).toList = mkB v r from rfl, ← bbC_set]
    rfl
  rw [ltI_f] at h
  rw [List.take_of_length_le (by omega)]
  rw [hnl, wrp_i64 (by omega) (by omega)]
  refine ⟨fun m s => ∃ (k : Int) (v : List Bool), s = ⟨[(2, .bptr 2 0 0), (5, .vals false [.ref 100 0]), (8, .vals false [.sc (.int .i64 k)])], [(2, ⟨0, [.rd none 5 (p.xNodes.map DNode.c)]⟩)], [(100, ⟨true, 0, 0, true, 1, bbC v⟩)]⟩ ∧ m = (k + 1).toNat ∧ -1 ≤ k ∧ k < p.xNodes.length ∧ v.length = p.xNodes.length ∧ reachD p.xNodes v (k + 1).toNat = reachL p.xNodes roots,
    ⟨_, _, norm_wk (keep := [2, 5, 8]) (kb := [2]) (ρ := [(100, some 100)]) rfl, ⟨p.xNodes.length - 1, _, rfl, rfl, by omega, by omega, by rw [foldB_len, List.length_replicate], ?_⟩⟩, ?_⟩
  · rw [show ((p.xNodes.length : Int) - 1 + 1).toNat = p.xNodes.length by omega]
    rfl
  clear k0 k1 h k
  rintro m _ ⟨k, v, rfl, rfl, k0, k1, hv, hk⟩
  conv => whnf
  refine br_if (fun h => ?_) (fun h => ?_) <;> (try rw [h]) <;> (conv => whnf)
  · rw [leI_t] at h
    rw [reachD_step _ _ _ h] at hk
    obtain ⟨x, hx⟩ : ∃ x, p.xNodes[k.toNat]? = some x := ⟨_, List.getElem?_eq_getElem (by omega)⟩
    obtain ⟨b, hvb, hat⟩ := bbC_at (v := v) h (by omega)
    have hvl : (bbC v).length = p.xNodes.length := by rw [bbC, List.length_map, hv]
    refine ⟨h, by rw [hvl]; omega, ?_⟩
    conv => whnf
    refine ⟨_, hat, ?_⟩
    conv => whnf
    have hm : ∀ j : Int, (bbC (mkB v j)).length = p.xNodes.length := fun j => by rw [bbC, List.length_map, mkB_len, hv]
    have fin : ∀ v' : List Bool, stepR p.xNodes v k.toNat = v' → v'.length = p.xNodes.length ∧ reachD p.xNodes v' ((k - 1) + 1).toNat = reachL p.xNodes roots := fun v' e => by
      rw [← e, stepR_len, show (k - 1 + 1).toNat = k.toNat by omega]
      exact ⟨hv, hk⟩
    have wk : wrp .i64 (k - 1) = k - 1 := wrp_i64 (by omega) (by omega)
    refine br_if (fun h2 => ?_) (fun h2 => ?_) <;> (try rw [h2]) <;> (conv => whnf)
    · rw [notB_t] at h2
      subst h2
      obtain ⟨f1, f2⟩ := fin v (step_off hx hvb)
      rw [wk]
      exact ⟨(k - 1 + 1).toNat, _, by omega, norm_wk (keep := [2, 5, 8]) (kb := [2]) (ρ := [(100, some 100)]) rfl, ⟨k - 1, v, rfl, rfl, by omega, by omega, f1, f2⟩⟩
    rw [notB_f] at h2
    subst h2
    refine ⟨h, _, by rw [List.getElem?_map, hx]; rfl, ?_⟩
    conv => whnf
    refine br_if (fun h5 => ?_) (fun h5 => ?_) <;> (try rw [h5]) <;> (conv => whnf)
    · rw [eqI_t] at h5
      obtain ⟨⟨a0, a1⟩, b0, b1⟩ := kids_5 hp hx h5
      obtain ⟨ba, -, hata⟩ := bbC_at (v := v) a0 (by omega)
      obtain ⟨bb, -, hatb⟩ := bbC_at (v := mkB v x.xA) b0 (by rw [mkB_len]; omega)
      refine ⟨a0, by rw [hvl]; omega, ?_⟩
      conv => whnf
      refine ⟨_, hata, ?_⟩
      conv => whnf
      refine ⟨b0, ?_, ?_⟩
      · show x.xB < (((bbC v).set x.xA.toNat [.sc (.bool true)]).length : Int)
        rw [bbC_set, hm]
        omega
      conv => whnf
      refine ⟨_, (show ((bbC v).set x.xA.toNat [.sc (.bool true)])[x.xB.toNat]? = some _ from by rw [bbC_set]; exact hatb), ?_⟩
      conv => whnf
      obtain ⟨f1, f2⟩ := fin _ (step_5 hx hvb h5)
      rw [wk]
      exact ⟨(k - 1 + 1).toNat, _, by omega, norm_wk (keep := [2, 5, 8]) (kb := [2]) (ρ := [(100, some 100)]) rfl, ⟨k - 1, _, by rw [← bbC_set, ← bbC_set]; rfl, rfl, by omega, by omega, f1, f2⟩⟩
    rw [eqI_f] at h5
    have one : ∀ (h67 : x.xKind = 6 ∨ x.xKind = 7), True := fun _ => trivial
    refine br_if (fun h6 => ?_) (fun h6 => ?_) <;> (try rw [h6]) <;> (conv => whnf)
    · rw [eqI_t] at h6
      obtain ⟨a0, a1⟩ := kids_67 hp hx (.inl h6)
      obtain ⟨ba, -, hata⟩ := bbC_at (v := v) a0 (by omega)
      refine ⟨a0, by rw [hvl]; omega, ?_⟩
      conv => whnf
      refine ⟨_, hata, ?_⟩
      conv => whnf
      obtain ⟨f1, f2⟩ := fin _ (step_67 hx hvb (.inl h6))
      rw [wk]
      exact ⟨(k - 1 + 1).toNat, _, by omega, norm_wk (keep := [2, 5, 8]) (kb := [2]) (ρ := [(100, some 100)]) rfl, ⟨k - 1, _, by rw [← bbC_set]; rfl, rfl, by omega, by omega, f1, f2⟩⟩
    rw [eqI_f] at h6
    refine br_if (fun h7 => ?_) (fun h7 => ?_) <;> (try rw [h7]) <;> (conv => whnf)
    · rw [eqI_t] at h7
      obtain ⟨a0, a1⟩ := kids_67 hp hx (.inr h7)
      obtain ⟨ba, -, hata⟩ := bbC_at (v := v) a0 (by omega)
      refine ⟨a0, by rw [hvl]; omega, ?_⟩
      conv => whnf
      refine ⟨_, hata, ?_⟩
      conv => whnf
      obtain ⟨f1, f2⟩ := fin _ (step_67 hx hvb (.inr h7))
      rw [wk]
      exact ⟨(k - 1 + 1).toNat, _, by omega, norm_wk (keep := [2, 5, 8]) (kb := [2]) (ρ := [(100, some 100)]) rfl, ⟨k - 1, _, by rw [← bbC_set]; rfl, rfl, by omega, by omega, f1, f2⟩⟩
    rw [eqI_f] at h7
    obtain ⟨f1, f2⟩ := fin v (step_o hx h5 h6 h7)
    rw [wk]
    exact ⟨(k - 1 + 1).toNat, _, by omega, norm_wk (keep := [2, 5, 8]) (kb := [2]) (ρ := [(100, some 100)]) rfl, ⟨k - 1, v, rfl, rfl, by omega, by omega, f1, f2⟩⟩
  · rw [leI_f] at h
    rw [show (k + 1).toNat = 0 by omega] at hk
    replace hk : v = reachL p.xNodes roots := hk
    rw [← hk]
    exact ⟨rfl, rfl⟩

end Go.Proofs.YtcaonpncopfeoaaGreat.V
