/- Links. -/
import Derived.Test.YtcaonpncopfeoaaGreatQ8
set_option linter.unusedVariables false
set_option linter.unusedSimpArgs false
namespace Go.Proofs.YtcaonpncopfeoaaGreat.V
open Go

def MdE9 (f : Nat) : List Mode :=
  match f with
  | 101 => [.rd, .rd, .rd]
  | 112 => [.rd, .rd, .rd]
  | 166 => [.rd, .rd]
  | _ => []
def E9 : Env := ⟨τ, MdE9⟩

@[reducible] def lV (l : DLink) : AV := .rdv true l.c
/-- A piece held is right, at a place. -/
def HeldOk (l : DLink) (i : Nat) (p : DPiece) : Prop :=
  (l.xGot + 1 ≤ p.xNo ∧ p.xNo < l.xGot + 4 ∧ p.xNo < l.xSent) ∧ ∀ q : DPiece, 0 < i → l.xHeld[i - 1]? = some q → q.xNo < p.xNo
def LinkOk (l : DLink) : Prop :=
  (0 ≤ l.xSent ∧ l.xSent ≤ 100000) ∧ (0 ≤ l.xGot ∧ l.xGot ≤ l.xSent) ∧ (0 ≤ l.xAcked ∧ l.xAcked ≤ l.xGot) ∧ (l.xQueue.length : Int) = l.xSent - l.xAcked ∧ l.xQueue.length ≤ 30 ∧ ∀ (i : Nat) (p : DPiece), l.xHeld[i]? = some p → HeldOk l i p
noncomputable def linkOk (l : DLink) : Bool := clB (LinkOk l)
theorem linkOk_t {l : DLink} : linkOk l = true ↔ LinkOk l := clB_t
theorem linkOk_ff {l : DLink} (h : ¬ LinkOk l) : linkOk l = false := clB_f.2 h

set_option maxRecDepth 100000 in
theorem s_l1Min_ok (x y : Int) : FnV Tryz.prog 166 [iV x, iV y] fun rs outs => rs = [iR (minI x y)] ∧ outs = [] := by
  refine fn_ok (E := E9) τ_ok mixed Tryz.func166 (by rfl) (by rfl) false (by simp [Tryz.f166]) ?_
  conv => whnf
  refine br_if (fun h => ?_) (fun h => ?_) <;> (try rw [h]) <;> (conv => whnf)
  · rw [minI_eq, if_neg (by rw [ltI_t] at h; omega)]
    exact ⟨rfl, rfl⟩
  · rw [ltI_f] at h
    have : minI x y = y := by rw [minI_eq]; split <;> omega
    rw [this]
    exact ⟨rfl, rfl⟩

set_option maxRecDepth 100000 in
set_option maxHeartbeats 1000000 in
theorem s_LinkOk_ok (l : DLink) (ho : l.ok) : FnV Tryz.prog 199 [lV l] fun rs outs => rs = [bR (linkOk l)] ∧ outs = [] := by
  refine fn_ok (E := E9) τ_ok mixed Tryz.func199 (by rfl) (by rfl) false (by simp [Tryz.f199]) ?_
  obtain ⟨oS, oA, ⟨oQ, -⟩, oG, oH, oP⟩ := ho
  conv => whnf
  refine (s_l1In_ok _ _ _).mono ?_
  rintro _ _ ⟨rfl, rfl⟩
  conv => whnf
  refine br_if (fun h1 => ?_) (fun h1 => ?_) <;> (try rw [h1]) <;> (conv => whnf)
  · exact bR_eq (linkOk_ff fun h => by rw [notB_t, decide_eq_false_iff_not] at h1; have := h.1; omega).symm
  rw [notB_f, decide_eq_true_iff] at h1
  refine (s_l1In_ok _ _ _).mono ?_
  rintro _ _ ⟨rfl, rfl⟩
  conv => whnf
  refine br_if (fun h2 => ?_) (fun h2 => ?_) <;> (try rw [h2]) <;> (conv => whnf)
  · exact bR_eq (linkOk_ff fun h => by rw [notB_t, decide_eq_false_iff_not] at h2; have := h.2.1; omega).symm
  rw [notB_f, decide_eq_true_iff] at h2
  refine (s_l1In_ok _ _ _).mono ?_
  rintro _ _ ⟨rfl, rfl⟩
  conv => whnf
  refine br_if (fun h3 => ?_) (fun h3 => ?_) <;> (try rw [h3]) <;> (conv => whnf)
  · exact bR_eq (linkOk_ff fun h => by rw [notB_t, decide_eq_false_iff_not] at h3; have := h.2.2.1; omega).symm
  rw [notB_f, decide_eq_true_iff] at h3
  rw [wrp_i64 (x := l.xSent - l.xAcked) (by omega) (by omega)]
  refine br_if (fun h4 => ?_) (fun h4 => ?_) <;> (try rw [h4]) <;> (conv => whnf)
  · exact bR_eq (linkOk_ff fun h => by rw [notB_t, eqI_f, List.length_map] at h4; have := h.2.2.2.1; omega).symm
  rw [notB_f, eqI_t, List.length_map] at h4
  refine br_if (fun h5 => ?_) (fun h5 => ?_) <;> (try rw [h5]) <;> (conv => whnf)
  · exact bR_eq (linkOk_ff fun h => by rw [ltI_t, List.length_map] at h5; have := h.2.2.2.2.1; omega).symm
  rw [ltI_f, List.length_map] at h5
  refine ⟨fun m s => ∃ (k : Int), s = ⟨[(1, .bptr 1 0 0), (2, .vals false [.sc (.bool false)]), (3, .vals false [.sc (.int .i64 k)])], [(1, ⟨0, l.x⟩)], []⟩ ∧ m = l.xHeld.length - k.toNat ∧ 0 ≤ k ∧ k ≤ l.xHeld.length ∧ ∀ (i : Nat) (p : DPiece), i < k.toNat → l.xHeld[i]? = some p → HeldOk l i p,
    ⟨_, _, norm_wk (keep := [1, 2, 3]) (kb := [1]) (ρ := []) rfl, ⟨0, rfl, rfl, by omega, by omega, fun i x h => absurd h (by simp)⟩⟩, ?_⟩
  rintro m _ ⟨k, rfl, rfl, k0, k1, hk⟩
  conv => whnf
  refine br_if (fun h6 => ?_) (fun h6 => ?_) <;> (try rw [h6]) <;> (conv => whnf)
  · rw [ltI_t] at h6
    try rw [List.length_map] at h6
    obtain ⟨x, hx⟩ : ∃ x, l.xHeld[k.toNat]? = some x := ⟨_, List.getElem?_eq_getElem (by omega)⟩
    obtain ⟨oN, oT⟩ := oP x (List.mem_of_getElem? hx)
    have w1 : wrp .i64 (l.xGot + 1) = l.xGot + 1 := wrp_i64 (by omega) (by omega)
    have w2 : wrp .i64 (l.xGot + 4) = l.xGot + 4 := wrp_i64 (by omega) (by omega)
    have w3 : wrp .i64 (minI (wrp .i64 (l.xGot + 4)) l.xSent - 1) = minI (l.xGot + 4) l.xSent - 1 := by
      rw [w2, minI_eq]
      exact wrp_i64 (by split <;> omega) (by split <;> omega)
    refine ⟨by omega, _, by rw [List.getElem?_map, hx]; rfl, ?_⟩
    conv => whnf
    refine ⟨.one (.take 0 (.take 1 (.take 4 (.take 7 (.early 2 (.take 3 (.early 5 (.take 6 (.or 8 (.or 9 (.take 10 (.or 11 (.calm 12 (.calm 13 (.calm 14 (.calm 15 (.calm 16 (.calm 17 (.calm 18 (.calm 19 (.calm 20 (.calm 21 (.calm 22 (.calm 23 (.calm 24 (.calm 25 (.calm 26 (.calm 27 .done)))))))))))))))) .nil)) .nil) .nil))))))))), by rfl, ?_⟩
    conv => whnf
    repeat (first | (refine ⟨rfl, ?_⟩; conv => whnf) | (refine (s_l1In_ok _ _ _).mono ?_; rintro _ _ ⟨rfl, rfl⟩; conv => whnf) | (refine (s_l1Min_ok _ _).mono ?_; rintro _ _ ⟨rfl, rfl⟩; conv => whnf))
    have em : ∀ a b c : Int, c ≤ minI a b - 1 ↔ c < a ∧ c < b := fun a b c => by rw [minI_eq]; split <;> omega
    try rw [if_neg (show ¬ (false = true) by decide)]
    rw [w1, w3]
    refine br_if (fun h7 => ?_) (fun h7 => ?_) <;> (try rw [h7]) <;> (conv => whnf)
    · exact bR_eq (linkOk_ff fun h => by
        rw [notB_t, decide_eq_false_iff_not, em] at h7
        have := (h.2.2.2.2.2 _ x hx).1
        omega).symm
    rw [notB_f, decide_eq_true_iff, em] at h7
    have next : ∀ (hq : ∀ q : DPiece, 0 < k.toNat → l.xHeld[k.toNat - 1]? = some q → q.xNo < x.xNo) (i : Nat) (p : DPiece), i < (k + 1).toNat → l.xHeld[i]? = some p → HeldOk l i p := by
      intro hq i y hi hy
      by_cases e : i = k.toNat
      · subst e
        rw [hx] at hy
        cases hy
        exact ⟨by omega, hq⟩
      · exact hk i y (by omega) hy
    refine br_if (fun h8 => ?_) (fun h8 => ?_) <;> (try rw [h8]) <;> (conv => whnf)
    · rw [ltI_t] at h8
      obtain ⟨y, hy⟩ : ∃ y, l.xHeld[k.toNat - 1]? = some y := ⟨_, List.getElem?_eq_getElem (by omega)⟩
      rw [wrp_i64 (x := k - 1) (by omega) (by omega)]
      refine ⟨by omega, _, by rw [List.getElem?_map, show (k - 1).toNat = k.toNat - 1 by omega, hy]; rfl, ?_⟩
      conv => whnf
      refine br_if (fun h9 => ?_) (fun h9 => ?_) <;> (try rw [h9]) <;> (conv => whnf)
      · exact bR_eq (linkOk_ff fun h => by
          rw [leI_t] at h9
          have := (h.2.2.2.2.2 _ x hx).2 y (by omega) hy
          omega).symm
      rw [leI_f] at h9
      rw [wrp_i64 (x := k + 1) (by omega) (by omega)]
      exact ⟨l.xHeld.length - (k + 1).toNat, _, by omega, norm_wk (keep := [1, 2, 3]) (kb := [1]) (ρ := []) rfl, ⟨k + 1, rfl, rfl, by omega, by omega, next fun q _ hq => by rw [hy] at hq; cases hq; omega⟩⟩
    · rw [ltI_f] at h8
      rw [wrp_i64 (x := k + 1) (by omega) (by omega)]
      exact ⟨l.xHeld.length - (k + 1).toNat, _, by omega, norm_wk (keep := [1, 2, 3]) (kb := [1]) (ρ := []) rfl, ⟨k + 1, rfl, rfl, by omega, by omega, next fun q h0 hq => by omega⟩⟩
  · rw [ltI_f] at h6
    try rw [List.length_map] at h6
    exact bR_eq (linkOk_t.2 ⟨by omega, by omega, by omega, by omega, by omega, fun i y hy => hk i y (by have := (List.getElem?_eq_some_iff.1 hy).1; omega) hy⟩).symm

set_option maxRecDepth 100000 in
set_option maxHeartbeats 1000000 in
theorem i_LinkOk_ok (l : DLink) (ho : l.ok) : FnV Tryz.prog 208 [lV l] fun rs outs => rs = [bR (linkOk l)] ∧ outs = [] := by
  refine fn_ok (E := E9) τ_ok mixed Tryz.func208 (by rfl) (by rfl) false (by simp [Tryz.f208]) ?_
  obtain ⟨oS, oA, ⟨oQ, -⟩, oG, oH, oP⟩ := ho
  conv => whnf
  refine (i_within_ok _ _ _).mono ?_
  rintro _ _ ⟨rfl, rfl⟩
  conv => whnf
  refine br_if (fun h1 => ?_) (fun h1 => ?_) <;> (try rw [h1]) <;> (conv => whnf)
  · exact bR_eq (linkOk_ff fun h => by rw [notB_t, decide_eq_false_iff_not] at h1; have := h.1; omega).symm
  rw [notB_f, decide_eq_true_iff] at h1
  refine (i_within_ok _ _ _).mono ?_
  rintro _ _ ⟨rfl, rfl⟩
  conv => whnf
  refine br_if (fun h2 => ?_) (fun h2 => ?_) <;> (try rw [h2]) <;> (conv => whnf)
  · exact bR_eq (linkOk_ff fun h => by rw [notB_t, decide_eq_false_iff_not] at h2; have := h.2.1; omega).symm
  rw [notB_f, decide_eq_true_iff] at h2
  refine (i_within_ok _ _ _).mono ?_
  rintro _ _ ⟨rfl, rfl⟩
  conv => whnf
  refine br_if (fun h3 => ?_) (fun h3 => ?_) <;> (try rw [h3]) <;> (conv => whnf)
  · exact bR_eq (linkOk_ff fun h => by rw [notB_t, decide_eq_false_iff_not] at h3; have := h.2.2.1; omega).symm
  rw [notB_f, decide_eq_true_iff] at h3
  rw [wrp_i64 (x := l.xSent - l.xAcked) (by omega) (by omega)]
  refine br_if (fun h4 => ?_) (fun h4 => ?_) <;> (try rw [h4]) <;> (conv => whnf)
  · exact bR_eq (linkOk_ff fun h => by rw [notB_t, eqI_f, List.length_map] at h4; have := h.2.2.2.1; omega).symm
  rw [notB_f, eqI_t, List.length_map] at h4
  refine br_if (fun h5 => ?_) (fun h5 => ?_) <;> (try rw [h5]) <;> (conv => whnf)
  · exact bR_eq (linkOk_ff fun h => by rw [ltI_t, List.length_map] at h5; have := h.2.2.2.2.1; omega).symm
  rw [ltI_f, List.length_map] at h5
  refine ⟨fun m s => ∃ (k : Int), s = ⟨[(1, .bptr 1 0 0), (2, .vals false [.sc (.bool false)]), (43, .vals false [.rd none 2 (l.xHeld.map DPiece.c)]), (44, .vals false [.sc (.int .i64 l.xHeld.length)]), (45, .vals false [.sc (.int .i64 k)])], [(1, ⟨0, l.x⟩)], []⟩ ∧ m = l.xHeld.length - k.toNat ∧ 0 ≤ k ∧ k ≤ l.xHeld.length ∧ ∀ (i : Nat) (p : DPiece), i < k.toNat → l.xHeld[i]? = some p → HeldOk l i p,
    ⟨_, _, norm_wk (keep := [1, 2, 43, 44, 45]) (kb := [1]) (ρ := []) rfl, ⟨0, by rw [List.length_map], rfl, by omega, by omega, fun i x h => absurd h (by simp)⟩⟩, ?_⟩
  rintro m _ ⟨k, rfl, rfl, k0, k1, hk⟩
  conv => whnf
  refine br_if (fun h6 => ?_) (fun h6 => ?_) <;> (try rw [h6]) <;> (conv => whnf)
  · rw [ltI_t] at h6
    try rw [List.length_map] at h6
    obtain ⟨x, hx⟩ : ∃ x, l.xHeld[k.toNat]? = some x := ⟨_, List.getElem?_eq_getElem (by omega)⟩
    obtain ⟨oN, oT⟩ := oP x (List.mem_of_getElem? hx)
    have w1 : wrp .i64 (l.xGot + 1) = l.xGot + 1 := wrp_i64 (by omega) (by omega)
    have w2 : wrp .i64 (l.xGot + 4) = l.xGot + 4 := wrp_i64 (by omega) (by omega)
    have w3 : wrp .i64 (minI (wrp .i64 (l.xGot + 4)) l.xSent - 1) = minI (l.xGot + 4) l.xSent - 1 := by
      rw [w2, minI_eq]
      exact wrp_i64 (by split <;> omega) (by split <;> omega)
    refine ⟨by omega, _, by rw [List.getElem?_map, hx]; rfl, ?_⟩
    conv => whnf
    refine ⟨.one (.take 0 (.take 2 (.take 5 (.take 8 (.early 1 (.early 3 (.take 4 (.early 6 (.take 7 (.or 9 (.or 10 (.take 11 (.or 12 (.calm 13 (.calm 14 (.calm 15 (.calm 16 (.calm 17 (.calm 18 (.calm 19 (.calm 20 (.calm 21 (.calm 22 (.calm 23 (.calm 24 (.calm 25 (.calm 26 (.calm 27 (.calm 28 (.calm 29 .done))))))))))))))))) .nil)) .nil) .nil)))))))))), by rfl, ?_⟩
    conv => whnf
    repeat (first | (refine ⟨rfl, ?_⟩; conv => whnf) | (refine (i_within_ok _ _ _).mono ?_; rintro _ _ ⟨rfl, rfl⟩; conv => whnf))
    have em : ∀ a b c : Int, c ≤ minI a b - 1 ↔ c < a ∧ c < b := fun a b c => by rw [minI_eq]; split <;> omega
    try rw [if_neg (show ¬ (false = true) by decide)]
    rw [w1, w3]
    refine br_if (fun h7 => ?_) (fun h7 => ?_) <;> (try rw [h7]) <;> (conv => whnf)
    · exact bR_eq (linkOk_ff fun h => by
        rw [notB_t, decide_eq_false_iff_not, em] at h7
        have := (h.2.2.2.2.2 _ x hx).1
        omega).symm
    rw [notB_f, decide_eq_true_iff, em] at h7
    have next : ∀ (hq : ∀ q : DPiece, 0 < k.toNat → l.xHeld[k.toNat - 1]? = some q → q.xNo < x.xNo) (i : Nat) (p : DPiece), i < (k + 1).toNat → l.xHeld[i]? = some p → HeldOk l i p := by
      intro hq i y hi hy
      by_cases e : i = k.toNat
      · subst e
        rw [hx] at hy
        cases hy
        exact ⟨by omega, hq⟩
      · exact hk i y (by omega) hy
    refine br_if (fun h8 => ?_) (fun h8 => ?_) <;> (try rw [h8]) <;> (conv => whnf)
    · rw [ltI_t] at h8
      obtain ⟨y, hy⟩ : ∃ y, l.xHeld[k.toNat - 1]? = some y := ⟨_, List.getElem?_eq_getElem (by omega)⟩
      rw [wrp_i64 (x := k - 1) (by omega) (by omega)]
      refine ⟨by omega, _, by rw [List.getElem?_map, show (k - 1).toNat = k.toNat - 1 by omega, hy]; rfl, ?_⟩
      conv => whnf
      refine br_if (fun h9 => ?_) (fun h9 => ?_) <;> (try rw [h9]) <;> (conv => whnf)
      · exact bR_eq (linkOk_ff fun h => by
          rw [leI_t] at h9
          have := (h.2.2.2.2.2 _ x hx).2 y (by omega) hy
          omega).symm
      rw [leI_f] at h9
      rw [wrp_i64 (x := k + 1) (by omega) (by omega)]
      exact ⟨l.xHeld.length - (k + 1).toNat, _, by omega, norm_wk (keep := [1, 2, 43, 44, 45]) (kb := [1]) (ρ := []) rfl, ⟨k + 1, rfl, rfl, by omega, by omega, next fun q _ hq => by rw [hy] at hq; cases hq; omega⟩⟩
    · rw [ltI_f] at h8
      rw [wrp_i64 (x := k + 1) (by omega) (by omega)]
      exact ⟨l.xHeld.length - (k + 1).toNat, _, by omega, norm_wk (keep := [1, 2, 43, 44, 45]) (kb := [1]) (ρ := []) rfl, ⟨k + 1, rfl, rfl, by omega, by omega, next fun q h0 hq => by omega⟩⟩
  · rw [ltI_f] at h6
    try rw [List.length_map] at h6
    exact bR_eq (linkOk_t.2 ⟨by omega, by omega, by omega, by omega, by omega, fun i y hy => hk i y (by have := (List.getElem?_eq_some_iff.1 hy).1; omega) hy⟩).symm

end Go.Proofs.YtcaonpncopfeoaaGreat.V
