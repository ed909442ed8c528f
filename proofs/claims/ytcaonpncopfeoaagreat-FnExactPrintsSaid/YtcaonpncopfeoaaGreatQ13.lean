/- What is reached is closed; what is put behind others is right. (plain) -/
import Derived.Test.YtcaonpncopfeoaaGreatQ12
set_option linter.unusedVariables false
set_option linter.unusedSimpArgs false
namespace Go.Proofs.YtcaonpncopfeoaaGreat.V
open Go

theorem mkB_mono {v : List Bool} {i : Nat} {j : Int} (h : v[i]? = some true) : (mkB v j)[i]? = some true := by
  have hi := (List.getElem?_eq_some_iff.1 h).1
  rw [mkB, List.getElem?_set]
  split
  · rw [if_pos (by omega)]
  · exact h
theorem mkB_ne {v : List Bool} {i : Nat} {j : Int} (h : j.toNat ≠ i) : (mkB v j)[i]? = v[i]? := by
  rw [mkB, List.getElem?_set, if_neg h]
theorem mkB_at {v : List Bool} {j : Int} (h : j.toNat < v.length) : (mkB v j)[j.toNat]? = some true := by
  rw [mkB, List.getElem?_set, if_pos rfl, if_pos h]

/-- What a node hangs on is told. -/
def Kids (v : List Bool) (x : DNode) : Prop :=
  (x.xKind = 5 → v[x.xA.toNat]? = some true ∧ v[x.xB.toNat]? = some true) ∧ (x.xKind = 6 ∨ x.xKind = 7 → v[x.xA.toNat]? = some true)
theorem stepR_mono {l : List DNode} {v : List Bool} {i k : Nat} (h : v[i]? = some true) : (stepR l v k)[i]? = some true := by
  unfold stepR
  split
  · exact h
  · split
    · split
      · exact mkB_mono (mkB_mono h)
      · split
        · exact mkB_mono h
        · exact h
    · exact h
theorem stepR_ge {l : List DNode} (hp : poolOk l = true) {v : List Bool} {i k : Nat} (h : k ≤ i) : (stepR l v k)[i]? = v[i]? := by
  unfold stepR
  split
  · rfl
  · rename_i x hx
    split
    · split
      · rename_i h5
        have := kids_5 hp hx h5
        rw [mkB_ne (by omega), mkB_ne (by omega)]
      · split
        · rename_i h67
          have := kids_67 hp hx h67
          rw [mkB_ne (by omega)]
        · rfl
    · rfl
theorem stepR_kids {l : List DNode} (hp : poolOk l = true) {v : List Bool} (hv : v.length = l.length) {k : Nat} {x : DNode} (hx : l[k]? = some x) (h : v[k]? = some true) : Kids (stepR l v k) x := by
  have hk := (List.getElem?_eq_some_iff.1 hx).1
  refine ⟨fun h5 => ?_, fun h67 => ?_⟩
  · have := kids_5 hp hx h5
    rw [step_5 hx h h5]
    exact ⟨mkB_mono (mkB_at (by omega)), mkB_at (by rw [mkB_len]; omega)⟩
  · have := kids_67 hp hx h67
    rw [step_67 hx h h67]
    exact mkB_at (by omega)
theorem Kids.mono {v v' : List Bool} {x : DNode} (h : Kids v x) (hm : ∀ i : Nat, v[i]? = some true → v'[i]? = some true) : Kids v' x :=
  ⟨fun h5 => ⟨hm _ (h.1 h5).1, hm _ (h.1 h5).2⟩, fun h67 => hm _ (h.2 h67)⟩
theorem reachD_mono {l : List DNode} {i : Nat} : ∀ (k : Nat) {v : List Bool}, v[i]? = some true → (reachD l v k)[i]? = some true
  | 0, _, h => h
  | k + 1, v, h => reachD_mono k (stepR_mono h)
theorem reachD_kids {l : List DNode} (hp : poolOk l = true) : ∀ (k : Nat) {v : List Bool}, v.length = l.length → (∀ (i : Nat) (x : DNode), k ≤ i → l[i]? = some x → v[i]? = some true → Kids v x) →
    ∀ (i : Nat) (x : DNode), l[i]? = some x → (reachD l v k)[i]? = some true → Kids (reachD l v k) x
  | 0, v, _, h => fun i x hx hv => h i x (Nat.zero_le _) hx hv
  | k + 1, v, hv, h => by
    refine reachD_kids hp k (v := stepR l v k) (by rw [stepR_len, hv]) fun i x hi hx ht => ?_
    rw [stepR_ge hp hi] at ht
    rcases Nat.lt_or_ge k i with hlt | hge
    · exact (h i x hlt hx ht).mono fun i => stepR_mono
    · obtain rfl : i = k := by omega
      exact stepR_kids hp hv hx ht
theorem reachL_kids {l : List DNode} (hp : poolOk l = true) (roots : List Int) (i : Nat) (x : DNode) (hx : l[i]? = some x) (h : (reachL l roots)[i]? = some true) : Kids (reachL l roots) x :=
  reachD_kids hp _ (by rw [foldB_len, List.length_replicate]) (fun i x hi hx => by
    have := (List.getElem?_eq_some_iff.1 hx).1
    omega) i x hx h
theorem foldB_mono {i : Nat} : ∀ (r : List Int) {v : List Bool}, v[i]? = some true → (r.foldl mkB v)[i]? = some true
  | [], _, h => h
  | x :: r, v, h => foldB_mono r (mkB_mono h)
theorem foldB_mem : ∀ (r : List Int) {v : List Bool} {x : Int}, x ∈ r → x.toNat < v.length → (r.foldl mkB v)[x.toNat]? = some true
  | [], _, _, h, _ => by cases h
  | y :: r, v, x, h, hx => by
    rw [List.foldl_cons]
    cases h with
    | head => exact foldB_mono r (mkB_at hx)
    | tail _ h => exact foldB_mem r h (by rw [mkB_len]; exact hx)
theorem reachL_root {l : List DNode} {roots : List Int} {x : Int} (h : x ∈ roots) (h0 : 0 ≤ x) (h1 : x < l.length) : (reachL l roots)[x.toNat]? = some true :=
  reachD_mono _ (foldB_mem roots h (by rw [List.length_replicate]; omega))

/-- What is told is closed. -/
def Closed (l : List DNode) (is : List Bool) : Prop := is.length = l.length ∧ ∀ (i : Nat) (x : DNode), l[i]? = some x → is[i]? = some true → Kids is x
theorem reach_closed {l : List DNode} (hp : poolOk l = true) (roots : List Int) : Closed l (reachL l roots) := ⟨reachL_len _ _, reachL_kids hp roots⟩

theorem getD_same {l l' : List Int} {i : Nat} (h : l[i]? = l'[i]?) : (l[i]?).getD 0 = (l'[i]?).getD 0 := by rw [h]
/-- It is all one what stands for those that are not told. -/
theorem mvS_eq {is : List Bool} {q pre : List DNode} (hq : poolOk q = true) (hc : Closed q is) (d d' : Int) : ∀ k : Nat, k ≤ q.length →
    (mvS d is q pre k).1 = (mvS d' is q pre k).1 ∧ ∀ i : Nat, i < k → is[i]? = some true → (mvS d is q pre k).2[i]? = (mvS d' is q pre k).2[i]?
  | 0, _ => ⟨rfl, fun i h => absurd h (by omega)⟩
  | k + 1, hk => by
    obtain ⟨h1, h2⟩ := mvS_eq hq hc d d' k (by omega)
    obtain ⟨l1, -, -⟩ := mvS_len (d := d) (is := is) (q := q) (pre := pre) (k := k) (by omega)
    obtain ⟨l2, -, -⟩ := mvS_len (d := d') (is := is) (q := q) (pre := pre) (k := k) (by omega)
    have hx : q[k]? = some q[k] := List.getElem?_eq_getElem (by omega)
    generalize q[k] = x at hx
    have old : ∀ (y y' : Int) (i : Nat), i < k → is[i]? = some true → ((mvS d is q pre k).2 ++ [y])[i]? = ((mvS d' is q pre k).2 ++ [y'])[i]? := fun y y' i hi ht => by
      rw [List.getElem?_append_left (by omega), List.getElem?_append_left (by omega)]
      exact h2 i hi ht
    by_cases ht : is[k]? = some true
    · rw [mvS_yes hx ht, mvS_yes hx ht, h1]
      have hkid : ∀ a : Int, 0 ≤ a → a < k → is[a.toNat]? = some true → kid (mvS d is q pre k).2 a = kid (mvS d' is q pre k).2 a := fun a h0 h3 h4 => getD_same (h2 _ (by omega) h4)
      have hr : rmp (mvS d is q pre k).2 x = rmp (mvS d' is q pre k).2 x := by
        obtain ⟨k5, k67⟩ := hc.2 k x hx ht
        by_cases h5 : x.xKind = 5
        · obtain ⟨⟨a0, a1⟩, b0, b1⟩ := kids_5 hq hx h5
          rw [rmp_5 h5, rmp_5 h5, hkid _ a0 a1 (k5 h5).1, hkid _ b0 b1 (k5 h5).2]
        · by_cases h6 : x.xKind = 6 ∨ x.xKind = 7
          · obtain ⟨a0, a1⟩ := kids_67 hq hx h6
            rw [rmp_67 h6, rmp_67 h6, hkid _ a0 a1 (k67 h6)]
          · rw [rmp_o h5 (fun h => h6 (.inl h)) (fun h => h6 (.inr h)), rmp_o h5 (fun h => h6 (.inl h)) (fun h => h6 (.inr h))]
      refine ⟨by rw [hr], fun i hi h => ?_⟩
      rcases Nat.lt_or_ge i k with hlt | hge
      · exact old _ _ i hlt h
      · obtain rfl : i = k := by omega
        rw [List.getElem?_append_right (by omega), List.getElem?_append_right (by omega), l1, l2]
    · rw [mvS_no' hx ht, mvS_no' hx ht]
      refine ⟨h1, fun i hi h => ?_⟩
      rcases Nat.lt_or_ge i k with hlt | hge
      · exact old _ _ i hlt h
      · obtain rfl : i = k := by omega
        exact absurd h ht

/-- All nodes of a list are right. -/
def NodesOk (l : List DNode) : Prop := ∀ (i : Nat) (x : DNode), l[i]? = some x → NodeOk x i
theorem nodesOk_snoc {l : List DNode} {x : DNode} (h : NodesOk l) (hx : NodeOk x l.length) : NodesOk (l ++ [x]) := fun i y hy => by
  rcases Nat.lt_trichotomy i l.length with hlt | rfl | hgt
  · rw [List.getElem?_append_left hlt] at hy
    exact h i y hy
  · rw [List.getElem?_append_right (Nat.le_refl _), Nat.sub_self] at hy
    cases hy
    exact hx
  · rw [List.getElem?_eq_none (by simp; omega)] at hy
    cases hy
theorem nodeOk_rmp {l : List Int} {x : DNode} {n m : Int} (h : NodeOk x n) (h5 : x.xKind = 5 → (0 ≤ kid l x.xA ∧ kid l x.xA < m) ∧ 0 ≤ kid l x.xB ∧ kid l x.xB < m) (h67 : x.xKind = 6 ∨ x.xKind = 7 → 0 ≤ kid l x.xA ∧ kid l x.xA < m) : NodeOk (rmp l x) m := by
  by_cases e5 : x.xKind = 5
  · rw [rmp_5 e5]
    refine (node_k5 ?_).2 ?_
    · exact e5
    have := h5 e5
    have := (node_k5 e5).1 h
    simp only
    omega
  by_cases e6 : x.xKind = 6
  · rw [rmp_67 (.inl e6)]
    refine (node_k6 ?_).2 ?_
    · exact e6
    have := h67 (.inl e6)
    have := (node_k6 e6).1 h
    simp only
    omega
  by_cases e7 : x.xKind = 7
  · rw [rmp_67 (.inr e7)]
    refine (node_k7 ?_).2 ?_
    · exact e7
    have := h67 (.inr e7)
    have := (node_k7 e7).1 h
    simp only
    omega
  rw [rmp_o e5 e6 e7]
  rcases h with h | h | h | h | h | h | h | h | h
  · exact .inl h
  · exact .inr (.inl h)
  · exact .inr (.inr (.inl h))
  · exact .inr (.inr (.inr (.inl h)))
  · exact absurd h.1 e5
  · exact absurd h.1 e6
  · exact absurd h.1 e7
  · exact .inr (.inr (.inr (.inr (.inr (.inr (.inr (.inl h)))))))
  · exact .inr (.inr (.inr (.inr (.inr (.inr (.inr (.inr h)))))))
/-- What comes is right, and where each is. -/
theorem mvS_ok {is : List Bool} {q pre : List DNode} (hq : poolOk q = true) (hc : Closed q is) (hpre : NodesOk pre) : ∀ k : Nat, k ≤ q.length →
    NodesOk (mvS 0 is q pre k).1 ∧ ∀ i : Nat, i < k → is[i]? = some true → ∃ j : Int, (mvS 0 is q pre k).2[i]? = some j ∧ (pre.length : Int) ≤ j ∧ j < (mvS 0 is q pre k).1.length
  | 0, _ => ⟨hpre, fun i h => absurd h (by omega)⟩
  | k + 1, hk => by
    obtain ⟨h1, h2⟩ := mvS_ok hq hc hpre k (by omega)
    obtain ⟨l1, -, l3⟩ := mvS_len (d := 0) (is := is) (q := q) (pre := pre) (k := k) (by omega)
    have hx : q[k]? = some q[k] := List.getElem?_eq_getElem (by omega)
    generalize q[k] = x at hx
    by_cases ht : is[k]? = some true
    · rw [mvS_yes hx ht]
      have hkid : ∀ a : Int, 0 ≤ a → a < k → is[a.toNat]? = some true → 0 ≤ kid (mvS 0 is q pre k).2 a ∧ kid (mvS 0 is q pre k).2 a < (mvS 0 is q pre k).1.length := fun a h0 h3 h4 => by
        obtain ⟨j, e1, e2, e3⟩ := h2 _ (by omega) h4
        rw [kid, e1]
        simp only [Option.getD_some]
        omega
      obtain ⟨k5, k67⟩ := hc.2 k x hx ht
      refine ⟨nodesOk_snoc h1 (nodeOk_rmp ((poolOk_t.1 hq).2 k x hx) (fun h5 => ?_) (fun h67 => ?_)), fun i hi h => ?_⟩
      · obtain ⟨⟨a0, a1⟩, b0, b1⟩ := kids_5 hq hx h5
        exact ⟨hkid _ a0 a1 (k5 h5).1, hkid _ b0 b1 (k5 h5).2⟩
      · obtain ⟨a0, a1⟩ := kids_67 hq hx h67
        exact hkid _ a0 a1 (k67 h67)
      · simp only [List.length_append, List.length_singleton]
        rcases Nat.lt_or_ge i k with hlt | hge
        · obtain ⟨j, e1, e2, e3⟩ := h2 i hlt h
          exact ⟨j, by rw [List.getElem?_append_left (by omega)]; exact e1, e2, by omega⟩
        · obtain rfl : i = k := by omega
          refine ⟨((mvS 0 is q pre i).1.length : Int), by rw [List.getElem?_append_right (by omega), l1, Nat.sub_self]; rfl, by omega, by omega⟩
    · rw [mvS_no' hx ht]
      refine ⟨h1, fun i hi h => ?_⟩
      rcases Nat.lt_or_ge i k with hlt | hge
      · obtain ⟨j, e1, e2, e3⟩ := h2 i hlt h
        exact ⟨j, by rw [List.getElem?_append_left (by omega)]; exact e1, e2, e3⟩
      · obtain rfl : i = k := by omega
        exact absurd h ht

/-- What hangs on roots, and where they are then. -/
def keepN (l : List DNode) (roots : List Int) : List DNode := (mvS 0 (reachL l roots) l [] l.length).1
def keepR (l : List DNode) (roots : List Int) : List Int := roots.map (kid (mvS 0 (reachL l roots) l [] l.length).2)
theorem keep_len (l : List DNode) (roots : List Int) : (keepN l roots).length ≤ l.length := by
  have := (mvS_len (d := 0) (is := reachL l roots) (q := l) (pre := []) (k := l.length) (Nat.le_refl _)).2.1
  unfold keepN
  simpa using this
theorem keep_ok {l : List DNode} (hp : poolOk l = true) (roots : List Int) : poolOk (keepN l roots) = true := by
  have h := (mvS_ok (pre := []) hp (reach_closed hp roots) (fun i x h => by simp at h) l.length (Nat.le_refl _)).1
  exact poolOk_t.2 ⟨by have := keep_len l roots; have := (poolOk_t.1 hp).1; omega, h⟩

end Go.Proofs.YtcaonpncopfeoaaGreat.V
