/- Stores: they are right. -/
import Derived.Test.YtppfojiogappaaaVH
set_option linter.unusedVariables false
set_option linter.unusedSimpArgs false
namespace Go.Proofs.Ytppfojiogappaaa.V
open Go Classical

theorem splC_len (row : List C) (off : Nat) (cs : List C) (h : off + cs.length ≤ row.length) : (splC row off cs).length = row.length := by
  simp [splC]; omega
theorem splC_in (row : List C) (off : Nat) (cs : List C) (h : off + cs.length ≤ row.length) (j : Nat) (hj : j < cs.length) : (splC row off cs)[off + j]? = cs[j]? := by
  simp only [splC, List.append_assoc]
  rw [List.getElem?_append_right (by simp; omega), List.getElem?_append_left (by simp; omega)]
  congr 1
  simp; omega
theorem splC_out (row : List C) (off : Nat) (cs : List C) (h : off + cs.length ≤ row.length) (k : Nat) (hk : k < off ∨ off + cs.length ≤ k) : (splC row off cs)[k]? = row[k]? := by
  simp only [splC, List.append_assoc]
  rcases hk with hk | hk
  · rw [List.getElem?_append_left (by simp; omega), List.getElem?_take, if_pos hk]
  · rw [List.getElem?_append_right (by simp; omega), List.getElem?_append_right (by simp; omega), List.getElem?_drop]
    simp only [List.length_take]
    rw [show min off row.length = off by omega, show off + cs.length + (k - off - cs.length) = k by omega]
theorem splX_len (row : List X) (off : Nat) (cs : List X) (h : off + cs.length ≤ row.length) : (splX row off cs).length = row.length := by
  simp [splX]; omega
theorem splX_in (row : List X) (off : Nat) (cs : List X) (h : off + cs.length ≤ row.length) (j : Nat) (hj : j < cs.length) : (splX row off cs)[off + j]? = cs[j]? := by
  simp only [splX, List.append_assoc]
  rw [List.getElem?_append_right (by simp; omega), List.getElem?_append_left (by simp; omega)]
  congr 1
  simp; omega
theorem splX_out (row : List X) (off : Nat) (cs : List X) (h : off + cs.length ≤ row.length) (k : Nat) (hk : k < off ∨ off + cs.length ≤ k) : (splX row off cs)[k]? = row[k]? := by
  simp only [splX, List.append_assoc]
  rcases hk with hk | hk
  · rw [List.getElem?_append_left (by simp; omega), List.getElem?_take, if_pos hk]
  · rw [List.getElem?_append_right (by simp; omega), List.getElem?_append_right (by simp; omega), List.getElem?_drop]
    simp only [List.length_take]
    rw [show min off row.length = off by omega, show off + cs.length + (k - off - cs.length) = k by omega]

/-- Two cells' places in a row of elements are apart. -/
theorem place_inj {n i j i' j' : Nat} (hj : j < n) (hj' : j' < n) (h : i * n + j = i' * n + j') : i = i' ∧ j = j' := by
  have h1 : (i * n + j) / n = i := by rw [Nat.add_comm, Nat.add_mul_div_right _ _ (by omega), Nat.div_eq_of_lt hj]; omega
  have h2 : (i' * n + j') / n = i' := by rw [Nat.add_comm, Nat.add_mul_div_right _ _ (by omega), Nat.div_eq_of_lt hj']; omega
  have h3 : i = i' := by rw [← h1, ← h2, h]
  subst h3
  exact ⟨rfl, by omega⟩
theorem place_lt {n i j len : Nat} (hi : i < len) (hj : j < n) : i * n + j < len * n := by
  have : (i + 1) * n ≤ len * n := Nat.mul_le_mul_right n hi
  rw [Nat.add_mul] at this
  omega

/-- An own slice with some cells of an element written. -/
theorem Own.set {w : World} {I F : Nat → Prop} {v : Value} {n : Nat} {es : List (List C)} (h : Own w I F v (.sl true n es)) {i : Nat} {row : List C} (hi : es[i]? = some row)
    (off : Nat) (vs : List Value) (cs : List C) (hlen : vs.length = cs.length) (hoff : off + cs.length ≤ n) (hone : ∀ u ∈ vs, u.oneCell' = true)
    (I' F' : Nat → Prop) (fs : Nat → Nat → Prop) (hI : ∀ b, I b → I' b) (hIF : ∀ b, F b → ¬ I' b) (hF : ∀ b, F b → F' b)
    (hfs : ∀ (j : Nat) (c : C), cs[j]? = some c → ∃ u, vs[j]? = some u ∧ Own w I' (fs j) u c)
    (hfF : ∀ j x, fs j x → F' x ∧ ¬ F x) (hfd : ∀ j j' x, fs j x → fs j' x → j = j') :
    ∃ g o cap cur e fr, v = .slice (some ⟨g, o, none⟩) es.length cap ∧ w.heap[g]? = some (.cells cur e fr) ∧ (∀ k, k < cur.size → ¬ (fr.1 ≤ k ∧ k < fr.2)) ∧ o + i * n + off + vs.length ≤ cur.size ∧ F g ∧
      Own (w.setRow g (spl cur (o + i * n + off) vs)) I' F' v (.sl true n (es.set i (splC row off cs))) := by
  cases h with
  | nil => simp at hi
  | row _ g o len cap _ _ cur e u f hFg hff hd fr hfr hg hsz hn hl0 hc hm hl hcell h1 hrr =>
    have hil : i < len := by rw [← hl0]; exact (List.getElem?_eq_some_iff.1 hi).1
    have hrow : row.length = n := hl i row hi
    have hbound : o + i * n + off + vs.length ≤ cur.size := by
      have h1 : (i + 1) * n ≤ cap * n := Nat.mul_le_mul_right n (by omega)
      rw [Nat.add_mul] at h1
      omega
    have hw : ∀ b, b ≠ g → (w.setRow g (spl cur (o + i * n + off) vs)).heap[b]? = w.heap[b]? := fun b hb => setRow_other w g b _ hb
    refine ⟨g, o, cap, cur, e, fr, by rw [hl0], hg, hfr, hbound, hFg, ?_⟩
    refine .row F' g o len cap n _ (spl cur (o + i * n + off) vs) e (fun a b => if a = i ∧ off ≤ b ∧ b < off + cs.length then vs.getD (b - off) undef else u a b)
      (fun a b x => if a = i ∧ off ≤ b ∧ b < off + cs.length then fs (b - off) x else f a b x) (hF _ hFg) (fun a b x hx => ?_) (fun a b a' b' x hx hx' => ?_) fr (by rw [spl_size _ _ _ hbound]; exact hfr)
      (setRow_heap w g cur _ e fr hg) (by rw [spl_size _ _ _ hbound]; exact hsz) hn (by simpa using hl0) hc hm (fun a r hr => ?_) (fun a b ha hb => ?_) (fun a b ha hb => ?_) (fun a b r c hr hb => ?_)
    · try simp only at hx
      split at hx
      · exact ⟨(hfF _ _ hx).1, fun e => (hfF _ _ hx).2 (e ▸ hFg)⟩
      · exact ⟨hF _ (hff a b x hx).1, (hff a b x hx).2⟩
    · try simp only at hx hx'
      split at hx
      · rename_i h1
        split at hx'
        · rename_i h2
          have := hfd _ _ _ hx hx'
          omega
        · exact absurd (hff a' b' x hx').1 (hfF _ _ hx).2
      · split at hx'
        · exact absurd (hff a b x hx).1 (hfF _ _ hx').2
        · exact hd a b a' b' x hx hx'
    · rw [List.getElem?_set] at hr
      split at hr
      · split at hr
        · cases hr
          rw [splC_len _ _ _ (by omega), hrow]
        · cases hr
      · exact hl a r hr
    · by_cases hin : a = i ∧ off ≤ b ∧ b < off + cs.length
      · rw [if_pos hin]
        obtain ⟨rfl, hb1, hb2⟩ := hin
        have := spl_in cur (o + a * n + off) vs hbound (b - off) (by omega)
        rw [show o + a * n + off + (b - off) = o + a * n + b by omega] at this
        rw [this, List.getElem?_eq_getElem (by omega)]
        simp [List.getD, List.getElem?_eq_getElem (show b - off < vs.length by omega)]
      · rw [if_neg hin]
        rw [spl_out _ _ _ hbound _ ?_]
        · exact hcell a b ha hb
        · by_cases hai : a = i
          · subst hai
            have : ¬ (off ≤ b ∧ b < off + cs.length) := fun h => hin ⟨rfl, h⟩
            omega
          · rcases Nat.lt_or_gt_of_ne hai with hlt | hgt
            · left
              have : (a + 1) * n ≤ i * n := Nat.mul_le_mul_right n hlt
              rw [Nat.add_mul] at this
              omega
            · right
              have : (i + 1) * n ≤ a * n := Nat.mul_le_mul_right n hgt
              rw [Nat.add_mul] at this
              omega
    · by_cases hin : a = i ∧ off ≤ b ∧ b < off + cs.length
      · rw [if_pos hin]
        have hbl : b - off < vs.length := by omega
        have : vs.getD (b - off) undef = vs[b - off] := by simp [List.getD, List.getElem?_eq_getElem hbl]
        rw [this]
        exact hone _ (by simp)
      · rw [if_neg hin]
        exact h1 a b ha hb
    · rw [List.getElem?_set] at hr
      by_cases hai : i = a
      · subst hai
        simp only [if_true] at hr
        split at hr
        · cases hr
          by_cases hin : off ≤ b ∧ b < off + cs.length
          · simp only [true_and, hin, and_self, if_true]
            have := splC_in row off cs (by omega) (b - off) (by omega)
            rw [show off + (b - off) = b by omega] at this
            rw [this] at hb
            obtain ⟨u', hu', hO⟩ := hfs _ c hb
            have hg' : vs.getD (b - off) undef = u' := by simp [List.getD, hu']
            rw [hg']
            refine hO.frame (fun _ h => h) (fun _ h => h) (fun x hx => hw x fun e => ?_) (fun x hx => hw x fun e => ?_)
            · exact hIF g hFg (e ▸ hx)
            · exact (hfF _ _ hx).2 (e ▸ hFg)
          · simp only [true_and, hin, if_false]
            rw [splC_out row off cs (by omega) b (by omega)] at hb
            refine (hrr i b row c hi hb).frame hI (fun _ h => h) (fun x hx => hw x fun e => ?_) (fun x hx => hw x fun e => ?_)
            · exact hIF g hFg (e ▸ hI _ hx)
            · exact (hff i b x hx).2 e
        · cases hr
      · rw [if_neg hai] at hr
        have hai' : ¬ (a = i ∧ off ≤ b ∧ b < off + cs.length) := fun h => hai h.1.symm
        simp only [hai', if_false]
        refine (hrr a b r c hr hb).frame hI (fun _ h => h) (fun x hx => hw x fun e => ?_) (fun x hx => hw x fun e => ?_)
        · exact hIF g hFg (e ▸ hI _ hx)
        · exact (hff a b x hx).2 e

end Go.Proofs.Ytppfojiogappaaa.V
