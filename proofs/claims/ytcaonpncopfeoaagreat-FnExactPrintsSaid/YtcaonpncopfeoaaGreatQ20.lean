/- What is written is read again. (plain) -/
import Derived.Test.YtcaonpncopfeoaaGreatQ19
set_option linter.unusedVariables false
set_option linter.unusedSimpArgs false
namespace Go.Proofs.YtcaonpncopfeoaaGreat.V
open Go

theorem at_mid (pre : List Int) (d : Int) (r post : List Int) : (pre ++ (d :: r) ++ post)[pre.length]? = some d := by
  rw [List.append_assoc, List.getElem?_append_right (Nat.le_refl _), Nat.sub_self]
  rfl
theorem gn_numL : ∀ (f n : Nat) (pre post : List Int), n < 128 ^ f → (n ≠ 0 ∨ f = 9) → f ≤ 9 → gn (pre ++ numL n ++ post) f pre.length = some ((n : Int), pre.length + (numL n).length)
  | 0, n, pre, post, h, _, _ => by
    have h0 : n < 1 := h
    have : n = 0 := by omega
    omega
  | f + 1, n, pre, post, h, h0, hf => by
    by_cases hn : n ≤ 127
    · rw [numL_small hn]
      rw [gn_small (at_mid pre (n : Int) [] post) (by omega), if_neg (by omega)]
      rfl
    · rw [numL_big hn]
      rw [gn_big (at_mid pre _ _ post) (by omega)]
      have e : pre ++ (((n % 128 + 128 : Nat) : Int) :: numL (n / 128)) ++ post = (pre ++ [((n % 128 + 128 : Nat) : Int)]) ++ numL (n / 128) ++ post := by simp
      have hl : pre.length + 1 = (pre ++ [((n % 128 + 128 : Nat) : Int)]).length := by simp
      rw [e, hl, gn_numL f (n / 128) _ post (by rw [Nat.pow_succ] at h; omega) (.inl (by omega)) (by omega)]
      simp only [Option.map_some, Option.some.injEq, Prod.mk.injEq]
      refine ⟨by omega, ?_⟩
      simp
      omega
theorem numI_pos {x : Int} (h : 0 ≤ x) : numI x = numL x.toNat := by unfold numI; rw [if_neg (by omega)]
/-- A number in the midst. -/
theorem num_mid (pre post : List Int) {x : Int} (h0 : 0 ≤ x) (h1 : x ≤ 9223372036854775807) :
    gB (pre ++ numI x ++ post) pre.length = true ∧ gX (pre ++ numI x ++ post) pre.length = x ∧ gJ (pre ++ numI x ++ post) pre.length = ((pre.length + (numI x).length : Nat) : Int) := by
  have h : getNum (pre ++ numI x ++ post) (pre.length : Nat) = some (x, pre.length + (numI x).length) := by
    rw [getNum_pos (by omega), numI_pos h0, Int.toNat_natCast]
    have := gn_numL 9 x.toNat pre post (by have : (128 : Nat) ^ 9 = 9223372036854775808 := by decide
                                           omega) (.inr rfl) (Nat.le_refl _)
    rw [this, Int.toNat_of_nonneg h0]
  obtain ⟨e1, e2, e3⟩ := g_some h
  exact ⟨e3, e1, e2⟩
theorem strOfNums_sb (s : ByteArray) : strOfNums (sb s) = s := by
  apply ByteArray.ext
  show ((sb s).map fun n : Int => UInt8.ofNat n.toNat).toArray = s.data
  rw [sb, List.map_map]
  have : (fun n : Int => UInt8.ofNat n.toNat) ∘ (fun b : UInt8 => (b.toNat : Int)) = id := by
    funext b
    simp
  rw [this, List.map_id]
theorem sb_strOfNums {l : List Int} (h : Bytes l) : sb (strOfNums l) = l := by
  unfold sb
  show ((l.map fun n : Int => UInt8.ofNat n.toNat).toArray.toList.map fun b => (b.toNat : Int)) = l
  rw [List.toList_toArray, List.map_map]
  have : ∀ n ∈ l, ((fun b : UInt8 => (b.toNat : Int)) ∘ fun n : Int => UInt8.ofNat n.toNat) n = n := fun n hn => by
    obtain ⟨h0, h1⟩ := h n hn
    simp only [Function.comp]
    have : (UInt8.ofNat n.toNat).toNat = n.toNat := by
      rw [UInt8.toNat_ofNat']
      exact Nat.mod_eq_of_lt (by omega)
    rw [this]
    omega
  rw [List.map_congr_left this]
  simp
/-- A text in the midst. -/
theorem text_mid (pre post : List Int) {s : ByteArray} (hs : s.size ≤ 1000000000) :
    tB (pre ++ putText s ++ post) pre.length = true ∧ tS (pre ++ putText s ++ post) pre.length = s ∧ tJ (pre ++ putText s ++ post) pre.length = ((pre.length + (putText s).length : Nat) : Int) := by
  have e : pre ++ putText s ++ post = pre ++ numI s.size ++ (sb s ++ post) := by simp [putText]
  obtain ⟨h1, h2, h3⟩ := num_mid pre (sb s ++ post) (x := s.size) (by omega) (by omega)
  rw [← e] at h1 h2 h3
  have hB : tB (pre ++ putText s ++ post) pre.length = true := by
    unfold tB
    rw [h1, h2, h3]
    simp only [Bool.true_and, decide_eq_true_eq]
    simp [putText, sb_len]
    omega
  refine ⟨hB, ?_, ?_⟩
  · unfold tS
    rw [if_pos hB, h2, h3, e]
    have e1 : (((pre.length + (numI s.size).length : Nat) : Int) + s.size).toNat = (pre ++ numI s.size ++ sb s).length := by
      simp [sb_len]
      omega
    have e2 : ((pre.length + (numI s.size).length : Nat) : Int).toNat = (pre ++ numI s.size).length := by
      simp
      omega
    rw [e1, e2, ← List.append_assoc, List.take_left, List.drop_left]
    exact strOfNums_sb s
  · unfold tJ
    rw [if_pos hB, h2, h3]
    simp [putText, sb_len]
    omega

theorem emp_eq {s : ByteArray} (h : s.size = 0) : s = ⟨#[]⟩ := ByteArray.ext (Array.eq_empty_of_size_eq_zero h)
/-- A node in the midst. -/
theorem node_mid (pre post : List Int) {x : DNode} {n : Int} (h : NodeOk x n) (hn : n ≤ 1000000000) : ndP (pre ++ nodeB x ++ post) pre.length = some (x, ((pre.length + (nodeB x).length : Nat) : Int)) := by
  obtain ⟨k, N, S, A, B⟩ := x
  have h9 : 1 ≤ k ∧ k ≤ 9 := by
    rcases h with h | h | h | h | h | h | h | h | h <;> (have := h.1; simp only at this; omega)
  -- one number behind the kind
  have one : ∀ y : Int, 0 ≤ y → y ≤ 9223372036854775807 → ∀ r : List Int, gB (pre ++ (numI k ++ (numI y ++ r)) ++ post) pre.length = true ∧ gX (pre ++ (numI k ++ (numI y ++ r)) ++ post) pre.length = k ∧ gJ (pre ++ (numI k ++ (numI y ++ r)) ++ post) pre.length = ((pre ++ numI k).length : Nat) ∧
      gB (pre ++ (numI k ++ (numI y ++ r)) ++ post) ((pre ++ numI k).length : Nat) = true ∧ gX (pre ++ (numI k ++ (numI y ++ r)) ++ post) ((pre ++ numI k).length : Nat) = y ∧ gJ (pre ++ (numI k ++ (numI y ++ r)) ++ post) ((pre ++ numI k).length : Nat) = ((pre ++ numI k ++ numI y).length : Nat) := by
    intro y y0 y1 r
    have e1 : pre ++ (numI k ++ (numI y ++ r)) ++ post = pre ++ numI k ++ ((numI y ++ r) ++ post) := by simp
    have e2 : pre ++ (numI k ++ (numI y ++ r)) ++ post = (pre ++ numI k) ++ numI y ++ (r ++ post) := by simp
    obtain ⟨a1, a2, a3⟩ := num_mid pre ((numI y ++ r) ++ post) (x := k) (by omega) (by omega)
    obtain ⟨b1, b2, b3⟩ := num_mid (pre ++ numI k) (r ++ post) y0 y1
    rw [← e1] at a1 a2 a3
    rw [← e2] at b1 b2 b3
    exact ⟨a1, a2, by rw [a3, List.length_append], b1, b2, by rw [b3]; simp; omega⟩
  have two : ∀ y z : Int, 0 ≤ z → z ≤ 9223372036854775807 → gB (pre ++ (numI k ++ (numI y ++ numI z)) ++ post) ((pre ++ numI k ++ numI y).length : Nat) = true ∧ gX (pre ++ (numI k ++ (numI y ++ numI z)) ++ post) ((pre ++ numI k ++ numI y).length : Nat) = z ∧ gJ (pre ++ (numI k ++ (numI y ++ numI z)) ++ post) ((pre ++ numI k ++ numI y).length : Nat) = ((pre ++ numI k ++ numI y ++ numI z).length : Nat) := by
    intro y z z0 z1
    have e2 : pre ++ (numI k ++ (numI y ++ numI z)) ++ post = (pre ++ numI k ++ numI y) ++ numI z ++ post := by simp
    obtain ⟨b1, b2, b3⟩ := num_mid (pre ++ numI k ++ numI y) post z0 z1
    rw [← e2] at b1 b2 b3
    exact ⟨b1, b2, by rw [b3]; simp; omega⟩
  have single : ∀ y : Int, 0 ≤ y → y ≤ 9223372036854775807 → nodeB ⟨k, N, S, A, B⟩ = numI k ++ numI y → gB (pre ++ nodeB ⟨k, N, S, A, B⟩ ++ post) pre.length = true ∧ gX (pre ++ nodeB ⟨k, N, S, A, B⟩ ++ post) pre.length = k ∧ gB (pre ++ nodeB ⟨k, N, S, A, B⟩ ++ post) (gJ (pre ++ nodeB ⟨k, N, S, A, B⟩ ++ post) pre.length) = true ∧
      gX (pre ++ nodeB ⟨k, N, S, A, B⟩ ++ post) (gJ (pre ++ nodeB ⟨k, N, S, A, B⟩ ++ post) pre.length) = y ∧ gJ (pre ++ nodeB ⟨k, N, S, A, B⟩ ++ post) (gJ (pre ++ nodeB ⟨k, N, S, A, B⟩ ++ post) pre.length) = ((pre.length + (nodeB ⟨k, N, S, A, B⟩).length : Nat) : Int) := by
    intro y y0 y1 e
    obtain ⟨a1, a2, a3, a4, a5, a6⟩ := one y y0 y1 []
    rw [List.append_nil] at a1 a2 a3 a4 a5 a6
    rw [e, a3]
    exact ⟨a1, a2, a4, a5, by rw [a6]; simp <;> omega⟩
  have double : ∀ y z : Int, 0 ≤ y → y ≤ 9223372036854775807 → 0 ≤ z → z ≤ 9223372036854775807 → nodeB ⟨k, N, S, A, B⟩ = numI k ++ (numI y ++ numI z) → gB (pre ++ nodeB ⟨k, N, S, A, B⟩ ++ post) pre.length = true ∧ gX (pre ++ nodeB ⟨k, N, S, A, B⟩ ++ post) pre.length = k ∧ gB (pre ++ nodeB ⟨k, N, S, A, B⟩ ++ post) (gJ (pre ++ nodeB ⟨k, N, S, A, B⟩ ++ post) pre.length) = true ∧
      gX (pre ++ nodeB ⟨k, N, S, A, B⟩ ++ post) (gJ (pre ++ nodeB ⟨k, N, S, A, B⟩ ++ post) pre.length) = y ∧ gB (pre ++ nodeB ⟨k, N, S, A, B⟩ ++ post) (gJ (pre ++ nodeB ⟨k, N, S, A, B⟩ ++ post) (gJ (pre ++ nodeB ⟨k, N, S, A, B⟩ ++ post) pre.length)) = true ∧
      gX (pre ++ nodeB ⟨k, N, S, A, B⟩ ++ post) (gJ (pre ++ nodeB ⟨k, N, S, A, B⟩ ++ post) (gJ (pre ++ nodeB ⟨k, N, S, A, B⟩ ++ post) pre.length)) = z ∧
      gJ (pre ++ nodeB ⟨k, N, S, A, B⟩ ++ post) (gJ (pre ++ nodeB ⟨k, N, S, A, B⟩ ++ post) (gJ (pre ++ nodeB ⟨k, N, S, A, B⟩ ++ post) pre.length)) = ((pre.length + (nodeB ⟨k, N, S, A, B⟩).length : Nat) : Int) := by
    intro y z y0 y1 z0 z1 e
    obtain ⟨a1, a2, a3, a4, a5, a6⟩ := one y y0 y1 (numI z)
    obtain ⟨b1, b2, b3⟩ := two y z z0 z1
    rw [e, a3, a6]
    exact ⟨a1, a2, a4, a5, b1, b2, by rw [b3]; simp <;> omega⟩
  rcases h with ⟨rfl, h⟩ | ⟨rfl, h⟩ | ⟨rfl, h⟩ | ⟨rfl, h⟩ | ⟨rfl, h⟩ | ⟨rfl, h⟩ | ⟨rfl, h⟩ | ⟨rfl, h⟩ | ⟨rfl, h⟩ <;> simp only at h
  · obtain ⟨rfl, hS, rfl, rfl⟩ := h
    obtain rfl := emp_eq hS
    rw [show nodeB ⟨1, 0, ⟨#[]⟩, 0, 0⟩ = numI 1 by simp [nodeB]]
    obtain ⟨a1, a2, a3⟩ := num_mid pre post (x := 1) (by omega) (by omega)
    generalize pre ++ numI 1 ++ post = zs at a1 a2 a3 ⊢
    unfold ndP
    rw [if_pos a1, a2]
    simp [a3, nd0]
  · obtain ⟨h0, h1, hS, rfl, rfl⟩ := h
    obtain rfl := emp_eq hS
    obtain ⟨a1, a2, a3, a4, a5⟩ := single N (by omega) (by omega) (by simp [nodeB])
    generalize pre ++ nodeB _ ++ post = zs at a1 a2 a3 a4 a5 ⊢
    unfold ndP
    rw [if_pos a1, a2]
    simp [a3, a4, a5]
  · obtain ⟨h0, h1, hS, rfl, rfl⟩ := h
    obtain rfl := emp_eq hS
    obtain ⟨a1, a2, a3, a4, a5⟩ := single (N + 1000000000) (by omega) (by omega) (by simp [nodeB])
    generalize pre ++ nodeB _ ++ post = zs at a1 a2 a3 a4 a5 ⊢
    unfold ndP
    rw [if_pos a1, a2]
    simp [a3, a4, a5]
  · obtain ⟨rfl, hS, rfl, rfl⟩ := h
    have hs := nameI_size hS
    have e : nodeB ⟨4, 0, S, 0, 0⟩ = numI 4 ++ putText S := by simp [nodeB]
    rw [e]
    have e1 : pre ++ (numI 4 ++ putText S) ++ post = pre ++ numI 4 ++ (putText S ++ post) := by simp
    have e2 : pre ++ (numI 4 ++ putText S) ++ post = (pre ++ numI 4) ++ putText S ++ post := by simp
    obtain ⟨a1, a2, a3⟩ := num_mid pre (putText S ++ post) (x := 4) (by omega) (by omega)
    obtain ⟨b1, b2, b3⟩ := text_mid (pre ++ numI 4) post (s := S) (by omega)
    rw [← e1] at a1 a2 a3
    rw [← e2, List.length_append] at b1 b2 b3
    clear e1 e2 e
    generalize pre ++ (numI 4 ++ putText S) ++ post = zs at a1 a2 a3 b1 b2 b3 ⊢
    unfold ndP
    rw [if_pos a1, a2, a3, if_neg (by decide), if_neg (by decide), if_pos rfl, if_pos b1, b2, b3, List.length_append, Nat.add_assoc]
  · obtain ⟨rfl, hS, h0, h1, h2, h3⟩ := h
    obtain rfl := emp_eq hS
    obtain ⟨a1, a2, a3, a4, a5, a6, a7⟩ := double A B (by omega) (by omega) (by omega) (by omega) (by simp [nodeB])
    generalize pre ++ nodeB _ ++ post = zs at a1 a2 a3 a4 a5 a6 a7 ⊢
    unfold ndP
    rw [if_pos a1, a2]
    simp [a3, a4, a5, a6, a7]
  · obtain ⟨h4, h5, hS, h0, h1, rfl⟩ := h
    obtain rfl := emp_eq hS
    obtain ⟨a1, a2, a3, a4, a5, a6, a7⟩ := double N A (by omega) (by omega) (by omega) (by omega) (by simp [nodeB])
    generalize pre ++ nodeB _ ++ post = zs at a1 a2 a3 a4 a5 a6 a7 ⊢
    unfold ndP
    rw [if_pos a1, a2]
    simp [a3, a4, a5, a6, a7]
  · obtain ⟨rfl, hS, h0, h1, rfl⟩ := h
    obtain rfl := emp_eq hS
    obtain ⟨a1, a2, a3, a4, a5⟩ := single A (by omega) (by omega) (by simp [nodeB])
    generalize pre ++ nodeB _ ++ post = zs at a1 a2 a3 a4 a5 ⊢
    unfold ndP
    rw [if_pos a1, a2]
    simp [a3, a4, a5]
  · obtain ⟨h0, h1, hS, rfl, rfl⟩ := h
    obtain rfl := emp_eq hS
    obtain ⟨a1, a2, a3, a4, a5⟩ := single N (by omega) (by omega) (by simp [nodeB])
    generalize pre ++ nodeB _ ++ post = zs at a1 a2 a3 a4 a5 ⊢
    unfold ndP
    rw [if_pos a1, a2]
    simp [a3, a4, a5]
  · obtain ⟨h0, h1, hS, rfl, rfl⟩ := h
    obtain rfl := emp_eq hS
    obtain ⟨a1, a2, a3, a4, a5⟩ := single N (by omega) (by omega) (by simp [nodeB])
    generalize pre ++ nodeB _ ++ post = zs at a1 a2 a3 a4 a5 ⊢
    unfold ndP
    rw [if_pos a1, a2]
    simp [a3, a4, a5]

/-- What is written stands at its place in the whole. -/
theorem packA_pre (l : List DNode) : ∀ d k : Nat, k + d = l.length → ∃ r, packL l = packA l k ++ r
  | 0, k, h => ⟨[], by rw [packL, List.append_nil, show l.length = k by omega]⟩
  | d + 1, k, h => by
    obtain ⟨r, hr⟩ := packA_pre l d (k + 1) (by omega)
    have hx : l[k]? = some l[k] := List.getElem?_eq_getElem (by omega)
    exact ⟨nodeB l[k] ++ r, by rw [hr, packA_step hx, List.append_assoc]⟩
theorem nds_pack {l : List DNode} (h : NodesOk l) (hl : l.length ≤ 400000) : ∀ k : Nat, k ≤ l.length → ndsS (packL l) (((packA l 0).length : Nat) : Int) k = some (l.take k, (((packA l k).length : Nat) : Int))
  | 0, _ => rfl
  | k + 1, hk => by
    have hx : l[k]? = some l[k] := List.getElem?_eq_getElem (by omega)
    obtain ⟨r, hr⟩ := packA_pre l (l.length - (k + 1)) (k + 1) (by omega)
    rw [packA_step hx] at hr
    have hn := node_mid (packA l k) r (h k _ hx) (by omega)
    rw [← hr] at hn
    rw [ndsS_step (nds_pack h hl k (by omega)) hn, List.take_add_one, hx, packA_step hx, List.length_append]
    rfl
/-- A pool that is written is read again, to its end. -/
theorem pool_pack {l : List DNode} (h : poolOk l = true) : poolP (packL l) 0 = some (l, (((packL l).length : Nat) : Int)) := by
  obtain ⟨hl, hN⟩ := poolOk_t.1 h
  obtain ⟨r, hr⟩ := packA_pre l l.length 0 (by omega)
  obtain ⟨a1, a2, a3⟩ := num_mid [] r (x := l.length) (by omega) (by omega)
  have e : packL l = [] ++ numI l.length ++ r := hr
  rw [← e] at a1 a2 a3
  replace a1 : gB (packL l) 0 = true := a1
  replace a2 : gX (packL l) 0 = l.length := a2
  replace a3 : gJ (packL l) 0 = (((packA l 0).length : Nat) : Int) := by
    refine Eq.trans a3 ?_
    simp [packA]
  unfold poolP
  rw [if_pos ⟨a1, by omega⟩, a2, a3, Int.toNat_natCast]
  have := nds_pack hN (by omega) l.length (Nat.le_refl _)
  rw [List.take_length] at this
  exact this

end Go.Proofs.YtcaonpncopfeoaaGreat.V
