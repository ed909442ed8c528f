/- Payloads: what is written is read as it was; what is read is written as it was. -/
import Derived.Test.YtobmgdceengmiaaP9
set_option linter.unusedVariables false
set_option linter.unusedSimpArgs false
namespace Go.Proofs.Ytobmgdceengmiaa.V
open Go

theorem drop_cons_at {zs : List Int} {i : Nat} {d : Int} {r : List Int} (h : zs.drop i = d :: r) : zs[i]? = some d ∧ zs.drop (i + 1) = r := by
  constructor
  · have : (zs.drop i)[0]? = some d := by rw [h]; rfl
    simpa using this
  · rw [← List.drop_drop, h]
    rfl

theorem gn_num : ∀ (f n i : Nat) {zs rest : List Int}, zs.drop i = numL n ++ rest → n < 128 ^ f → (f < 9 → 0 < n) → gn zs f i = some ((n : Int), i + (numL n).length)
  | 0, n, i, zs, rest, h, hn, h0 => by
    have := h0 (by omega)
    simp at hn
    omega
  | f + 1, n, i, zs, rest, h, hn, h0 => by
    by_cases hs : n ≤ 127
    · rw [numL_small hs] at h ⊢
      obtain ⟨h1, h2⟩ := drop_cons_at h
      rw [gn_small h1 (by omega), if_neg (by
        rintro ⟨q1, q2⟩
        have := h0 q2
        omega)]
      rfl
    · rw [numL_big hs] at h ⊢
      obtain ⟨h1, h2⟩ := drop_cons_at h
      have hlt : n / 128 < 128 ^ f := by
        rw [Nat.pow_succ] at hn
        exact Nat.div_lt_of_lt_mul (by rw [Nat.mul_comm]; exact hn)
      rw [gn_big h1 (by omega), gn_num f (n / 128) (i + 1) h2 hlt (fun _ => by omega)]
      simp only [Option.map_some, List.length_cons]
      congr 1
      ext
      · simp only
        omega
      · simp only
        omega

theorem gn_canon : ∀ (f i : Nat) {zs : List Int} {x : Int} {j : Nat}, Bytes zs → f ≤ 9 → gn zs f i = some (x, j) → 0 ≤ x ∧ (f < 9 → 0 < x) ∧ zs.drop i = numL x.toNat ++ zs.drop j ∧ j = i + (numL x.toNat).length
  | 0, i, zs, x, j, hz, hf, h => by cases h
  | f + 1, i, zs, x, j, hz, hf, h => by
    cases hd : zs[i]? with
    | none => simp [gn, hd] at h
    | some d =>
      have hb := hz d (List.mem_of_getElem? hd)
      have hdr : zs.drop i = d :: zs.drop (i + 1) := by
        obtain ⟨hlt, e⟩ := List.getElem?_eq_some_iff.1 hd
        rw [List.drop_eq_getElem_cons hlt, e]
      by_cases hd1 : d < 128
      · rw [gn_small hd hd1] at h
        split at h
        · cases h
        · rename_i hc
          cases h
          rw [numL_small (by omega)]
          refine ⟨hb.1, fun h9 => ?_, ?_, rfl⟩
          · by_cases h0 : x = 0
            · exact absurd ⟨h0, h9⟩ hc
            · omega
          · rw [hdr, Int.toNat_of_nonneg hb.1]
            rfl
      · rw [gn_big hd hd1] at h
        cases hr : gn zs f (i + 1) with
        | none => rw [hr] at h; cases h
        | some p =>
          rw [hr] at h
          obtain ⟨y, j'⟩ := p
          simp only [Option.map_some, Option.some.injEq, Prod.mk.injEq] at h
          obtain ⟨rfl, rfl⟩ := h
          obtain ⟨i1, i2, i3, i4⟩ := gn_canon f (i + 1) hz (by omega) hr
          have hy := i2 (by omega)
          have e1 : (d % 128 + 128 * y).toNat / 128 = y.toNat := by omega
          have e2 : (((d % 128 + 128 * y).toNat % 128 + 128 : Nat) : Int) = d := by omega
          rw [numL_big (n := (d % 128 + 128 * y).toNat) (by omega), e1, e2]
          refine ⟨by omega, fun _ => by omega, ?_, ?_⟩
          · rw [hdr, i3]
            rfl
          · rw [i4]
            simp only [List.length_cons]
            omega

theorem get_num {zs rest : List Int} {n a : Nat} (h : zs.drop a = numL n ++ rest) (hn : n ≤ 9223372036854775807) : gX zs a = n ∧ gJ zs a = ((a + (numL n).length : Nat) : Int) ∧ gB zs a = true := by
  refine g_some ?_
  rw [getNum_pos (by omega), Int.toNat_natCast]
  exact gn_num 9 n a h (by have : (128 : Nat) ^ 9 = 9223372036854775808 := by decide
                           omega) (fun h => absurd h (by omega))

theorem get_canon {zs : List Int} (hz : Bytes zs) {a : Int} (h : gB zs a = true) : 0 ≤ a ∧ 0 ≤ gX zs a ∧ gJ zs a = ((a.toNat + (numL (gX zs a).toNat).length : Nat) : Int) ∧ zs.drop a.toNat = numL (gX zs a).toNat ++ zs.drop (gJ zs a).toNat := by
  cases hg : getNum zs a with
  | none => rw [(g_none hg).2.2] at h; cases h
  | some p =>
    obtain ⟨x, j⟩ := p
    obtain ⟨h1, h2, h3⟩ := g_some hg
    obtain ⟨b1, b2, b3, b4, b5⟩ := getNum_bounds hz hg
    rw [getNum_pos b1] at hg
    obtain ⟨c1, c2, c3, c4⟩ := gn_canon 9 a.toNat hz (by omega) hg
    rw [h1, h2]
    refine ⟨b1, b2, by rw [← c4], by rw [Int.toNat_natCast]; exact c3⟩

theorem strOfNums_sb (s : ByteArray) : strOfNums (sb s) = s := by
  unfold strOfNums sb
  apply ByteArray.ext
  apply Array.ext'
  simp [List.map_map, Function.comp_def]
theorem sb_strOfNums {xs : List Int} (h : Bytes xs) : sb (strOfNums xs) = xs := by
  unfold strOfNums sb
  simp only [List.map_map, Function.comp_def]
  conv => rhs; rw [← List.map_id xs]
  apply List.map_congr_left
  intro x hx
  have := h x hx
  simp only [id, UInt8.toNat_ofNat']
  omega
theorem numL_bytes : ∀ (n : Nat), Bytes (numL n) := by
  intro n
  induction n using Nat.strongRecOn with
  | _ n ih =>
    by_cases h : n ≤ 127
    · rw [numL_small h]
      intro z hz
      rw [List.mem_singleton.1 hz]
      omega
    · rw [numL_big h]
      intro z hz
      cases hz with
      | head => omega
      | tail _ hz => exact ih (n / 128) (by omega) z hz
theorem Bytes.app {a b : List Int} (ha : Bytes a) (hb : Bytes b) : Bytes (a ++ b) := fun z hz => (List.mem_append.1 hz).elim (ha z) (hb z)
theorem numI_pos {x : Int} (h : 0 ≤ x) : numI x = numL x.toNat := by
  unfold numI
  rw [if_neg (by omega)]

/-- A text is read as it was written. -/
theorem get_text {zs : List Int} {s : ByteArray} {a : Nat} (h : zs.drop a = putText s) (ha : a ≤ zs.length) (hs : s.size ≤ 10000000) : tB zs a = true ∧ tS zs a = s ∧ tJ zs a = zs.length := by
  unfold putText at h
  rw [numI_pos (by omega)] at h
  obtain ⟨h1, h2, h3⟩ := get_num h (by omega)
  have hlen : zs.length = a + (numL ((s.size : Int)).toNat).length + s.size := by
    have := congrArg List.length h
    simp [sb_len] at this
    simp only [Int.toNat_natCast]
    omega
  have hB : tB zs a = true := by
    unfold tB
    rw [h1, h2, h3]
    simp only [Bool.true_and, decide_eq_true_eq]
    omega
  refine ⟨hB, ?_, ?_⟩
  · unfold tS
    rw [if_pos hB, h1, h2]
    have e1 : (((a + (numL ((s.size : Int)).toNat).length : Nat) : Int) + ((s.size : Int).toNat : Nat)).toNat = zs.length := by omega
    rw [e1, List.take_length, Int.toNat_natCast, ← List.drop_drop, h]
    simp [strOfNums_sb]
  · unfold tJ
    rw [if_pos hB, h1, h2]
    omega

/-- A text that is read is written as it was. -/
theorem text_canon {zs : List Int} (hz : Bytes zs) {a : Int} (h : tB zs a = true) (hj : tJ zs a = zs.length) : 0 ≤ a ∧ zs.drop a.toNat = putText (tS zs a) := by
  have hB := h
  unfold tB at h
  simp only [Bool.and_eq_true, decide_eq_true_eq] at h
  obtain ⟨c1, c2, c3, c4⟩ := get_canon hz h.1
  unfold tJ at hj
  rw [if_pos hB] at hj
  refine ⟨c1, ?_⟩
  have e1 : (gJ zs a + gX zs a).toNat = zs.length := by omega
  have hS : tS zs a = strOfNums (zs.drop (gJ zs a).toNat) := by
    unfold tS
    rw [if_pos hB, e1, List.take_length]
  have hb : Bytes (zs.drop (gJ zs a).toNat) := fun z hz' => hz z (List.mem_of_mem_drop hz')
  have hsz : (tS zs a).size = (gX zs a).toNat := by
    rw [hS, strOfNums_size, List.length_drop]
    omega
  unfold putText
  rw [hsz, hS, sb_strOfNums hb, numI_pos (by omega), Int.toNat_natCast]
  exact c4

theorem putText_bytes (s : ByteArray) : Bytes (putText s) := by
  unfold putText
  rw [numI_pos (by omega)]
  exact (numL_bytes _).app (sb_bytes s)

theorem read_word {pid : Int} {s : ByteArray} (h0 : 0 ≤ pid) (h1 : pid ≤ 9223372036854775807) (hs : s.size ≤ 10000000) :
    mrOk (sb (mailWord pid s)) = true ∧ mrK (sb (mailWord pid s)) = 1 ∧ mrP (sb (mailWord pid s)) = pid ∧ mrT (sb (mailWord pid s)) = s := by
  have hb : Bytes (numI 1 ++ numI pid ++ putText s) := by
    rw [numI_pos h0, numI_pos (by omega)]
    exact ((numL_bytes _).app (numL_bytes _)).app (putText_bytes s)
  have e0 : mailWord pid s = strOfNums (numI 1 ++ numI pid ++ putText s) := by
    unfold mailWord
    rw [if_neg (by omega)]
  rw [e0, sb_strOfNums hb]
  have e1 : numI 1 = [1] := by rw [numI_pos (by omega), numL_small (by decide)]; rfl
  rw [e1, numI_pos h0]
  generalize hz : [1] ++ numL pid.toNat ++ putText s = zs
  have d0 : zs.drop 0 = numL 1 ++ (numL pid.toNat ++ putText s) := by rw [← hz, numL_small (n := 1) (by decide)]; simp
  have d1 : zs.drop 1 = numL pid.toNat ++ putText s := by rw [← hz]; simp
  have d2 : zs.drop (1 + (numL pid.toNat).length) = putText s := by
    rw [← List.drop_drop, d1]
    simp
  obtain ⟨a1, a2, a3⟩ := get_num d0 (by omega)
  obtain ⟨b1, b2, b3⟩ := get_num d1 (by omega)
  have hl : 1 + (numL pid.toNat).length ≤ zs.length := by rw [← hz]; simp; omega
  obtain ⟨c1, c2, c3⟩ := get_text d2 hl hs
  have a2' : gJ zs 0 = 1 := by
    have : (numL 1).length = 1 := by rw [numL_small (by decide)]; rfl
    rw [this] at a2
    exact a2
  have a1' : gX zs 0 = 1 := a1
  have a3' : gB zs 0 = true := a3
  have b1' : gX zs 1 = pid := by
    have : gX zs ((1 : Nat) : Int) = ((pid.toNat : Nat) : Int) := b1
    rw [Int.toNat_of_nonneg h0] at this
    exact this
  have b2' : gJ zs 1 = ((1 + (numL pid.toNat).length : Nat) : Int) := b2
  have b3' : gB zs 1 = true := b3
  have hok : mrOk zs = true := by
    unfold mrOk
    rw [a1', a2', a3', b2', b3', c1, c3]
    simp
  unfold mrK mrP mrT
  rw [hok, a1', a2', b1', b2', c2]
  exact ⟨rfl, rfl, rfl, rfl⟩

theorem read_move {s : ByteArray} (hs : s.size ≤ 10000000) :
    mrOk (sb (mailMove s)) = true ∧ mrK (sb (mailMove s)) = 2 ∧ mrP (sb (mailMove s)) = 0 ∧ mrT (sb (mailMove s)) = s := by
  have e1 : numI 2 = [2] := by rw [numI_pos (by omega), numL_small (by decide)]; rfl
  have hb : Bytes (numI 2 ++ putText s) := by
    rw [numI_pos (by omega)]
    exact (numL_bytes _).app (putText_bytes s)
  unfold mailMove
  rw [sb_strOfNums hb, e1]
  generalize hz : [2] ++ putText s = zs
  have d0 : zs.drop 0 = numL 2 ++ putText s := by rw [← hz, numL_small (n := 2) (by decide)]; simp
  have d1 : zs.drop 1 = putText s := by rw [← hz]; simp
  obtain ⟨a1, a2, a3⟩ := get_num d0 (by omega)
  obtain ⟨c1, c2, c3⟩ := get_text d1 (by rw [← hz]; simp) hs
  have a2' : gJ zs 0 = 1 := by
    have : (numL 2).length = 1 := by rw [numL_small (by decide)]; rfl
    rw [this] at a2
    exact a2
  have a1' : gX zs 0 = 2 := a1
  have a3' : gB zs 0 = true := a3
  have c1' : tB zs 1 = true := c1
  have c2' : tS zs 1 = s := c2
  have c3' : tJ zs 1 = zs.length := c3
  have hok : mrOk zs = true := by
    unfold mrOk
    rw [a1', a2', a3', c1', c3']
    simp
  unfold mrK mrP mrT
  rw [hok, a1', a2', c2']
  exact ⟨rfl, rfl, rfl, rfl⟩

/-- What is read is written as it was. -/
theorem read_canon {r : ByteArray} (h : mrOk (sb r) = true) :
    (mrK (sb r) = 1 → mailWord (mrP (sb r)) (mrT (sb r)) = r ∧ 0 ≤ mrP (sb r)) ∧ (mrK (sb r) ≠ 1 → mailMove (mrT (sb r)) = r) := by
  have hz := sb_bytes r
  have hR : strOfNums (sb r) = r := strOfNums_sb r
  generalize hzs : sb r = zs at *
  have h' := h
  unfold mrOk at h'
  simp only [Bool.and_eq_true, Bool.or_eq_true, decide_eq_true_eq] at h'
  obtain ⟨hg, hc⟩ := h'
  obtain ⟨_, c1, c2, c3⟩ := get_canon hz hg
  have c3' : zs = numL (gX zs 0).toNat ++ zs.drop (gJ zs 0).toNat := c3
  unfold mrK mrP mrT
  rw [h]
  simp only [if_true]
  refine ⟨fun hk => ?_, fun hk => ?_⟩
  · rw [hk]
    simp only [if_true]
    rcases hc with ⟨_, hg2, ht, hj⟩ | ⟨h2, _⟩
    · obtain ⟨_, b1, b2, b3⟩ := get_canon hz hg2
      obtain ⟨_, t1⟩ := text_canon hz ht hj
      refine ⟨?_, b1⟩
      unfold mailWord
      rw [if_neg (by omega), numI_pos b1, numI_pos (by omega), ← t1, List.append_assoc, ← b3]
      rw [hk] at c3'
      rw [← c3', hR]
    · omega
  · rw [if_neg hk]
    rcases hc with ⟨h1, _⟩ | ⟨h2, ht, hj⟩
    · exact absurd h1 hk
    · obtain ⟨_, t1⟩ := text_canon hz ht hj
      unfold mailMove
      rw [numI_pos (by omega), ← t1]
      rw [h2] at c3'
      rw [← c3', hR]

end Go.Proofs.Ytobmgdceengmiaa.V
