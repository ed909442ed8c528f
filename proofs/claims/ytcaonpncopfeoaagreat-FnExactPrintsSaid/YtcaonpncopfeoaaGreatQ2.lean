/- What GetNum and GetText come to. -/
import Derived.Test.YtcaonpncopfeoaaGreatQ1
set_option linter.unusedVariables false
set_option linter.unusedSimpArgs false
namespace Go.Proofs.YtcaonpncopfeoaaGreat.V
open Go

/-- A number read from a place on, so many bytes at most. -/
def gn (zs : List Int) : Nat → Nat → Option (Int × Nat)
  | 0, _ => none
  | f + 1, i => match zs[i]? with
    | none => none
    | some d => if d < 128 then (if d = 0 ∧ f + 1 < 9 then none else some (d, i + 1)) else (gn zs f (i + 1)).map fun p => (d % 128 + 128 * p.1, p.2)

def cm (acc : Int) (K : Nat) (r : Option (Int × Nat)) : Option (Int × Nat) := r.map fun p => (acc + 128 ^ K * p.1, p.2)

theorem gn_none {zs : List Int} {f i : Nat} (h : f = 0 ∨ zs.length ≤ i) : gn zs f i = none := by
  cases f with
  | zero => rfl
  | succ f =>
    have : zs[i]? = none := by
      rw [List.getElem?_eq_none_iff]
      omega
    simp [gn, this]

theorem gn_small {zs : List Int} {f i : Nat} {d : Int} (h : zs[i]? = some d) (hd : d < 128) : gn zs (f + 1) i = if d = 0 ∧ f + 1 < 9 then none else some (d, i + 1) := by
  simp [gn, h, hd]
theorem gn_big {zs : List Int} {f i : Nat} {d : Int} (h : zs[i]? = some d) (hd : ¬ d < 128) : gn zs (f + 1) i = (gn zs f (i + 1)).map fun p => (d % 128 + 128 * p.1, p.2) := by
  simp [gn, h, hd]

theorem cm_small {zs : List Int} {a K : Nat} {acc d : Int} (hK : K < 9) (h : zs[a + K]? = some d) (hd : d < 128) (hi : cm acc K (gn zs (9 - K) (a + K)) = gn zs 9 a) :
    (d = 0 ∧ 0 < K → gn zs 9 a = none) ∧ (¬ (d = 0 ∧ 0 < K) → gn zs 9 a = some (acc + 128 ^ K * d, a + K + 1)) := by
  have e : 9 - K = (9 - K - 1) + 1 := by omega
  rw [e, gn_small h hd] at hi
  refine ⟨fun hc => ?_, fun hc => ?_⟩
  · rw [if_pos (by omega)] at hi
    exact hi.symm
  · rw [if_neg (by omega)] at hi
    exact hi.symm
theorem cm_big {zs : List Int} {a K : Nat} {acc d : Int} (hK : K < 9) (h : zs[a + K]? = some d) (hd : ¬ d < 128) (hi : cm acc K (gn zs (9 - K) (a + K)) = gn zs 9 a) :
    cm (acc + 128 ^ K * (d % 128)) (K + 1) (gn zs (9 - (K + 1)) (a + (K + 1))) = gn zs 9 a := by
  have e : 9 - K = (9 - (K + 1)) + 1 := by omega
  rw [e, gn_big h hd] at hi
  rw [← hi]
  unfold cm
  rw [show a + (K + 1) = a + K + 1 by omega]
  cases gn zs (9 - (K + 1)) (a + K + 1) with
  | none => rfl
  | some p =>
    simp only [Option.map_some]
    congr 2
    rw [Int.pow_succ, Int.mul_add, ← Int.mul_assoc, Int.add_assoc]
theorem cm_end {zs : List Int} {a K : Nat} {acc : Int} (h : 9 ≤ K ∨ zs.length ≤ a + K) (hi : cm acc K (gn zs (9 - K) (a + K)) = gn zs 9 a) : gn zs 9 a = none := by
  rw [gn_none (by omega)] at hi
  exact hi.symm

theorem pow128 {K : Nat} (h : K ≤ 9) : 0 < (128 : Int) ^ K ∧ (128 : Int) ^ K ≤ 9223372036854775808 := by
  rcases (show K = 0 ∨ K = 1 ∨ K = 2 ∨ K = 3 ∨ K = 4 ∨ K = 5 ∨ K = 6 ∨ K = 7 ∨ K = 8 ∨ K = 9 by omega) with rfl | rfl | rfl | rfl | rfl | rfl | rfl | rfl | rfl | rfl <;> decide
theorem pow128' {K : Nat} (h : K < 9) : 0 < (128 : Int) ^ K ∧ (128 : Int) ^ K * 128 ≤ 9223372036854775808 := by
  have := pow128 (K := K + 1) (by omega)
  rw [Int.pow_succ] at this
  exact ⟨(pow128 (K := K) (by omega)).1, this.2⟩
theorem acc_step {K : Nat} {acc d : Int} (hK : K < 9) (h0 : 0 ≤ acc) (h1 : acc < 128 ^ K) (hd0 : 0 ≤ d) (hd : d < 128) :
    0 ≤ 128 ^ K * d ∧ 128 ^ K * d ≤ 9223372036854775807 ∧ 0 ≤ acc + 128 ^ K * d ∧ acc + 128 ^ K * d ≤ 9223372036854775807 ∧ acc + 128 ^ K * d < 128 ^ (K + 1) := by
  obtain ⟨p0, p1⟩ := pow128' hK
  rw [Int.pow_succ]
  generalize (128 : Int) ^ K = P at *
  have a1 : 0 ≤ P * d := Int.mul_nonneg (by omega) hd0
  have a2 : P * d ≤ P * 127 := Int.mul_le_mul_of_nonneg_left (by omega) (by omega)
  omega

@[irreducible] def getNum (zs : List Int) (at' : Int) : Option (Int × Nat) := if at' < 0 then none else gn zs 9 at'.toNat
@[irreducible] def gX (zs : List Int) (at' : Int) : Int := ((getNum zs at').getD (0, 0)).1
@[irreducible] def gJ (zs : List Int) (at' : Int) : Int := ((getNum zs at').getD (0, 0)).2
@[irreducible] def gB (zs : List Int) (at' : Int) : Bool := (getNum zs at').isSome

theorem g_none {zs : List Int} {a : Int} (h : getNum zs a = none) : gX zs a = 0 ∧ gJ zs a = 0 ∧ gB zs a = false := by
  unfold gX gJ gB
  rw [h]
  exact ⟨rfl, rfl, rfl⟩
theorem g_some {zs : List Int} {a x : Int} {j : Nat} (h : getNum zs a = some (x, j)) : gX zs a = x ∧ gJ zs a = j ∧ gB zs a = true := by
  unfold gX gJ gB
  rw [h]
  exact ⟨rfl, rfl, rfl⟩
theorem gRes_none {zs : List Int} {a : Int} (h : getNum zs a = none) : [iR 0, iR 0, bR false] = [iR (gX zs a), iR (gJ zs a), bR (gB zs a)] ∧ ([] : List (List C)) = [] := by
  obtain ⟨h1, h2, h3⟩ := g_none h
  rw [h1, h2, h3]
  exact ⟨rfl, rfl⟩
theorem gRes_some {zs : List Int} {a x y z : Int} {j : Nat} (h : getNum zs a = some (x, j)) (hy : y = x) (hz : z = j) : [iR y, iR z, bR true] = [iR (gX zs a), iR (gJ zs a), bR (gB zs a)] ∧ ([] : List (List C)) = [] := by
  obtain ⟨h1, h2, h3⟩ := g_some h
  rw [h1, h2, h3, hy, hz]
  exact ⟨rfl, rfl⟩
theorem getNum_pos {zs : List Int} {a : Int} (h : 0 ≤ a) : getNum zs a = gn zs 9 a.toNat := by
  unfold getNum
  rw [if_neg (by omega)]
theorem getNum_out {zs : List Int} {a : Int} (h : a < 0 ∨ (zs.length : Int) ≤ a) : getNum zs a = none := by
  unfold getNum
  split
  · rfl
  · exact gn_none (.inr (by omega))

def MdE2 (f : Nat) : List Mode :=
  match f with
  | 112 => [.rd, .rd, .rd]
  | _ => []
def E2 : Env := ⟨τ, MdE2⟩

set_option maxRecDepth 100000 in
theorem s_l1In_ok (x y z : Int) : FnV Tryz.prog 101 [iV x, iV y, iV z] fun rs outs => rs = [bR (decide (y ≤ x ∧ x ≤ z))] ∧ outs = [] := by
  refine fn_ok (E := E2) τ_ok mixed Tryz.func101 (by rfl) (by rfl) false (by simp [Tryz.f101]) ?_
  conv => whnf
  repeat' (refine br_if (fun h => ?_) (fun h => ?_) <;> (try rw [h]) <;> (conv => whnf))
  all_goals refine bR_eq ?_
  all_goals simp [leI_eq] at *
  all_goals omega

set_option maxRecDepth 100000 in
theorem i_within_ok (x y z : Int) : FnV Tryz.prog 112 [iV x, iV y, iV z] fun rs outs => rs = [bR (decide (y ≤ x ∧ x ≤ z))] ∧ outs = [] := by
  refine fn_ok (E := E2) τ_ok mixed Tryz.func112 (by rfl) (by rfl) false (by simp [Tryz.f112]) ?_
  conv => whnf
  repeat' (refine br_if (fun h => ?_) (fun h => ?_) <;> (try rw [h]) <;> (conv => whnf))
  all_goals refine bR_eq ?_
  all_goals simp [leI_eq] at *
  all_goals omega

theorem bts_at {zs : List Int} {i : Nat} {d : Int} (h : zs[i]? = some d) : (bts zs)[i]? = some [.sc (.int .u8 d)] := by simp [bts, h]

def Bytes (zs : List Int) : Prop := ∀ z ∈ zs, 0 ≤ z ∧ z < 256

set_option maxRecDepth 100000 in
theorem s_GetNum_ok (zs : List Int) (a : Int) (hz : Bytes zs) (hl : zs.length ≤ 1000000000) (ha0 : -9223372036854775808 ≤ a) (ha : a ≤ 9223372036854775807) :
    FnV Tryz.prog 171 [bV zs, iV a] fun rs outs => rs = [iR (gX zs a), iR (gJ zs a), bR (gB zs a)] ∧ outs = [] := by
  refine fn_ok (E := E2) τ_ok mixed Tryz.func171 (by rfl) (by rfl) false (by simp [Tryz.f171]) ?_
  conv => whnf
  refine br_if (fun h => ?_) (fun h => ?_) <;> (try rw [h]) <;> (conv => whnf)
  · rw [ltI_t] at h
    exact gRes_none (getNum_out (.inl h))
  rw [ltI_f] at h
  refine br_if (fun h => ?_) (fun h => ?_) <;> (try rw [h]) <;> (conv => whnf)
  · rw [leI_t, bts_len] at h
    exact gRes_none (getNum_out (.inr h))
  rw [leI_f, bts_len] at h
  have hg := getNum_pos (zs := zs) ‹0 ≤ a›
  refine ⟨fun n s => ∃ (k acc un : Int), s = ⟨[(0, .vals false [.rd none 1 (bts zs)]), (1, .vals false [.sc (.int .i64 a)]), (7, .vals false [.sc (.int .i64 acc)]), (8, .vals false [.sc (.int .i64 un)]), (9, .vals false [.sc (.int .i64 k)])], [], []⟩ ∧ n = 9 - k.toNat ∧ un = wrp .i64 (128 ^ k.toNat) ∧ 0 ≤ k ∧ k ≤ 9 ∧ 0 ≤ acc ∧ acc < 128 ^ k.toNat ∧ cm acc k.toNat (gn zs (9 - k.toNat) (a.toNat + k.toNat)) = gn zs 9 a.toNat,
    ⟨_, _, norm_wk (keep := [0, 1, 7, 8, 9]) (kb := []) (ρ := []) rfl, ⟨0, 0, 1, rfl, rfl, by rw [wrp_i64 (by decide) (by decide)]; rfl, by omega, by omega, by omega, by decide, ?_⟩⟩, ?_⟩
  · simp [cm]
  rintro n _ ⟨k, acc, un, rfl, rfl, hun, hk, hK, h0, h1, hi⟩
  conv => whnf
  refine br_if (fun h2 => ?_) (fun h2 => ?_) <;> (try rw [h2]) <;> (conv => whnf)
  · rw [ltI_t] at h2
    have e1 : wrp .i64 (a + k) = a + k := wrp_i64 (by omega) (by omega)
    have e2 : (a + k).toNat = a.toNat + k.toNat := by omega
    rw [e1]
    refine br_if (fun h3 => ?_) (fun h3 => ?_) <;> (try rw [h3]) <;> (conv => whnf)
    · rw [ltI_t, bts_len] at h3
      rw [e1]
      obtain ⟨d, hd⟩ : ∃ d, zs[a.toNat + k.toNat]? = some d := ⟨_, List.getElem?_eq_getElem (by omega)⟩
      have hd1 := hz d (List.mem_of_getElem? hd)
      have hat : (bts zs)[(a + k).toNat]? = some [.sc (.int .u8 d)] := by rw [e2]; exact bts_at hd
      refine ⟨by omega, _, hat, ?_⟩
      conv => whnf
      refine ⟨by decide, ?_⟩
      conv => whnf
      obtain ⟨p0, p1⟩ := pow128' (K := k.toNat) (by omega)
      have eP : wrp .i64 ((128 : Int) ^ k.toNat) = 128 ^ k.toNat := wrp_i64 (by omega) (by omega)
      have ed : wrp .i64 d = d := wrp_i64 (by omega) (by omega)
      obtain ⟨s1, s2, s3, s4, s5⟩ := acc_step (K := k.toNat) (d := d % 128) (by omega) h0 h1 (by omega) (by omega)
      have eA : wrp .i64 (acc + wrp .i64 (tmodOf (wrp .i64 d) 128 * un)) = acc + 128 ^ k.toNat * (d % 128) := by
        rw [hun, eP, ed, tmodOf_pos (by omega), Int.mul_comm, wrp_i64 (x := 128 ^ k.toNat * (d % 128)) (by omega) (by omega), wrp_i64 (by omega) (by omega)]
      have e3 : wrp .i64 (a + k + 1) = ((a.toNat + k.toNat + 1 : Nat) : Int) := by rw [wrp_i64 (by omega) (by omega)]; omega
      rw [eA]
      generalize hX : acc + 128 ^ k.toNat * (d % 128) = X
      rw [hX] at s3 s4 s5
      have hXd : d < 128 → X = acc + 128 ^ k.toNat * d := fun h => by rw [← hX, Int.emod_eq_of_lt (by omega) h]
      refine br_if (fun h4 => ?_) (fun h4 => ?_) <;> (try rw [h4]) <;> (conv => whnf)
      · rw [ltI_t, ed] at h4
        obtain ⟨c1, c2⟩ := cm_small (by omega) hd h4 hi
        refine br_if (fun h5 => ?_) (fun h5 => ?_) <;> (try rw [h5]) <;> (conv => whnf)
        · rw [eqI_t, ed] at h5
          refine br_if (fun h6 => ?_) (fun h6 => ?_) <;> (try rw [h6]) <;> (conv => whnf)
          · rw [ltI_t] at h6
            exact gRes_none (hg.trans (c1 ⟨h5, by omega⟩))
          · rw [ltI_f] at h6
            rw [e1, e3]
            exact gRes_some (hg.trans (c2 (by omega))) (hXd h4) rfl
        · rw [eqI_f, ed] at h5
          rw [e1, e3]
          exact gRes_some (hg.trans (c2 (by omega))) (hXd h4) rfl
      · rw [ltI_f, ed] at h4
        have hi' := cm_big (by omega) hd (by omega) hi
        rw [hX] at hi'
        have ek : (k + 1).toNat = k.toNat + 1 := by omega
        rw [← ek] at hi' s5
        refine ⟨_, _, ?_, norm_wk (keep := [0, 1, 7, 8, 9]) (kb := []) (ρ := []) rfl, ⟨k + 1, X, wrp .i64 (un * 128), ?_, rfl, ?_, by omega, by omega, s3, s5, hi'⟩⟩
        · omega
        · rw [wrp_i64 (x := k + 1) (by omega) (by omega)]
        · rw [hun, eP, ek, Int.pow_succ]
    · rw [ltI_f, bts_len] at h3
      exact gRes_none (hg.trans (cm_end (.inr (by omega)) hi))
  · rw [ltI_f] at h2
    exact gRes_none (hg.trans (cm_end (.inl (by omega)) hi))

theorem pow128_2 (K : Nat) : (128 : Nat) ^ K = 2 ^ (7 * K) := by
  rw [Nat.pow_mul]
theorem or_shl {K : Nat} {acc c : Int} (hK : K < 9) (h0 : 0 ≤ acc) (h1 : acc < 128 ^ K) (c0 : 0 ≤ c) (c1 : c < 128) :
    bitsOf .or .i64 acc (shlOf .i64 c (wrp .i64 (7 * (K : Int)))) = acc + 128 ^ K * c := by
  obtain ⟨p0, p1⟩ := pow128' hK
  obtain ⟨s1, s2, s3, s4, s5⟩ := acc_step hK h0 h1 c0 c1
  have eK : wrp .i64 (7 * (K : Int)) = ((7 * K : Nat) : Int) := by rw [wrp_i64 (by omega) (by omega)]; omega
  have ePn : ((128 : Int) ^ K) = (((2 : Nat) ^ (7 * K) : Nat) : Int) := by
    rw [← pow128_2]
    push_cast
    rfl
  have eS : shlOf .i64 c (wrp .i64 (7 * (K : Int))) = 128 ^ K * c := by
    rw [eK, shlOf_eq]
    have : min ((7 * K : Nat) : Int).toNat IntKind.i64.bits = 7 * K := by
      have : IntKind.i64.bits = 64 := rfl
      rw [this]
      omega
    rw [this]
    have e2 : c * 2 ^ (7 * K) = 128 ^ K * c := by
      rw [ePn, Int.mul_comm]
      push_cast
      rfl
    rw [e2]
    have := @wrp_i64 (128 ^ K * c) (by omega) (by omega)
    rw [wrp_eq] at this
    exact this
  rw [eS, bitsOf_eq]
  obtain ⟨n, rfl⟩ := Int.eq_ofNat_of_zero_le h0
  obtain ⟨m, rfl⟩ := Int.eq_ofNat_of_zero_le c0
  have eM : (128 : Int) ^ K * (m : Int) = ((2 ^ (7 * K) * m : Nat) : Int) := by
    rw [ePn]
    push_cast
    rfl
  rw [eM] at s2 s4 ⊢
  rw [ePn] at h1
  have hn : n < 2 ^ (7 * K) := by exact_mod_cast h1
  simp only [bits0]
  have hor : (BitVec.ofInt IntKind.i64.bits (n : Int) ||| BitVec.ofInt IntKind.i64.bits ((2 ^ (7 * K) * m : Nat) : Int)).toNat = 2 ^ (7 * K) * m + n := by
    have hb : IntKind.i64.bits = 64 := rfl
    rw [hb, BitVec.toNat_or, BitVec.toNat_ofInt, BitVec.toNat_ofInt]
    have e1 : ((n : Int) % ((2 ^ 64 : Nat) : Int)).toNat = n := by
      have : ((2 ^ 64 : Nat) : Int) = 18446744073709551616 := by decide
      rw [this]
      omega
    have e2 : (((2 ^ (7 * K) * m : Nat) : Int) % ((2 ^ 64 : Nat) : Int)).toNat = 2 ^ (7 * K) * m := by
      have : ((2 ^ 64 : Nat) : Int) = 18446744073709551616 := by decide
      rw [this]
      omega
    rw [e1, e2, Nat.or_comm, ← Nat.two_pow_add_eq_or_of_lt hn]
  rw [hor]
  have := @wrp_i64 ((2 ^ (7 * K) * m + n : Nat) : Int) (by omega) (by omega)
  rw [wrp_eq] at this
  rw [this]
  push_cast
  omega

set_option maxRecDepth 100000 in
theorem i_GetNum_ok (zs : List Int) (a : Int) (hz : Bytes zs) (hl : zs.length ≤ 1000000000) (ha0 : -9223372036854775808 ≤ a) (ha : a ≤ 9223372036854775807) :
    FnV Tryz.prog 180 [bV zs, iV a] fun rs outs => rs = [iR (gX zs a), iR (gJ zs a), bR (gB zs a)] ∧ outs = [] := by
  refine fn_ok (E := E2) τ_ok mixed Tryz.func180 (by rfl) (by rfl) false (by simp [Tryz.f180]) ?_
  conv => whnf
  refine (i_within_ok _ _ _).mono ?_
  rintro _ _ ⟨rfl, rfl⟩
  conv => whnf
  have el : wrp .i64 ((((bts zs).length : Nat) : Int) - 1) = (zs.length : Int) - 1 := by rw [bts_len, wrp_i64 (by omega) (by omega)]
  rw [el]
  refine br_if (fun h => ?_) (fun h => ?_) <;> (try rw [h]) <;> (conv => whnf)
  · rw [notB_t, decide_eq_false_iff_not] at h
    exact gRes_none (getNum_out (by omega))
  rw [notB_f, decide_eq_true_eq] at h
  have h0' : 0 ≤ a := h.1
  have hg := getNum_pos (zs := zs) h0'
  refine ⟨fun n s => ∃ (k acc : Int), s = ⟨[(0, .vals false [.rd none 1 (bts zs)]), (1, .vals false [.sc (.int .i64 a)]), (7, .vals false [.sc (.int .i64 acc)]), (8, .vals false [.sc (.int .i64 k)])], [], []⟩ ∧ n = 9 - k.toNat ∧ 0 ≤ k ∧ k ≤ 9 ∧ 0 ≤ acc ∧ acc < 128 ^ k.toNat ∧ cm acc k.toNat (gn zs (9 - k.toNat) (a.toNat + k.toNat)) = gn zs 9 a.toNat,
    ⟨_, _, norm_wk (keep := [0, 1, 7, 8]) (kb := []) (ρ := []) rfl, ⟨0, 0, rfl, rfl, by omega, by omega, by omega, by decide, ?_⟩⟩, ?_⟩
  · simp [cm]
  rintro n _ ⟨k, acc, rfl, rfl, hk, hK, h0, h1, hi⟩
  conv => whnf
  refine br_if (fun h2 => ?_) (fun h2 => ?_) <;> (try rw [h2]) <;> (conv => whnf)
  · rw [ltI_t] at h2
    have e1 : wrp .i64 (a + k) = a + k := wrp_i64 (by omega) (by omega)
    have e2 : (a + k).toNat = a.toNat + k.toNat := by omega
    rw [e1]
    refine br_if (fun h3 => ?_) (fun h3 => ?_) <;> (try rw [h3]) <;> (conv => whnf)
    · rw [ltI_t, bts_len] at h3
      rw [e1]
      obtain ⟨d, hd⟩ : ∃ d, zs[a.toNat + k.toNat]? = some d := ⟨_, List.getElem?_eq_getElem (by omega)⟩
      have hd1 := hz d (List.mem_of_getElem? hd)
      have hat : (bts zs)[(a + k).toNat]? = some [.sc (.int .u8 d)] := by rw [e2]; exact bts_at hd
      refine ⟨by omega, _, hat, ?_⟩
      conv => whnf
      refine ⟨by decide, ?_⟩
      conv => whnf
      have e7 : wrp .i64 (7 * k) = 7 * k := wrp_i64 (by omega) (by omega)
      refine ⟨by rw [e7]; omega, ?_⟩
      conv => whnf
      obtain ⟨p0, p1⟩ := pow128' (K := k.toNat) (by omega)
      have eP : wrp .i64 ((128 : Int) ^ k.toNat) = 128 ^ k.toNat := wrp_i64 (by omega) (by omega)
      have ed : wrp .i64 d = d := wrp_i64 (by omega) (by omega)
      obtain ⟨s1, s2, s3, s4, s5⟩ := acc_step (K := k.toNat) (d := d % 128) (by omega) h0 h1 (by omega) (by omega)
      have eA : bitsOf .or .i64 acc (shlOf .i64 (wrp .i64 (tmodOf d 128)) (wrp .i64 (7 * k))) = acc + 128 ^ k.toNat * (d % 128) := by
        have := or_shl (K := k.toNat) (c := d % 128) (by omega) h0 h1 (by omega) (by omega)
        rw [Int.toNat_of_nonneg hk] at this
        rw [tmodOf_pos (by omega), wrp_i64 (x := d % 128) (by omega) (by omega), this]
      have e3 : wrp .i64 (a + k + 1) = ((a.toNat + k.toNat + 1 : Nat) : Int) := by rw [wrp_i64 (by omega) (by omega)]; omega
      rw [eA]
      generalize hX : acc + 128 ^ k.toNat * (d % 128) = X
      rw [hX] at s3 s4 s5
      have hXd : d < 128 → X = acc + 128 ^ k.toNat * d := fun h => by rw [← hX, Int.emod_eq_of_lt (by omega) h]
      refine br_if (fun h4 => ?_) (fun h4 => ?_) <;> (try rw [h4]) <;> (conv => whnf)
      · rw [ltI_t] at h4
        obtain ⟨c1, c2⟩ := cm_small (by omega) hd h4 hi
        refine br_if (fun h5 => ?_) (fun h5 => ?_) <;> (try rw [h5]) <;> (conv => whnf)
        · rw [eqI_t] at h5
          refine br_if (fun h6 => ?_) (fun h6 => ?_) <;> (try rw [h6]) <;> (conv => whnf)
          · rw [ltI_t] at h6
            exact gRes_none (hg.trans (c1 ⟨h5, by omega⟩))
          · rw [ltI_f] at h6
            rw [e1, e3]
            exact gRes_some (hg.trans (c2 (by omega))) (hXd h4) rfl
        · rw [eqI_f] at h5
          rw [e1, e3]
          exact gRes_some (hg.trans (c2 (by omega))) (hXd h4) rfl
      · rw [ltI_f] at h4
        have hi' := cm_big (by omega) hd (by omega) hi
        rw [hX] at hi'
        have ek : (k + 1).toNat = k.toNat + 1 := by omega
        rw [← ek] at hi' s5
        refine ⟨_, _, ?_, norm_wk (keep := [0, 1, 7, 8]) (kb := []) (ρ := []) rfl, ⟨k + 1, X, ?_, rfl, by omega, by omega, s3, s5, hi'⟩⟩
        · omega
        · rw [wrp_i64 (x := k + 1) (by omega) (by omega)]
    · rw [ltI_f, bts_len] at h3
      exact gRes_none (hg.trans (cm_end (.inr (by omega)) hi))
  · rw [ltI_f] at h2
    exact gRes_none (hg.trans (cm_end (.inl (by omega)) hi))

end Go.Proofs.YtcaonpncopfeoaaGreat.V
