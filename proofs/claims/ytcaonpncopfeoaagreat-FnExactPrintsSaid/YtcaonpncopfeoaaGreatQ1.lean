/- What the functions do that write numbers and texts. -/
import Derived.Test.YtcaonpncopfeoaaGreatT
import Derived.Test.YtcaonpncopfeoaaGreatM5
import Derived.Test.YtcaonpncopfeoaaGreatM5
set_option linter.unusedVariables false
set_option linter.unusedSimpArgs false
namespace Go.Proofs.YtcaonpncopfeoaaGreat.V
open Go

def numL (n : Nat) : List Int := if n ≤ 127 then [(n : Int)] else ((n % 128 + 128 : Nat) : Int) :: numL (n / 128)
  termination_by n
  decreasing_by omega
def numI (x : Int) : List Int := if x < 0 then [] else numL x.toNat

theorem numL_small {n : Nat} (h : n ≤ 127) : numL n = [(n : Int)] := by rw [numL, if_pos h]
theorem numL_big {n : Nat} (h : ¬ n ≤ 127) : numL n = ((n % 128 + 128 : Nat) : Int) :: numL (n / 128) := by rw [numL, if_neg h]
theorem numL_len : ∀ (k n : Nat), n < 128 ^ (k + 1) → (numL n).length ≤ k + 1
  | 0, n, h => by rw [numL_small (by omega)]; simp
  | k + 1, n, h => by
    by_cases hn : n ≤ 127
    · rw [numL_small hn]; simp
    · rw [numL_big hn]
      have := numL_len k (n / 128) (by
        rw [Nat.pow_succ] at h
        exact Nat.div_lt_of_lt_mul (by rw [Nat.mul_comm]; exact h))
      simp
      omega
theorem numL_len10 {n : Nat} (h : n ≤ 9223372036854775807) : (numL n).length ≤ 10 := numL_len 9 n (by
  have : (128 : Nat) ^ 10 = 1180591620717411303424 := by decide
  omega)
theorem numI_len {x : Int} (h : x ≤ 9223372036854775807) : (numI x).length ≤ 10 := by
  unfold numI
  split
  · simp
  · exact numL_len10 (by omega)

/-- The step of the loop of PutNum. -/
theorem put_step {x y : Int} {acc : List Int} (h0 : 0 ≤ y) (h1 : y ≤ 9223372036854775807) (h2 : acc ++ numL y.toNat = numL x.toNat) (h : 127 < y) :
    (tdivOf .i64 y 128).toNat < y.toNat ∧ 0 ≤ tdivOf .i64 y 128 ∧ tdivOf .i64 y 128 ≤ 9223372036854775807 ∧ acc ++ [wrp .u8 (wrp .i64 (tmodOf y 128 + 128))] ++ numL (tdivOf .i64 y 128).toNat = numL x.toNat := by
  rw [tdivOf_pos h0 h1 (by omega), tmodOf_pos h0, wrp_i64 (by omega) (by omega), wrp_u8 (by omega) (by omega)]
  refine ⟨by omega, by omega, by omega, ?_⟩
  rw [← h2, numL_big (n := y.toNat) (by omega)]
  have e1 : (y / 128).toNat = y.toNat / 128 := by omega
  have e2 : y % 128 + 128 = ((y.toNat % 128 + 128 : Nat) : Int) := by omega
  rw [e1, e2]
  simp
theorem put_end {x y : Int} {acc : List Int} (h0 : 0 ≤ y) (h2 : acc ++ numL y.toNat = numL x.toNat) (h : y ≤ 127) (hx : 0 ≤ x) : bts acc ++ [[C.sc (.int .u8 (wrp .u8 y))]] = bts (numI x) := by
  unfold numI
  rw [if_neg (by omega), ← h2, numL_small (by omega), bts_append, wrp_u8 h0 (by omega)]
  simp [bts]
  omega

def MdE1 (f : Nat) : List Mode :=
  match f with
  | 184 => [.rd]
  | 185 => [.rd]
  | 259 => [.rd]
  | 323 => [.rd]
  | _ => []
def E1 : Env := ⟨τ, MdE1⟩

set_option maxRecDepth 100000 in
theorem s_PutNum_ok (x : Int) (hx : x ≤ 9223372036854775807) : FnV Tryz.prog 259 [iV x] fun rs outs => rs = [oR (numI x)] ∧ outs = [] := by
  refine fn_ok (E := E1) τ_ok mixed Tryz.func259 (by rfl) (by rfl) false (by simp [Tryz.f259]) ?_
  conv => whnf
  refine br_if (fun h => ?_) (fun h => ?_) <;> (try rw [h]) <;> (conv => whnf)
  · rw [ltI_t] at h
    simp only [oR, numI, if_pos h, and_true]
    rfl
  · rw [ltI_f] at h
    refine ⟨fun n s => ∃ (y : Int) (acc : List Int), s = ⟨[(0, .vals false [.sc (.int .i64 y)]), (3, .vals false [.ref 100 0])], [], [(100, ⟨true, 0, 0, true, 1, bts acc⟩)]⟩ ∧ n = y.toNat ∧ 0 ≤ y ∧ y ≤ 9223372036854775807 ∧ acc ++ numL y.toNat = numL x.toNat, ⟨x.toNat, _, norm_wk (keep := [0, 3]) (kb := []) (ρ := [(4, some 100)]) rfl, ⟨x, [], rfl, rfl, h, hx, rfl⟩⟩, ?_⟩
    rintro n _ ⟨y, acc, rfl, rfl, h0, h1, h2⟩
    have hlen : acc.length ≤ 10 := by
      have := numL_len10 (n := x.toNat) (by omega)
      rw [← h2] at this
      simp at this
      omega
    conv => whnf
    refine br_if (fun h => ?_) (fun h => ?_) <;> (try rw [h]) <;> (conv => whnf)
    · rw [ltI_t] at h
      refine ⟨by decide, ?_⟩
      conv => whnf
      refine .inl ⟨flat1 _ _, ?_⟩
      conv => whnf
      refine ⟨by simp only [bts_len, chunk_len, d5]; omega, ?_⟩
      conv => whnf
      refine ⟨by decide, ?_⟩
      conv => whnf
      obtain ⟨q1, q2, q3, q4⟩ := put_step h0 h1 h2 h
      exact ⟨_, _, q1, norm_wk (keep := [0, 3]) (kb := []) (ρ := [(16, some 100)]) rfl, ⟨tdivOf .i64 y 128, acc ++ [wrp .u8 (wrp .i64 (tmodOf y 128 + 128))], by rw [bts_append]; rfl, rfl, q2, q3, q4⟩⟩
    · rw [ltI_f] at h
      refine .inl ⟨flat1 _ _, ?_⟩
      conv => whnf
      refine ⟨by simp only [bts_len, chunk_len, d5]; omega, ?_⟩
      conv => whnf
      refine ⟨?_, rfl⟩
      rw [oR, ← put_end h0 h2 h ‹0 ≤ x›]
      rfl

set_option maxRecDepth 100000 in
theorem i_PutNum_ok (x : Int) (hx : x ≤ 9223372036854775807) : FnV Tryz.prog 184 [iV x] fun rs outs => rs = [oR (numI x)] ∧ outs = [] := by
  refine fn_ok (E := E1) τ_ok mixed Tryz.func184 (by rfl) (by rfl) false (by simp [Tryz.f184]) ?_
  conv => whnf
  refine br_if (fun h => ?_) (fun h => ?_) <;> (try rw [h]) <;> (conv => whnf)
  · rw [ltI_t] at h
    simp only [oR, numI, if_pos h, and_true]
    rfl
  · rw [ltI_f] at h
    refine ⟨fun n s => ∃ (y : Int) (acc : List Int), s = ⟨[(0, .vals false [.sc (.int .i64 y)]), (3, .vals false [.ref 100 0])], [], [(100, ⟨true, 0, 0, true, 1, bts acc⟩)]⟩ ∧ n = y.toNat ∧ 0 ≤ y ∧ y ≤ 9223372036854775807 ∧ acc ++ numL y.toNat = numL x.toNat, ⟨x.toNat, _, norm_wk (keep := [0, 3]) (kb := []) (ρ := [(6, some 100)]) rfl, ⟨x, [], rfl, rfl, h, hx, rfl⟩⟩, ?_⟩
    rintro n _ ⟨y, acc, rfl, rfl, h0, h1, h2⟩
    have hlen : acc.length ≤ 10 := by
      have := numL_len10 (n := x.toNat) (by omega)
      rw [← h2] at this
      simp at this
      omega
    conv => whnf
    refine br_if (fun h => ?_) (fun h => ?_) <;> (try rw [h]) <;> (conv => whnf)
    · rw [ltI_t] at h
      refine ⟨by decide, ?_⟩
      conv => whnf
      refine .inl ⟨flat1 _ _, ?_⟩
      conv => whnf
      refine ⟨by simp only [bts_len, chunk_len, d5]; omega, ?_⟩
      conv => whnf
      refine ⟨by decide, ?_⟩
      conv => whnf
      obtain ⟨q1, q2, q3, q4⟩ := put_step h0 h1 h2 h
      exact ⟨_, _, q1, norm_wk (keep := [0, 3]) (kb := []) (ρ := [(15, some 100)]) rfl, ⟨tdivOf .i64 y 128, acc ++ [wrp .u8 (wrp .i64 (tmodOf y 128 + 128))], by rw [bts_append]; rfl, rfl, q2, q3, q4⟩⟩
    · rw [ltI_f] at h
      refine .inl ⟨flat1 _ _, ?_⟩
      conv => whnf
      refine ⟨by simp only [bts_len, chunk_len, d5]; omega, ?_⟩
      conv => whnf
      refine ⟨?_, rfl⟩
      rw [oR, ← put_end h0 h2 h ‹0 ≤ x›]
      rfl

theorem bR_eq {x y : Bool} (h : x = y) : [bR x] = [bR y] ∧ ([] : List (List C)) = [] := by rw [h]; exact ⟨rfl, rfl⟩

def putText (s : ByteArray) : List Int := numI s.size ++ sb s

set_option maxRecDepth 100000 in
theorem s_PutText_ok (s : ByteArray) (hs : s.size ≤ 10000000) : FnV Tryz.prog 323 [sV s] fun rs outs => rs = [oR (putText s)] ∧ outs = [] := by
  refine fn_ok (E := E1) τ_ok mixed Tryz.func323 (by rfl) (by rfl) false (by simp [Tryz.f323]) ?_
  conv => whnf
  refine (s_PutNum_ok _ (by omega)).mono ?_
  rintro _ _ ⟨rfl, rfl⟩
  have hl := numI_len (x := s.size) (by omega)
  conv => whnf
  refine ⟨by omega, ?_⟩
  conv => whnf
  refine .inl ⟨by simp only [bytesOf_sb, d5]; exact flat_bts _, ?_⟩
  conv => whnf
  refine ⟨by simp only [bts_len, bytesOf_sb, sb_len, d5]; omega, ?_⟩
  conv => whnf
  simp [oR, putText, bts_append, bytesOf_sb]

set_option maxRecDepth 100000 in
theorem i_PutText_ok (s : ByteArray) (hs : s.size ≤ 10000000) : FnV Tryz.prog 185 [sV s] fun rs outs => rs = [oR (putText s)] ∧ outs = [] := by
  refine fn_ok (E := E1) τ_ok mixed Tryz.func185 (by rfl) (by rfl) false (by simp [Tryz.f185]) ?_
  conv => whnf
  refine (i_PutNum_ok _ (by omega)).mono ?_
  rintro _ _ ⟨rfl, rfl⟩
  have hl := numI_len (x := s.size) (by omega)
  conv => whnf
  refine ⟨by simp only [bts_len, d5]; omega, ?_⟩
  conv => whnf
  simp [oR, putText, bts_append, bytesOf_sb]

theorem putText_len {s : ByteArray} (hs : s.size ≤ 10000000) : (putText s).length ≤ 10000010 := by
  have hl := numI_len (x := s.size) (by omega)
  simp [putText, sb_len]
  omega

def mailMove (s : ByteArray) : ByteArray := strOfNums (numI 2 ++ putText s)

set_option maxRecDepth 100000 in
theorem s_MailMove_ok (s : ByteArray) (hs : s.size ≤ 10000000) : FnV Tryz.prog 355 [sV s] fun rs outs => rs = [sR (mailMove s)] ∧ outs = [] := by
  refine fn_ok (E := E1) τ_ok mixed Tryz.func355 (by rfl) (by rfl) false (by simp [Tryz.f355]) ?_
  conv => whnf
  refine (s_PutNum_ok _ (by omega)).mono ?_
  rintro _ _ ⟨rfl, rfl⟩
  conv => whnf
  refine (s_PutText_ok _ hs).mono ?_
  rintro _ _ ⟨rfl, rfl⟩
  have hl := numI_len (x := 2) (by omega)
  have hl2 := putText_len hs
  conv => whnf
  refine .inl ⟨by simp only [d5]; exact flat_bts _, ?_⟩
  conv => whnf
  refine ⟨by simp only [bts_len, d5]; omega, ?_⟩
  conv => whnf
  refine ⟨numI 2 ++ putText s, by simp [bts], ?_⟩
  conv => whnf
  exact ⟨rfl, rfl⟩

set_option maxRecDepth 100000 in
theorem i_MailMove_ok (s : ByteArray) (hs : s.size ≤ 10000000) : FnV Tryz.prog 363 [sV s] fun rs outs => rs = [sR (mailMove s)] ∧ outs = [] := by
  refine fn_ok (E := E1) τ_ok mixed Tryz.func363 (by rfl) (by rfl) false (by simp [Tryz.f363]) ?_
  conv => whnf
  refine (i_PutNum_ok _ (by omega)).mono ?_
  rintro _ _ ⟨rfl, rfl⟩
  conv => whnf
  refine (i_PutText_ok _ hs).mono ?_
  rintro _ _ ⟨rfl, rfl⟩
  have hl := numI_len (x := 2) (by omega)
  have hl2 := putText_len hs
  conv => whnf
  refine .inl ⟨by simp only [d5]; exact flat_bts _, ?_⟩
  conv => whnf
  refine ⟨by simp only [bts_len, d5]; omega, ?_⟩
  conv => whnf
  refine ⟨numI 2 ++ putText s, by simp [bts], ?_⟩
  conv => whnf
  exact ⟨rfl, rfl⟩

end Go.Proofs.YtcaonpncopfeoaaGreat.V
