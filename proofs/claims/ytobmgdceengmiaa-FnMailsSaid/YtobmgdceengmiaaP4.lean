/- What DeedLine comes to. -/
import Derived.Test.YtobmgdceengmiaaP3
set_option linter.unusedVariables false
set_option linter.unusedSimpArgs false
namespace Go.Proofs.Ytobmgdceengmiaa.V
open Go

theorem addStr_nums (a b : List Int) : addStr (strOfNums a) (strOfNums b) = strOfNums (a ++ b) := by
  rw [addStr_eq]
  unfold strOfNums
  apply ByteArray.ext
  simp
theorem runeStr_ascii {n : Int} (h0 : 0 ≤ n) (h1 : n < 128) : runeStr n = strOfNums [n] := by
  rw [runeStr_eq]
  unfold Utf8.encode strOfNums
  have hv : Utf8.valid n = true := by
    simp [Utf8.valid]
    omega
  simp only [hv, if_true]
  have : n.toNat < 128 := by omega
  simp [this]
theorem wrp_i32 {x : Int} (h0 : -2147483648 ≤ x) (h1 : x ≤ 2147483647) : wrp .i32 x = x := by
  have e1 : (2 : Int) ^ 32 = 4294967296 := by decide
  have e2 : (2 : Int) ^ (32 - 1) = 2147483648 := by decide
  simp only [wrp_eq, IntKind.wrap, IntKind.bits, IntKind.signed, e1, e2, Bool.true_and, decide_eq_true_eq]
  split <;> omega

def digs (n : Nat) : List Int := if n < 10 then [(48 + n : Int)] else digs (n / 10) ++ [(48 + (n % 10 : Nat) : Int)]
  termination_by n
  decreasing_by omega
theorem digs_small {n : Nat} (h : n < 10) : digs n = [(48 + n : Int)] := by rw [digs, if_pos h]
theorem digs_big {n : Nat} (h : ¬ n < 10) : digs n = digs (n / 10) ++ [(48 + (n % 10 : Nat) : Int)] := by rw [digs, if_neg h]
theorem digs_len : ∀ (k n : Nat), n < 10 ^ (k + 1) → (digs n).length ≤ k + 1
  | 0, n, h => by rw [digs_small (by omega)]; simp
  | k + 1, n, h => by
    by_cases hn : n < 10
    · rw [digs_small hn]; simp
    · rw [digs_big hn]
      have := digs_len k (n / 10) (by
        rw [Nat.pow_succ] at h
        exact Nat.div_lt_of_lt_mul (by rw [Nat.mul_comm]; exact h))
      simp
      omega
theorem digs_len20 {n : Nat} (h : n ≤ 9223372036854775807) : (digs n).length ≤ 20 := digs_len 19 n (by
  have : (10 : Nat) ^ 20 = 100000000000000000000 := by decide
  omega)

def Md4 (f : Nat) : List Mode :=
  match f with
  | 11 => [.rd]
  | 12 => [.rd]
  | 13 => [.rd]
  | 16 => [.rd]
  | 17 => [.rd]
  | 30 => [.rd]
  | 31 => [.rd]
  | 32 => [.rd]
  | 33 => []
  | 34 => [.rd]
  | _ => []
def En4 : Env := ⟨τ, Md4⟩

theorem dig_step {x y : Nat} {acc : List Int} (hy : 0 < y) (h : digs y ++ acc = digs x) :
    (0 < y / 10 → digs (y / 10) ++ ((48 + (y % 10 : Nat) : Int) :: acc) = digs x) ∧ (y / 10 = 0 → ((48 + (y % 10 : Nat) : Int) :: acc) = digs x) := by
  constructor
  · intro h1
    rw [← h, digs_big (n := y) (by omega)]
    simp
  · intro h1
    rw [← h, digs_small (n := y) (by omega)]
    have : y % 10 = y := by omega
    simp [this]

set_option maxRecDepth 100000 in
theorem f31_ok (x : Int) (h0 : 0 ≤ x) (hx : x ≤ 9223372036854775807) : FnV Try.prog 31 [iV x] fun rs outs => rs = [sR (strOfNums (digs x.toNat))] ∧ outs = [] := by
  refine fn_ok (E := En4) τ_ok mixed Try.func31 (by rfl) (by rfl) false (by simp [Try.f31]) ?_
  conv => whnf
  refine br_if (fun h => ?_) (fun h => ?_) <;> (try rw [h]) <;> (conv => whnf)
  · rw [ltI_t] at h
    omega
  refine br_if (fun h => ?_) (fun h => ?_) <;> (try rw [h]) <;> (conv => whnf)
  · rw [eqI_t] at h
    have : x.toNat = 0 := by omega
    rw [this, digs_small (by omega)]
    exact ⟨rfl, rfl⟩
  rw [eqI_f] at h
  have hl := digs_len20 (n := x.toNat) (by omega)
  refine ⟨fun n s => ∃ (y : Int) (acc : List Int), s = ⟨[(0, .vals false [.sc (.int .i64 y)]), (3, .vals false [.sc (.string (strOfNums acc))])], [], []⟩ ∧ n = y.toNat ∧ 0 ≤ y ∧ y ≤ x ∧ acc.length ≤ 20 ∧ (0 < y → digs y.toNat ++ acc = digs x.toNat) ∧ (y = 0 → acc = digs x.toNat),
    ⟨_, _, norm_wk (keep := [0, 3]) (kb := []) (ρ := []) rfl, ⟨x, [], rfl, rfl, h0, Int.le_refl _, by simp, by simp, by omega⟩⟩, ?_⟩
  rintro n _ ⟨y, acc, rfl, hny, hy0, hy, hal, h1, h2⟩
  conv => whnf
  refine br_if (fun h => ?_) (fun h => ?_) <;> (try rw [h]) <;> (conv => whnf)
  · rw [ltI_t] at h
    refine ⟨by decide, ?_⟩
    conv => whnf
    refine ⟨[wrp .u8 (wrp .i64 (48 + tmodOf y 10))], rfl, ?_⟩
    conv => whnf
    rw [addStr_nums]
    refine ⟨by simp only [strOfNums_size]; simp [IntKind.max, IntKind.bits, IntKind.signed]; omega, ?_⟩
    conv => whnf
    refine ⟨by decide, ?_⟩
    conv => whnf
    have e1 : wrp .u8 (wrp .i64 (48 + tmodOf y 10)) = (48 + (y.toNat % 10 : Nat) : Int) := by
      rw [tmodOf_pos (by omega), wrp_i64 (by omega) (by omega), wrp_u8 (by omega) (by omega)]
      omega
    have e2 : tdivOf .i64 y 10 = y / 10 := tdivOf_pos (by omega) (by omega) (by omega)
    have e3 : (y / 10).toNat = y.toNat / 10 := by omega
    obtain ⟨q1, q2⟩ := dig_step (x := x.toNat) (acc := acc) (y := y.toNat) (by omega) (h1 (by omega))
    have hal2 : ((48 + (y.toNat % 10 : Nat) : Int) :: acc).length ≤ 20 := by
      by_cases hz : y.toNat / 10 = 0
      · rw [q2 hz]; exact hl
      · have := q1 (by omega)
        rw [← this] at hl
        simp at hl ⊢
        omega
    exact ⟨_, _, by rw [hny]; omega, norm_wk (keep := [0, 3]) (kb := []) (ρ := []) rfl, ⟨y / 10, (48 + (y.toNat % 10 : Nat) : Int) :: acc, by rw [e1, e2]; rfl, rfl, by omega, by omega, hal2, fun h => by rw [e3]; exact q1 (by omega), fun h => q2 (by omega)⟩⟩
  · rw [ltI_f] at h
    have : y = 0 := by omega
    rw [h2 this]
    exact ⟨rfl, rfl⟩

set_option maxRecDepth 100000 in
theorem f34_ok : ∀ (m : Nat) (x : Int), x.toNat < m → 0 ≤ x → x ≤ 9223372036854775807 → FnV Try.prog 34 [iV x] fun rs outs => rs = [sR (strOfNums (digs x.toNat))] ∧ outs = [] := by
  intro m
  induction m with
  | zero => intro x hm; omega
  | succ m ih =>
    intro x hm h0 hx
    refine fn_ok (E := En4) τ_ok mixed Try.func34 (by rfl) (by rfl) false (by simp [Try.f34]) ?_
    conv => whnf
    refine br_if (fun h => ?_) (fun h => ?_) <;> (try rw [h]) <;> (conv => whnf)
    · rw [ltI_t] at h
      omega
    refine br_if (fun h => ?_) (fun h => ?_) <;> (try rw [h]) <;> (conv => whnf)
    · rw [ltI_t] at h
      omega
    refine br_if (fun h => ?_) (fun h => ?_) <;> (try rw [h]) <;> (conv => whnf)
    · rw [ltI_t] at h
      rw [wrp_i64 (by omega) (by omega), wrp_i32 (by omega) (by omega), runeStr_ascii (by omega) (by omega), digs_small (by omega)]
      have e : (48 + x : Int) = 48 + (x.toNat : Int) := by omega
      rw [e]
      exact ⟨rfl, rfl⟩
    · rw [ltI_f] at h
      refine ⟨by decide, ?_⟩
      conv => whnf
      have e1 : tdivOf .i64 x 10 = x / 10 := tdivOf_pos (by omega) (by omega) (by omega)
      have e2 : (x / 10).toNat = x.toNat / 10 := by omega
      have e3 : wrp .i32 (wrp .i64 (48 + tmodOf x 10)) = (48 + (x.toNat % 10 : Nat) : Int) := by
        rw [tmodOf_pos (by omega), wrp_i64 (by omega) (by omega), wrp_i32 (by omega) (by omega)]
        omega
      have hl := digs_len20 (n := x.toNat / 10) (by omega)
      rw [e1]
      refine (ih (x / 10) (by omega) (by omega) (by omega)).mono ?_
      rintro _ _ ⟨rfl, rfl⟩
      conv => whnf
      refine ⟨by decide, ?_⟩
      conv => whnf
      rw [e3, runeStr_ascii (by omega) (by omega), addStr_nums]
      refine ⟨by simp only [strOfNums_size, e2]; simp [IntKind.max, IntKind.bits, IntKind.signed]; omega, ?_⟩
      conv => whnf
      rw [digs_big (n := x.toNat) (by omega), e2]
      exact ⟨rfl, rfl⟩

set_option maxRecDepth 100000 in
theorem f32_ok (k : Int) : FnV Try.prog 32 [iV k] fun rs outs => rs = [bR (decide (k = 1 ∨ k = 2))] ∧ outs = [] := by
  refine fn_ok (E := En4) τ_ok mixed Try.func32 (by rfl) (by rfl) false (by simp [Try.f32]) ?_
  conv => whnf
  repeat' (refine br_if (fun h => ?_) (fun h => ?_) <;> (try rw [h]) <;> (conv => whnf))
  all_goals refine bR_eq ?_
  · rw [eqI_t] at h
    simp [h]
  · rw [eqI_f] at h
    by_cases h2 : k = 2
    · simp [h2, eqI_eq]
    · simp [h, h2, eqI_eq]

def dwords : List (List C) := [[.sc (.string ⟨#[115, 116, 101, 112]⟩)], [.sc (.string ⟨#[115, 104, 111, 119]⟩)], [.sc (.string ⟨#[103, 105, 118, 101]⟩)], [.sc (.string ⟨#[99, 111, 112, 121]⟩)], [.sc (.string ⟨#[108, 111, 115, 101]⟩)]]
def dword (k : Int) : ByteArray := if k = 1 then ⟨#[115, 116, 101, 112]⟩ else if k = 2 then ⟨#[115, 104, 111, 119]⟩ else if k = 3 then ⟨#[103, 105, 118, 101]⟩ else if k = 4 then ⟨#[99, 111, 112, 121]⟩ else ⟨#[108, 111, 115, 101]⟩

set_option maxRecDepth 100000 in
theorem f33_ok : FnV Try.prog 33 [] fun rs outs => rs = [⟨false, [.own true 1 dwords]⟩] ∧ outs = [] := by
  refine fn_ok (E := En4) τ_ok mixed Try.func33 (by rfl) (by rfl) false (by simp [Try.f33]) ?_
  conv => whnf
  exact ⟨rfl, rfl⟩

set_option maxRecDepth 100000 in
theorem f30_ok (k : Int) (h1 : 1 ≤ k) (h2 : k ≤ 5) : FnV Try.prog 30 [iV k] fun rs outs => rs = [sR (dword k)] ∧ outs = [] := by
  refine fn_ok (E := En4) τ_ok mixed Try.func30 (by rfl) (by rfl) false (by simp [Try.f30]) ?_
  conv => whnf
  refine ⟨by omega, by simp only [chunk_len]; omega, ?_⟩
  conv => whnf
  refine ⟨[.sc (.string (dword k))], by rcases (show k = 1 ∨ k = 2 ∨ k = 3 ∨ k = 4 ∨ k = 5 by omega) with rfl | rfl | rfl | rfl | rfl <;> rfl, ?_⟩
  conv => whnf
  exact ⟨rfl, rfl⟩

theorem deedOk_kind {k a b : Int} (h : deedOk k a b = true) : 1 ≤ k ∧ k ≤ 5 ∧ 0 ≤ a ∧ 0 ≤ b := by
  unfold deedOk at h
  split at h
  · cases h
  · split at h
    · simp at h; omega
    · split at h
      · omega
      · split at h
        · simp at h; omega
        · cases h

end Go.Proofs.Ytobmgdceengmiaa.V
