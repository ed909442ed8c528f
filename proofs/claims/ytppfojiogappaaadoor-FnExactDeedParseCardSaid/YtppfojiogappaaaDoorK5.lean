/- Part 5 of what the row leans on: T, S5. -/
import Derived.Test.YtppfojiogappaaaDoorK4
import Derived.Shelf.Strings.Split
import Derived.Test.YtppfojiogappaaaDoorChecked
set_option linter.unusedVariables false

set_option linter.unusedSimpArgs false

set_option maxRecDepth 100000

namespace Go.Proofs.YtppfojiogappaaaDoor.V

open Go

def d2 : TD := ⟨.int .i64, 1, 8, [.sc (.int .i64 0)]⟩

theorem ty2 : TyOk Tryd.prog 2 d2 := ⟨Tryd.underlying2, ⟨_, _, Tryd.type2, rfl, rfl, rfl, rfl⟩, rfl, rfl⟩

def d3 : TD := ⟨.int .i64, 1, 8, [.sc (.int .i64 0)]⟩

theorem ty3 : TyOk Tryd.prog 3 d3 := ⟨Tryd.underlying3, ⟨_, _, Tryd.type3, rfl, rfl, rfl, rfl⟩, rfl, rfl⟩

def d4 : TD := ⟨.bool, 1, 1, [.sc (.bool false)]⟩

theorem ty4 : TyOk Tryd.prog 4 d4 := ⟨Tryd.underlying4, ⟨_, _, Tryd.type4, rfl, rfl, rfl, rfl⟩, rfl, rfl⟩

def d5 : TD := ⟨.int .u8, 1, 1, [.sc (.int .u8 0)]⟩

theorem ty5 : TyOk Tryd.prog 5 d5 := ⟨Tryd.underlying5, ⟨_, _, Tryd.type5, rfl, rfl, rfl, rfl⟩, rfl, rfl⟩

def d6 : TD := ⟨.int .u8, 1, 1, [.sc (.int .u8 0)]⟩

theorem ty6 : TyOk Tryd.prog 6 d6 := ⟨Tryd.underlying6, ⟨_, _, Tryd.type6, rfl, rfl, rfl, rfl⟩, rfl, rfl⟩

def d7 : TD := ⟨.struct [(0, 2), (1, 3), (2, 4), (3, 6)], 4, 24, [.sc (.int .i64 0), .sc (.int .i64 0), .sc (.bool false), .sc (.int .u8 0)]⟩

theorem ty7 : TyOk Tryd.prog 7 d7 := ⟨⟨_, Tryd.underlying7, rfl⟩, ⟨_, _, Tryd.type7, rfl, rfl, rfl, rfl⟩, rfl, rfl⟩

def d8 : TD := ⟨.struct [(0, 2), (1, 3), (2, 4), (3, 6)], 4, 24, [.sc (.int .i64 0), .sc (.int .i64 0), .sc (.bool false), .sc (.int .u8 0)]⟩

theorem ty8 : TyOk Tryd.prog 8 d8 := ⟨⟨_, Tryd.underlying8, rfl⟩, ⟨_, _, Tryd.type8, rfl, rfl, rfl, rfl⟩, rfl, rfl⟩

def d9 : TD := ⟨.str, 1, 16, [.sc (.string { data := #[] })]⟩

theorem ty9 : TyOk Tryd.prog 9 d9 := ⟨Tryd.underlying9, ⟨_, _, Tryd.type9, rfl, rfl, rfl, rfl⟩, rfl, rfl⟩

def d10 : TD := ⟨.str, 1, 16, [.sc (.string { data := #[] })]⟩

theorem ty10 : TyOk Tryd.prog 10 d10 := ⟨Tryd.underlying10, ⟨_, _, Tryd.type10, rfl, rfl, rfl, rfl⟩, rfl, rfl⟩

def d11 : TD := ⟨.str, 1, 16, [.sc (.string { data := #[] })]⟩

theorem ty11 : TyOk Tryd.prog 11 d11 := ⟨Tryd.underlying11, ⟨_, _, Tryd.type11, rfl, rfl, rfl, rfl⟩, rfl, rfl⟩

def d12 : TD := ⟨.int .u64, 1, 8, [.sc (.int .u64 0)]⟩

theorem ty12 : TyOk Tryd.prog 12 d12 := ⟨Tryd.underlying12, ⟨_, _, Tryd.type12, rfl, rfl, rfl, rfl⟩, rfl, rfl⟩

def d13 : TD := ⟨.struct [(0, 9), (1, 12)], 2, 24, [.sc (.string { data := #[] }), .sc (.int .u64 0)]⟩

theorem ty13 : TyOk Tryd.prog 13 d13 := ⟨⟨_, Tryd.underlying13, rfl⟩, ⟨_, _, Tryd.type13, rfl, rfl, rfl, rfl⟩, rfl, rfl⟩

def d14 : TD := ⟨.struct [(0, 9), (1, 12)], 2, 24, [.sc (.string { data := #[] }), .sc (.int .u64 0)]⟩

theorem ty14 : TyOk Tryd.prog 14 d14 := ⟨⟨_, Tryd.underlying14, rfl⟩, ⟨_, _, Tryd.type14, rfl, rfl, rfl, rfl⟩, rfl, rfl⟩

def d15 : TD := ⟨.ptr 61, 1, 8, [.sc (.pointer none)]⟩

theorem ty15 : TyOk Tryd.prog 15 d15 := ⟨Tryd.underlying15, ⟨_, _, Tryd.type15, rfl, rfl, rfl, rfl⟩, rfl, rfl⟩

def d16 : TD := ⟨.ptr 64, 1, 8, [.sc (.pointer none)]⟩

theorem ty16 : TyOk Tryd.prog 16 d16 := ⟨Tryd.underlying16, ⟨_, _, Tryd.type16, rfl, rfl, rfl, rfl⟩, rfl, rfl⟩

def d17 : TD := ⟨.ptr 73, 1, 8, [.sc (.pointer none)]⟩

theorem ty17 : TyOk Tryd.prog 17 d17 := ⟨Tryd.underlying17, ⟨_, _, Tryd.type17, rfl, rfl, rfl, rfl⟩, rfl, rfl⟩

def d18 : TD := ⟨.struct [(0, 17)], 1, 8, [.sc (.pointer none)]⟩

theorem ty18 : TyOk Tryd.prog 18 d18 := ⟨⟨_, Tryd.underlying18, rfl⟩, ⟨_, _, Tryd.type18, rfl, rfl, rfl, rfl⟩, rfl, rfl⟩

def d19 : TD := ⟨.struct [(0, 17)], 1, 8, [.sc (.pointer none)]⟩

theorem ty19 : TyOk Tryd.prog 19 d19 := ⟨⟨_, Tryd.underlying19, rfl⟩, ⟨_, _, Tryd.type19, rfl, rfl, rfl, rfl⟩, rfl, rfl⟩

def d21 : TD := ⟨.int .i32, 1, 4, [.sc (.int .i32 0)]⟩

theorem ty21 : TyOk Tryd.prog 21 d21 := ⟨Tryd.underlying21, ⟨_, _, Tryd.type21, rfl, rfl, rfl, rfl⟩, rfl, rfl⟩

def d22 : TD := ⟨.struct [(0, 3), (1, 3), (2, 3)], 3, 24, [.sc (.int .i64 0), .sc (.int .i64 0), .sc (.int .i64 0)]⟩

theorem ty22 : TyOk Tryd.prog 22 d22 := ⟨⟨_, Tryd.underlying22, rfl⟩, ⟨_, _, Tryd.type22, rfl, rfl, rfl, rfl⟩, rfl, rfl⟩

def d23 : TD := ⟨.struct [(0, 3), (1, 3), (2, 3)], 3, 24, [.sc (.int .i64 0), .sc (.int .i64 0), .sc (.int .i64 0)]⟩

theorem ty23 : TyOk Tryd.prog 23 d23 := ⟨⟨_, Tryd.underlying23, rfl⟩, ⟨_, _, Tryd.type23, rfl, rfl, rfl, rfl⟩, rfl, rfl⟩

def d28 : TD := ⟨.slice 9, 1, 24, [.nil 1]⟩

theorem ty28 : TyOk Tryd.prog 28 d28 := ⟨Tryd.underlying28, ⟨_, _, Tryd.type28, rfl, rfl, rfl, rfl⟩, rfl, rfl⟩

def d43 : TD := ⟨.slice 5, 1, 24, [.nil 1]⟩

theorem ty43 : TyOk Tryd.prog 43 d43 := ⟨Tryd.underlying43, ⟨_, _, Tryd.type43, rfl, rfl, rfl, rfl⟩, rfl, rfl⟩

def d51 : TD := ⟨.int .u64, 1, 8, [.sc (.int .u64 0)]⟩

theorem ty51 : TyOk Tryd.prog 51 d51 := ⟨Tryd.underlying51, ⟨_, _, Tryd.type51, rfl, rfl, rfl, rfl⟩, rfl, rfl⟩

def d53 : TD := ⟨.struct [(0, 5), (1, 5)], 2, 2, [.sc (.int .u8 0), .sc (.int .u8 0)]⟩

theorem ty53 : TyOk Tryd.prog 53 d53 := ⟨⟨_, Tryd.underlying53, rfl⟩, ⟨_, _, Tryd.type53, rfl, rfl, rfl, rfl⟩, rfl, rfl⟩

def d54 : TD := ⟨.struct [(0, 5), (1, 5)], 2, 2, [.sc (.int .u8 0), .sc (.int .u8 0)]⟩

theorem ty54 : TyOk Tryd.prog 54 d54 := ⟨⟨_, Tryd.underlying54, rfl⟩, ⟨_, _, Tryd.type54, rfl, rfl, rfl, rfl⟩, rfl, rfl⟩

def d56 : TD := ⟨.int .u32, 1, 4, [.sc (.int .u32 0)]⟩

theorem ty56 : TyOk Tryd.prog 56 d56 := ⟨Tryd.underlying56, ⟨_, _, Tryd.type56, rfl, rfl, rfl, rfl⟩, rfl, rfl⟩

def d60 : TD := ⟨.struct [(0, 17), (1, 17), (2, 17), (3, 9)], 4, 40, [.sc (.pointer none), .sc (.pointer none), .sc (.pointer none), .sc (.string { data := #[] })]⟩

theorem ty60 : TyOk Tryd.prog 60 d60 := ⟨⟨_, Tryd.underlying60, rfl⟩, ⟨_, _, Tryd.type60, rfl, rfl, rfl, rfl⟩, rfl, rfl⟩

def d61 : TD := ⟨.struct [(0, 17), (1, 17), (2, 17), (3, 9)], 4, 40, [.sc (.pointer none), .sc (.pointer none), .sc (.pointer none), .sc (.string { data := #[] })]⟩

theorem ty61 : TyOk Tryd.prog 61 d61 := ⟨⟨_, Tryd.underlying61, rfl⟩, ⟨_, _, Tryd.type61, rfl, rfl, rfl, rfl⟩, rfl, rfl⟩

def d63 : TD := ⟨.struct [(0, 62)], 0, 0, []⟩

theorem ty63 : TyOk Tryd.prog 63 d63 := ⟨⟨_, Tryd.underlying63, rfl⟩, ⟨_, _, Tryd.type63, rfl, rfl, rfl, rfl⟩, rfl, rfl⟩

def d64 : TD := ⟨.struct [(0, 62)], 0, 0, []⟩

theorem ty64 : TyOk Tryd.prog 64 d64 := ⟨⟨_, Tryd.underlying64, rfl⟩, ⟨_, _, Tryd.type64, rfl, rfl, rfl, rfl⟩, rfl, rfl⟩

def d66 : TD := ⟨.int .u8, 1, 1, [.sc (.int .u8 0)]⟩

theorem ty66 : TyOk Tryd.prog 66 d66 := ⟨Tryd.underlying66, ⟨_, _, Tryd.type66, rfl, rfl, rfl, rfl⟩, rfl, rfl⟩

def d67 : TD := ⟨.int .u8, 1, 1, [.sc (.int .u8 0)]⟩

theorem ty67 : TyOk Tryd.prog 67 d67 := ⟨Tryd.underlying67, ⟨_, _, Tryd.type67, rfl, rfl, rfl, rfl⟩, rfl, rfl⟩

def d69 : TD := ⟨.ptr 5, 1, 8, [.sc (.pointer none)]⟩

theorem ty69 : TyOk Tryd.prog 69 d69 := ⟨Tryd.underlying69, ⟨_, _, Tryd.type69, rfl, rfl, rfl, rfl⟩, rfl, rfl⟩

def d70 : TD := ⟨.int .i32, 1, 4, [.sc (.int .i32 0)]⟩

theorem ty70 : TyOk Tryd.prog 70 d70 := ⟨Tryd.underlying70, ⟨_, _, Tryd.type70, rfl, rfl, rfl, rfl⟩, rfl, rfl⟩

def d71 : TD := ⟨.int .i32, 1, 4, [.sc (.int .i32 0)]⟩

theorem ty71 : TyOk Tryd.prog 71 d71 := ⟨Tryd.underlying71, ⟨_, _, Tryd.type71, rfl, rfl, rfl, rfl⟩, rfl, rfl⟩

def d72 : TD := ⟨.struct [(0, 12), (1, 12), (2, 56), (3, 66), (4, 5), (5, 5), (6, 67), (7, 68), (8, 69), (9, 70), (10, 71)], 11, 48, [.sc (.int .u64 0), .sc (.int .u64 0), .sc (.int .u32 0), .sc (.int .u8 0), .sc (.int .u8 0), .sc (.int .u8 0), .sc (.int .u8 0), .sc (.nilFunc), .sc (.pointer none), .sc (.int .i32 0), .sc (.int .i32 0)]⟩

theorem ty72 : TyOk Tryd.prog 72 d72 := ⟨⟨_, Tryd.underlying72, rfl⟩, ⟨_, _, Tryd.type72, rfl, rfl, rfl, rfl⟩, rfl, rfl⟩

def d73 : TD := ⟨.struct [(0, 12), (1, 12), (2, 56), (3, 66), (4, 5), (5, 5), (6, 67), (7, 68), (8, 69), (9, 70), (10, 71)], 11, 48, [.sc (.int .u64 0), .sc (.int .u64 0), .sc (.int .u32 0), .sc (.int .u8 0), .sc (.int .u8 0), .sc (.int .u8 0), .sc (.int .u8 0), .sc (.nilFunc), .sc (.pointer none), .sc (.int .i32 0), .sc (.int .i32 0)]⟩

theorem ty73 : TyOk Tryd.prog 73 d73 := ⟨⟨_, Tryd.underlying73, rfl⟩, ⟨_, _, Tryd.type73, rfl, rfl, rfl, rfl⟩, rfl, rfl⟩

def τ (t : Nat) : Option TD :=
  match t with
  | 2 => some d2
  | 3 => some d3
  | 4 => some d4
  | 5 => some d5
  | 6 => some d6
  | 7 => some d7
  | 8 => some d8
  | 9 => some d9
  | 10 => some d10
  | 11 => some d11
  | 12 => some d12
  | 13 => some d13
  | 14 => some d14
  | 15 => some d15
  | 16 => some d16
  | 17 => some d17
  | 18 => some d18
  | 19 => some d19
  | 21 => some d21
  | 22 => some d22
  | 23 => some d23
  | 28 => some d28
  | 43 => some d43
  | 51 => some d51
  | 53 => some d53
  | 54 => some d54
  | 56 => some d56
  | 60 => some d60
  | 61 => some d61
  | 63 => some d63
  | 64 => some d64
  | 66 => some d66
  | 67 => some d67
  | 69 => some d69
  | 70 => some d70
  | 71 => some d71
  | 72 => some d72
  | 73 => some d73
  | _ => none

theorem τ_ok : ∀ t d, τ t = some d → TyOk Tryd.prog t d := by
  intro t d h
  unfold τ at h
  split at h
  · cases h; exact ty2
  · cases h; exact ty3
  · cases h; exact ty4
  · cases h; exact ty5
  · cases h; exact ty6
  · cases h; exact ty7
  · cases h; exact ty8
  · cases h; exact ty9
  · cases h; exact ty10
  · cases h; exact ty11
  · cases h; exact ty12
  · cases h; exact ty13
  · cases h; exact ty14
  · cases h; exact ty15
  · cases h; exact ty16
  · cases h; exact ty17
  · cases h; exact ty18
  · cases h; exact ty19
  · cases h; exact ty21
  · cases h; exact ty22
  · cases h; exact ty23
  · cases h; exact ty28
  · cases h; exact ty43
  · cases h; exact ty51
  · cases h; exact ty53
  · cases h; exact ty54
  · cases h; exact ty56
  · cases h; exact ty60
  · cases h; exact ty61
  · cases h; exact ty63
  · cases h; exact ty64
  · cases h; exact ty66
  · cases h; exact ty67
  · cases h; exact ty69
  · cases h; exact ty70
  · cases h; exact ty71
  · cases h; exact ty72
  · cases h; exact ty73
  · cases h

theorem mixed : Tryd.prog.follows .mixedOrders = true := by rfl

end Go.Proofs.YtppfojiogappaaaDoor.V

set_option linter.unusedVariables false

set_option linter.unusedSimpArgs false

namespace Go.Proofs.YtppfojiogappaaaDoor.V

open Go

def MdS1E (f : Nat) : List Mode :=
  match f with
  | 8 => [.rd]
  | 12 => []
  | 16 => [.rd]
  | 17 => [.rd]
  | 18 => [.rd]
  | 21 => [.rd]
  | 22 => [.rd]
  | 28 => [.rd, .rd, .rd]
  | _ => []

def S1E : Env := ⟨τ, MdS1E⟩

theorem addStr_nums (a b : List Int) : addStr (strOfNums a) (strOfNums b) = strOfNums (a ++ b) := by
  rw [addStr_eq]
  unfold strOfNums
  apply ByteArray.ext
  simp

theorem runeStr_ascii {n : Int} (h0 : 0 ≤ n) (h1 : n < 128) : runeStr n = strOfNums [n] := by
  rw [runeStr_eq]
  unfold Utf8.encode strOfNums
  have hv : Utf8.valid n = true := by
    simp [Utf8.valid]
    omega
  simp only [hv, if_true]
  have : n.toNat < 128 := by omega
  simp [this]

theorem wrp_i32 {x : Int} (h0 : -2147483648 ≤ x) (h1 : x ≤ 2147483647) : wrp .i32 x = x := by
  have e1 : (2 : Int) ^ 32 = 4294967296 := by decide
  have e2 : (2 : Int) ^ (32 - 1) = 2147483648 := by decide
  simp only [wrp_eq, IntKind.wrap, IntKind.bits, IntKind.signed, e1, e2, Bool.true_and, decide_eq_true_eq]
  split <;> omega

theorem i64max : IntKind.i64.max = 9223372036854775807 := by decide

def digs (n : Nat) : List Int := if n < 10 then [(48 + n : Int)] else digs (n / 10) ++ [(48 + (n % 10 : Nat) : Int)]
  termination_by n
  decreasing_by omega

theorem digs_small {n : Nat} (h : n < 10) : digs n = [(48 + n : Int)] := by rw [digs, if_pos h]

theorem digs_big {n : Nat} (h : ¬ n < 10) : digs n = digs (n / 10) ++ [(48 + (n % 10 : Nat) : Int)] := by rw [digs, if_neg h]

theorem digs_len : ∀ (k n : Nat), n < 10 ^ (k + 1) → (digs n).length ≤ k + 1
  | 0, n, h => by rw [digs_small (by omega)]; simp
  | k + 1, n, h => by
    by_cases hn : n < 10
    · rw [digs_small hn]; simp
    · rw [digs_big hn]
      have := digs_len k (n / 10) (by
        rw [Nat.pow_succ] at h
        exact Nat.div_lt_of_lt_mul (by rw [Nat.mul_comm]; exact h))
      simp
      omega

theorem digs_len20 {n : Nat} (h : n ≤ 9223372036854775807) : (digs n).length ≤ 20 := digs_len 19 n (by
  have : (10 : Nat) ^ 20 = 100000000000000000000 := by decide
  omega)

def decL (n : Int) : List Int := if n < 0 then 45 :: digs (-n).toNat else digs n.toNat

noncomputable def decS (n : Int) : ByteArray := strOfNums (decL n)

theorem decL_neg {n : Int} (h : n < 0) : decL n = 45 :: digs (-n).toNat := by rw [decL, if_pos h]

theorem decL_pos {n : Int} (h : 0 ≤ n) : decL n = digs n.toNat := by rw [decL, if_neg (by omega)]

theorem decL_len {n : Int} (h0 : -9223372036854775807 ≤ n) (h1 : n ≤ 9223372036854775807) : (decL n).length ≤ 21 := by
  unfold decL
  split
  · have := digs_len20 (n := (-n).toNat) (by omega)
    simp; omega
  · have := digs_len20 (n := n.toNat) (by omega)
    omega

theorem dm10 {x : Int} (h : x < 0) (h0 : -1000000000000 ≤ x) : tdivOf .i64 x 10 = -((-x) / 10) ∧ wrp .i64 (0 - tmodOf x 10) = (-x) % 10 := by
  have e1 : x.tdiv 10 = -((-x) / 10) := by
    have : x.tdiv 10 = (-(-x)).tdiv 10 := by rw [Int.neg_neg]
    rw [this, Int.neg_tdiv, Int.tdiv_eq_ediv_of_nonneg (by omega)]
  have e2 : x.tmod 10 = -((-x) % 10) := by
    have : x.tmod 10 = (-(-x)).tmod 10 := by rw [Int.neg_neg]
    rw [this, Int.neg_tmod, Int.tmod_eq_emod_of_nonneg (by omega)]
  constructor
  · rw [tdivOf_eq, e1, ← wrp_eq, wrp_i64 (by omega) (by omega)]
  · rw [tmodOf_eq, e2, wrp_i64 (by omega) (by omega)]
    omega

theorem dig_step {x y : Nat} {acc : List Int} (hy : 0 < y) (h : digs y ++ acc = digs x) :
    (0 < y / 10 → digs (y / 10) ++ ((48 + (y % 10 : Nat) : Int) :: acc) = digs x) ∧ (y / 10 = 0 → ((48 + (y % 10 : Nat) : Int) :: acc) = digs x) := by
  constructor
  · intro h1
    rw [← h, digs_big (n := y) (by omega)]
    simp
  · intro h1
    rw [← h, digs_small (n := y) (by omega)]
    have : y % 10 = y := by omega
    simp [this]

set_option maxRecDepth 100000 in
set_option maxHeartbeats 2000000 in
theorem s_l3Digits_ok : ∀ (m : Nat) (x : Int), (if x < 0 then 1 else 0) < m → -1000000000000 ≤ x → x ≤ 1000000000000 → FnV Tryd.prog 17 [iV x] fun rs outs => rs = [sR (decS x)] ∧ outs = [] := by
  intro m
  induction m with
  | zero => intro x hm; omega
  | succ m ih =>
    intro x hm h0 hx
    refine fn_ok (E := S1E) τ_ok mixed Tryd.func17 (by rfl) (by rfl) false (by simp [Tryd.f17]) ?_
    conv => whnf
    refine br_if (fun h => ?_) (fun h => ?_) <;> (try rw [h]) <;> (conv => whnf)
    · rw [ltI_t] at h
      rw [wrp_i64 (x := 0 - x) (by omega) (by omega)]
      have hl := digs_len20 (n := (-x).toNat) (by omega)
      refine (ih (0 - x) (by rw [if_pos h] at hm; rw [if_neg (by omega)]; omega) (by omega) (by omega)).mono ?_
      rintro _ _ ⟨rfl, rfl⟩
      conv => whnf
      rw [show (⟨#[45]⟩ : ByteArray) = strOfNums [45] from rfl, decS, decL_pos (by omega), addStr_nums, decS, decL_neg h, show 0 - x = -x by omega]
      refine ⟨by simp only [strOfNums_size, i64max]; simp; omega, ?_⟩
      conv => whnf
      exact ⟨rfl, rfl⟩
    rw [ltI_f] at h
    refine br_if (fun h2 => ?_) (fun h2 => ?_) <;> (try rw [h2]) <;> (conv => whnf)
    · rw [eqI_t] at h2
      rw [decS, h2, decL_pos (by omega), digs_small (by decide)]
      exact ⟨rfl, rfl⟩
    rw [eqI_f] at h2
    have hl := digs_len20 (n := x.toNat) (by omega)
    rw [decS, decL_pos h]
    refine ⟨fun n s => ∃ (y : Int) (acc : List Int), s = ⟨[(0, .vals false [.sc (.int .i64 y)]), (3, .vals false [.sc (.string (strOfNums acc))])], [], []⟩ ∧ n = y.toNat ∧ 0 ≤ y ∧ y ≤ x ∧ acc.length ≤ 20 ∧ (0 < y → digs y.toNat ++ acc = digs x.toNat) ∧ (y = 0 → acc = digs x.toNat),
      ⟨_, _, norm_wk (keep := [0, 3]) (kb := []) (ρ := []) rfl, ⟨x, [], rfl, rfl, h, Int.le_refl _, by simp, by simp, by omega⟩⟩, ?_⟩
    rintro n _ ⟨y, acc, rfl, hny, hy0, hy, hal, h1, h2⟩
    conv => whnf
    refine br_if (fun h => ?_) (fun h => ?_) <;> (try rw [h]) <;> (conv => whnf)
    · rw [ltI_t] at h
      refine ⟨by decide, ?_⟩
      conv => whnf
      refine ⟨[wrp .u8 (wrp .i64 (48 + tmodOf y 10))], rfl, ?_⟩
      conv => whnf
      rw [addStr_nums]
      refine ⟨by simp only [strOfNums_size]; simp [IntKind.max, IntKind.bits, IntKind.signed]; omega, ?_⟩
      conv => whnf
      refine ⟨by decide, ?_⟩
      conv => whnf
      have e1 : wrp .u8 (wrp .i64 (48 + tmodOf y 10)) = (48 + (y.toNat % 10 : Nat) : Int) := by
        rw [tmodOf_pos (by omega), wrp_i64 (by omega) (by omega), wrp_u8 (by omega) (by omega)]
        omega
      have e2 : tdivOf .i64 y 10 = y / 10 := tdivOf_pos (by omega) (by omega) (by omega)
      have e3 : (y / 10).toNat = y.toNat / 10 := by omega
      obtain ⟨q1, q2⟩ := dig_step (x := x.toNat) (acc := acc) (y := y.toNat) (by omega) (h1 (by omega))
      have hal2 : ((48 + (y.toNat % 10 : Nat) : Int) :: acc).length ≤ 20 := by
        by_cases hz : y.toNat / 10 = 0
        · rw [q2 hz]; exact hl
        · have := q1 (by omega)
          rw [← this] at hl
          simp at hl ⊢
          omega
      exact ⟨_, _, by rw [hny]; omega, norm_wk (keep := [0, 3]) (kb := []) (ρ := []) rfl, ⟨y / 10, (48 + (y.toNat % 10 : Nat) : Int) :: acc, by rw [e1, e2]; rfl, rfl, by omega, by omega, hal2, fun h => by rw [e3]; exact q1 (by omega), fun h => q2 (by omega)⟩⟩
    · rw [ltI_f] at h
      have : y = 0 := by omega
      rw [h2 this]
      exact ⟨rfl, rfl⟩

set_option maxRecDepth 100000 in
set_option maxHeartbeats 2000000 in
theorem i_decimal_ok : ∀ (m : Nat) (x : Int), 2 * x.natAbs + (if x < 0 then 1 else 0) < m → -1000000000000 ≤ x → x ≤ 1000000000000 → FnV Tryd.prog 22 [iV x] fun rs outs => rs = [sR (decS x)] ∧ outs = [] := by
  intro m
  induction m with
  | zero => intro x hm; omega
  | succ m ih =>
    intro x hm h0 hx
    refine fn_ok (E := S1E) τ_ok mixed Tryd.func22 (by rfl) (by rfl) false (by simp [Tryd.f22]) ?_
    conv => whnf
    refine br_if (fun h => ?_) (fun h => ?_) <;> (try rw [h]) <;> (conv => whnf)
    · rw [ltI_t] at h
      refine br_if (fun h3 => ?_) (fun h3 => ?_) <;> (try rw [h3]) <;> (conv => whnf)
      · rw [ltI_t] at h3
        rw [wrp_i64 (x := 0 - x) (by omega) (by omega)]
        have hl := digs_len20 (n := (-x).toNat) (by omega)
        refine (ih (0 - x) (by rw [if_pos h] at hm; rw [if_neg (by omega)]; omega) (by omega) (by omega)).mono ?_
        rintro _ _ ⟨rfl, rfl⟩
        conv => whnf
        rw [show (⟨#[45]⟩ : ByteArray) = strOfNums [45] from rfl, decS, decL_pos (by omega), addStr_nums, decS, decL_neg h, show 0 - x = -x by omega]
        refine ⟨by simp only [strOfNums_size, i64max]; simp; omega, ?_⟩
        conv => whnf
        exact ⟨rfl, rfl⟩
      · rw [ltI_f] at h3
        rw [show ltI x 0 = true from ltI_t.2 h]
        conv => whnf
        refine ⟨by decide, ?_⟩
        conv => whnf
        obtain ⟨q1, q2⟩ := dm10 h (by omega)
        have hl := digs_len20 (n := (-x).toNat / 10) (by omega)
        rw [q1]
        refine (ih (-((-x) / 10)) (by rw [if_pos h] at hm; split <;> omega) (by omega) (by omega)).mono ?_
        rintro _ _ ⟨rfl, rfl⟩
        conv => whnf
        refine ⟨by decide, ?_⟩
        conv => whnf
        rw [q2]
        refine (ih ((-x) % 10) (by rw [if_pos h] at hm; split <;> omega) (by omega) (by omega)).mono ?_
        rintro _ _ ⟨rfl, rfl⟩
        conv => whnf
        rw [decS, decS, decL_neg (by omega), decL_pos (by omega), addStr_nums, decS, decL_neg h, digs_big (n := (-x).toNat) (by omega), digs_small (n := ((-x) % 10).toNat) (by omega), show (- -(-x / 10)).toNat = (-x).toNat / 10 by omega, show (((-x) % 10).toNat : Int) = (((-x).toNat % 10 : Nat) : Int) by omega]
        refine ⟨by simp only [strOfNums_size, i64max]; simp; omega, ?_⟩
        conv => whnf
        exact ⟨rfl, rfl⟩
    rw [ltI_f] at h
    refine br_if (fun h3 => ?_) (fun h3 => ?_) <;> (try rw [h3]) <;> (conv => whnf)
    · rw [ltI_t] at h3
      omega
    rw [ltI_f] at h3
    rw [decS, decL_pos h]
    refine br_if (fun h2 => ?_) (fun h2 => ?_) <;> (try rw [h2]) <;> (conv => whnf)
    · rw [ltI_t] at h2
      rw [wrp_i64 (by omega) (by omega), wrp_i32 (by omega) (by omega), runeStr_ascii (by omega) (by omega), digs_small (by omega)]
      have e : (48 + x : Int) = 48 + (x.toNat : Int) := by omega
      rw [e]
      exact ⟨rfl, rfl⟩
    · rw [ltI_f] at h2
      refine ⟨by decide, ?_⟩
      conv => whnf
      have e1 : tdivOf .i64 x 10 = x / 10 := tdivOf_pos (by omega) (by omega) (by omega)
      have e2 : (x / 10).toNat = x.toNat / 10 := by omega
      have e3 : wrp .i32 (wrp .i64 (48 + tmodOf x 10)) = (48 + (x.toNat % 10 : Nat) : Int) := by
        rw [tmodOf_pos (by omega), wrp_i64 (by omega) (by omega), wrp_i32 (by omega) (by omega)]
        omega
      have hl := digs_len20 (n := x.toNat / 10) (by omega)
      rw [e1]
      refine (ih (x / 10) (by split at hm <;> split <;> omega) (by omega) (by omega)).mono ?_
      rintro _ _ ⟨rfl, rfl⟩
      conv => whnf
      refine ⟨by decide, ?_⟩
      conv => whnf
      rw [e3, runeStr_ascii (by omega) (by omega), decS, decL_pos (by omega), addStr_nums]
      refine ⟨by simp only [strOfNums_size, e2]; simp [IntKind.max, IntKind.bits, IntKind.signed]; omega, ?_⟩
      conv => whnf
      rw [digs_big (n := x.toNat) (by omega), e2]
      exact ⟨rfl, rfl⟩

def deedOk (k a b : Int) : Bool :=
  if a < 0 ∨ b < 0 then false else if k = 1 then decide (b ≤ 50) else if k = 2 then true else if k = 3 ∨ k = 4 ∨ k = 5 then decide (b = 0) else false

@[reducible] def dV (k a b : Int) : AV := .rdv true [.sc (.int .i64 k), .sc (.int .i64 a), .sc (.int .i64 b)]

theorem bR_eq {x y : Bool} (h : x = y) : [bR x] = [bR y] ∧ ([] : List (List C)) = [] := by rw [h]; exact ⟨rfl, rfl⟩

set_option maxRecDepth 100000 in
theorem i_within_ok (x y z : Int) : FnV Tryd.prog 28 [iV x, iV y, iV z] fun rs outs => rs = [bR (decide (y ≤ x ∧ x ≤ z))] ∧ outs = [] := by
  refine fn_ok (E := S1E) τ_ok mixed Tryd.func28 (by rfl) (by rfl) false (by simp [Tryd.f28]) ?_
  conv => whnf
  repeat' (refine br_if (fun h => ?_) (fun h => ?_) <;> (try rw [h]) <;> (conv => whnf))
  all_goals refine bR_eq ?_
  all_goals simp [leI_eq] at *
  all_goals omega

set_option maxRecDepth 100000 in
theorem s_DeedOk_ok (k a b : Int) : FnV Tryd.prog 16 [dV k a b] fun rs outs => rs = [bR (deedOk k a b)] ∧ outs = [] := by
  refine fn_ok (E := S1E) τ_ok mixed Tryd.func16 (by rfl) (by rfl) false (by simp [Tryd.f16]) ?_
  conv => whnf
  repeat' (refine br_if (fun h => ?_) (fun h => ?_) <;> (try rw [h]) <;> (conv => whnf))
  all_goals refine bR_eq ?_
  all_goals simp only [leI_eq, ltI_eq, eqI_eq, beq_iff_eq, beq_eq_false_iff_ne, decide_eq_true_eq, decide_eq_false_iff_not, Int.not_lt] at *
  all_goals unfold deedOk
  all_goals repeat' split
  all_goals first | rfl | omega | (simp; omega)

set_option maxRecDepth 100000 in
theorem i_DeedOk_ok (k a b : Int) : FnV Tryd.prog 21 [dV k a b] fun rs outs => rs = [bR (deedOk k a b)] ∧ outs = [] := by
  refine fn_ok (E := S1E) τ_ok mixed Tryd.func21 (by rfl) (by rfl) false (by simp [Tryd.f21]) ?_
  conv => whnf
  refine (i_within_ok _ _ _).mono ?_
  rintro _ _ ⟨rfl, rfl⟩
  conv => whnf
  repeat' (refine br_if (fun h => ?_) (fun h => ?_) <;> (try rw [h]) <;> (conv => whnf))
  all_goals refine bR_eq ?_
  all_goals simp only [leI_eq, ltI_eq, eqI_eq, notB_eq, Bool.not_eq_true', Bool.not_eq_false', beq_iff_eq, beq_eq_false_iff_ne, decide_eq_true_eq, decide_eq_false_iff_not, Int.not_lt] at *
  all_goals unfold deedOk
  all_goals repeat' split
  all_goals first | rfl | omega | (simp; omega)

set_option maxRecDepth 100000 in
theorem s_two_ok (k : Int) : FnV Tryd.prog 18 [iV k] fun rs outs => rs = [bR (decide (k = 1 ∨ k = 2))] ∧ outs = [] := by
  refine fn_ok (E := S1E) τ_ok mixed Tryd.func18 (by rfl) (by rfl) false (by simp [Tryd.f18]) ?_
  conv => whnf
  repeat' (refine br_if (fun h => ?_) (fun h => ?_) <;> (try rw [h]) <;> (conv => whnf))
  all_goals refine bR_eq ?_
  · rw [eqI_t] at h
    simp [h]
  · rw [eqI_f] at h
    by_cases h2 : k = 2
    · simp [h2, eqI_eq]
    · simp [h, h2, eqI_eq]

def dwords : List (List C) := [[.sc (.string ⟨#[115, 116, 101, 112]⟩)], [.sc (.string ⟨#[115, 104, 111, 119]⟩)], [.sc (.string ⟨#[103, 105, 118, 101]⟩)], [.sc (.string ⟨#[99, 111, 112, 121]⟩)], [.sc (.string ⟨#[108, 111, 115, 101]⟩)]]

def dword (k : Int) : ByteArray := if k = 1 then ⟨#[115, 116, 101, 112]⟩ else if k = 2 then ⟨#[115, 104, 111, 119]⟩ else if k = 3 then ⟨#[103, 105, 118, 101]⟩ else if k = 4 then ⟨#[99, 111, 112, 121]⟩ else ⟨#[108, 111, 115, 101]⟩

set_option maxRecDepth 100000 in
theorem i_words_ok : FnV Tryd.prog 12 [] fun rs outs => rs = [⟨false, [.own true 1 dwords]⟩] ∧ outs = [] := by
  refine fn_ok (E := S1E) τ_ok mixed Tryd.func12 (by rfl) (by rfl) false (by simp [Tryd.f12]) ?_
  conv => whnf
  exact ⟨rfl, rfl⟩

set_option maxRecDepth 100000 in
theorem s_word_ok (k : Int) (h1 : 1 ≤ k) (h2 : k ≤ 5) : FnV Tryd.prog 8 [iV k] fun rs outs => rs = [sR (dword k)] ∧ outs = [] := by
  refine fn_ok (E := S1E) τ_ok mixed Tryd.func8 (by rfl) (by rfl) false (by simp [Tryd.f8]) ?_
  conv => whnf
  refine ⟨by omega, by simp only [chunk_len]; omega, ?_⟩
  conv => whnf
  refine ⟨[.sc (.string (dword k))], by rcases (show k = 1 ∨ k = 2 ∨ k = 3 ∨ k = 4 ∨ k = 5 by omega) with rfl | rfl | rfl | rfl | rfl <;> rfl, ?_⟩
  conv => whnf
  exact ⟨rfl, rfl⟩

theorem deedOk_kind {k a b : Int} (h : deedOk k a b = true) : 1 ≤ k ∧ k ≤ 5 ∧ 0 ≤ a ∧ 0 ≤ b := by
  unfold deedOk at h
  split at h
  · cases h
  · split at h
    · simp at h; omega
    · split at h
      · omega
      · split at h
        · simp at h; omega
        · cases h

def lineOk (k a b : Int) : Bool := deedOk k a b && (decide (a ≤ 999999999) && decide (b ≤ 999999999))

noncomputable def lineOf (k a b : Int) : ByteArray :=
  if lineOk k a b = true then
    (if k = 1 ∨ k = 2 then addStr (addStr (addStr (addStr (dword k) ⟨#[32]⟩) (decS a)) ⟨#[32]⟩) (decS b)
     else addStr (addStr (dword k) ⟨#[32]⟩) (decS a))
  else ⟨#[]⟩

theorem addStr_size (x y : ByteArray) : (addStr x y).size = x.size + y.size := by
  rw [addStr_eq]
  simp

theorem dword_size (k : Int) : (dword k).size ≤ 5 := by
  unfold dword
  repeat' split
  all_goals decide

theorem sz1 (x : UInt8) : (⟨#[x]⟩ : ByteArray).size = 1 := rfl

theorem line_no {k a b : Int} (h : lineOk k a b = false) : [sR ⟨#[]⟩, bR false] = [sR (lineOf k a b), bR (lineOk k a b)] ∧ ([] : List (List C)) = [] := by
  unfold lineOf
  rw [h]
  exact ⟨rfl, rfl⟩

theorem line_yes2 {k a b : Int} (h : deedOk k a b = true) (h2 : a ≤ 999999999) (h3 : b ≤ 999999999) (h4 : k = 1 ∨ k = 2) :
    [sR (addStr (addStr (addStr (addStr (dword k) ⟨#[32]⟩) (decS a)) ⟨#[32]⟩) (decS b)), bR true] = [sR (lineOf k a b), bR (lineOk k a b)] ∧ ([] : List (List C)) = [] := by
  have : lineOk k a b = true := by simp [lineOk, h, h2, h3]
  unfold lineOf
  rw [if_pos this, if_pos h4, this]
  exact ⟨rfl, rfl⟩

theorem line_yes1 {k a b : Int} (h : deedOk k a b = true) (h2 : a ≤ 999999999) (h3 : b ≤ 999999999) (h4 : ¬ (k = 1 ∨ k = 2)) :
    [sR (addStr (addStr (dword k) ⟨#[32]⟩) (decS a)), bR true] = [sR (lineOf k a b), bR (lineOk k a b)] ∧ ([] : List (List C)) = [] := by
  have : lineOk k a b = true := by simp [lineOk, h, h2, h3]
  unfold lineOf
  rw [if_pos this, if_neg h4, this]
  exact ⟨rfl, rfl⟩

set_option maxRecDepth 100000 in
theorem s_DeedLine_ok (k a b : Int) : FnV Tryd.prog 10 [dV k a b] fun rs outs => rs = [sR (lineOf k a b), bR (lineOk k a b)] ∧ outs = [] := by
  refine fn_ok (E := S1E) τ_ok mixed Tryd.func10 (by rfl) (by rfl) false (by simp [Tryd.f10]) ?_
  conv => whnf
  refine (s_DeedOk_ok _ _ _).mono ?_
  rintro _ _ ⟨rfl, rfl⟩
  conv => whnf
  refine br_if (fun h => ?_) (fun h => ?_) <;> (try rw [h]) <;> (conv => whnf)
  · rw [notB_t] at h
    exact line_no (by simp [lineOk, h])
  rw [notB_f] at h
  refine br_if (fun h2 => ?_) (fun h2 => ?_) <;> (try rw [h2]) <;> (conv => whnf)
  · rw [ltI_t] at h2
    exact line_no (by simp [lineOk]; omega)
  rw [ltI_f] at h2
  refine br_if (fun h3 => ?_) (fun h3 => ?_) <;> (try rw [h3]) <;> (conv => whnf)
  · rw [ltI_t] at h3
    exact line_no (by simp [lineOk]; omega)
  rw [ltI_f] at h3
  obtain ⟨d1, d2, d3, d4⟩ := deedOk_kind h
  have l0 := dword_size k
  have l1 := decL_len (n := a) (by omega) (by omega)
  have l2 := decL_len (n := b) (by omega) (by omega)
  refine ⟨.take 0 (.take 4 (.early 1 (.early 5 (.or 2 (.take 3 (.or 6 (.take 7 (.take 8 .done)) .nil)) .nil)))), by rfl, ?_⟩
  apply Exists.intro
  refine ⟨?_, ?_⟩
  · conv => whnf
    refine (s_word_ok _ d1 d2).mono ?_
    rintro _ _ ⟨rfl, rfl⟩
    conv => whnf
    refine ⟨rfl, ?_⟩
    conv => whnf
    refine ⟨rfl, ?_⟩
    conv => whnf
    refine ⟨by simp only [addStr_size, decS, strOfNums_size, i64max, sz1]; omega, ?_⟩
    conv => whnf
    refine (s_l3Digits_ok 2 _ (by split <;> omega) (by omega) (by omega)).mono ?_
    rintro _ _ ⟨rfl, rfl⟩
    conv => whnf
    refine ⟨rfl, ?_⟩
    conv => whnf
    refine ⟨rfl, ?_⟩
    conv => whnf
    refine ⟨by simp only [addStr_size, decS, strOfNums_size, i64max, sz1]; omega, ?_⟩
    conv => whnf
    exact norm_wk (keep := [1, 4]) (kb := [1]) (ρ := []) rfl
  conv => whnf
  refine (s_two_ok _).mono ?_
  rintro _ _ ⟨rfl, rfl⟩
  conv => whnf
  refine br_if (fun h4 => ?_) (fun h4 => ?_) <;> (try rw [h4]) <;> (conv => whnf)
  · refine ⟨by simp only [addStr_size, decS, strOfNums_size, i64max, sz1]; omega, ?_⟩
    conv => whnf
    refine (s_l3Digits_ok 2 _ (by split <;> omega) (by omega) (by omega)).mono ?_
    rintro _ _ ⟨rfl, rfl⟩
    conv => whnf
    refine ⟨by simp only [addStr_size, decS, strOfNums_size, i64max, sz1]; omega, ?_⟩
    conv => whnf
    exact line_yes2 h h2 h3 (by simpa using h4)
  · exact line_yes1 h h2 h3 (by simpa using h4)

theorem addStr_assoc (x y z : ByteArray) : addStr x (addStr y z) = addStr (addStr x y) z := by
  simp only [addStr_eq]
  exact (ByteArray.append_assoc).symm

theorem dword_at {k : Int} (d1 : 1 ≤ k) (d2 : k ≤ 5) : dwords[(wrp .i64 (k - 1)).toNat]? = some [.sc (.string (dword k))] := by
  rw [wrp_i64 (by omega) (by omega)]
  rcases (show k = 1 ∨ k = 2 ∨ k = 3 ∨ k = 4 ∨ k = 5 by omega) with rfl | rfl | rfl | rfl | rfl <;> rfl

set_option maxRecDepth 100000 in
theorem i_DeedLine_ok (k a b : Int) : FnV Tryd.prog 14 [dV k a b] fun rs outs => rs = [sR (lineOf k a b), bR (lineOk k a b)] ∧ outs = [] := by
  refine fn_ok (E := S1E) τ_ok mixed Tryd.func14 (by rfl) (by rfl) false (by simp [Tryd.f14]) ?_
  conv => whnf
  refine (i_DeedOk_ok _ _ _).mono ?_
  rintro _ _ ⟨rfl, rfl⟩
  conv => whnf
  refine br_if (fun h => ?_) (fun h => ?_) <;> (try rw [h]) <;> (conv => whnf)
  · rw [notB_t] at h
    exact line_no (by simp [lineOk, h])
  rw [notB_f] at h
  refine br_if (fun h2 => ?_) (fun h2 => ?_) <;> (try rw [h2]) <;> (conv => whnf)
  · rw [ltI_t] at h2
    exact line_no (by simp [lineOk]; omega)
  rw [ltI_f] at h2
  refine br_if (fun h3 => ?_) (fun h3 => ?_) <;> (try rw [h3]) <;> (conv => whnf)
  · rw [ltI_t] at h3
    exact line_no (by simp [lineOk]; omega)
  rw [ltI_f] at h3
  obtain ⟨d1, d2, d3, d4⟩ := deedOk_kind h
  have l0 := dword_size k
  have l1 := decL_len (n := a) (by omega) (by omega)
  have l2 := decL_len (n := b) (by omega) (by omega)
  have hw : wrp .i64 (k - 1) = k - 1 := wrp_i64 (by omega) (by omega)
  refine ⟨.take 1 (.take 7 (.early 2 (.take 3 (.early 8 (.or 0 (.or 4 (.early 5 (.take 6 (.or 9 (.take 10 (.take 11 .done)) .nil))) (.or 9 (.or 4 (.or 5 (.take 6 (.take 10 (.take 11 .done))) .nil) .nil) .nil)) .nil))))), by rfl, ?_⟩
  apply Exists.intro
  refine ⟨?_, ?_⟩
  · conv => whnf
    refine i_words_ok.mono ?_
    rintro _ _ ⟨rfl, rfl⟩
    conv => whnf
    refine ⟨rfl, ?_⟩
    conv => whnf
    refine ⟨rfl, ?_⟩
    conv => whnf
    refine ⟨?_, ?_⟩ <;> (conv => whnf)
    · refine ⟨by omega, by simp [dwords]; omega, ?_⟩
      conv => whnf
      refine ⟨rfl, ?_⟩
      conv => whnf
      refine ⟨rfl, ?_⟩
      conv => whnf
      refine ⟨_, dword_at d1 d2, ?_⟩
      conv => whnf
      refine ⟨by simp only [addStr_size, decS, strOfNums_size, i64max, sz1]; omega, ?_⟩
      conv => whnf
      refine (i_decimal_ok (2 * a.natAbs + 2) a (by split <;> omega) (by omega) (by omega)).mono ?_
      rintro _ _ ⟨rfl, rfl⟩
      conv => whnf
      refine ⟨_, dword_at d1 d2, ?_⟩
      conv => whnf
      refine ⟨rfl, ?_⟩
      conv => whnf
      refine ⟨rfl, ?_⟩
      conv => whnf
      refine ⟨rfl, ?_⟩
      conv => whnf
      refine ⟨by simp only [addStr_size, decS, strOfNums_size, i64max, sz1]; omega, ?_⟩
      conv => whnf
      exact norm_wk (keep := [1, 4]) (kb := [1]) (ρ := [(18, none)]) rfl
    · refine (i_decimal_ok (2 * a.natAbs + 2) a (by split <;> omega) (by omega) (by omega)).mono ?_
      rintro _ _ ⟨rfl, rfl⟩
      conv => whnf
      refine ⟨rfl, ?_⟩
      conv => whnf
      refine ⟨rfl, ?_⟩
      conv => whnf
      refine ⟨by omega, by simp [dwords]; omega, ?_⟩
      conv => whnf
      refine ⟨rfl, ?_⟩
      conv => whnf
      refine ⟨rfl, ?_⟩
      conv => whnf
      refine ⟨_, dword_at d1 d2, ?_⟩
      conv => whnf
      refine ⟨rfl, ?_⟩
      conv => whnf
      refine ⟨rfl, ?_⟩
      conv => whnf
      refine ⟨by simp only [addStr_size, decS, strOfNums_size, i64max, sz1]; omega, ?_⟩
      conv => whnf
      refine ⟨by simp only [addStr_size, decS, strOfNums_size, i64max, sz1]; omega, ?_⟩
      conv => whnf
      exact norm_wk (keep := [1, 4]) (kb := [1]) (ρ := [(18, none)]) rfl
  conv => whnf
  refine br_if (fun h4 => ?_) (fun h4 => ?_) <;> (try rw [h4]) <;> (conv => whnf)
  · rw [eqI_t] at h4
    refine (i_decimal_ok (2 * b.natAbs + 2) b (by split <;> omega) (by omega) (by omega)).mono ?_
    rintro _ _ ⟨rfl, rfl⟩
    conv => whnf
    refine ⟨by simp only [addStr_size, decS, strOfNums_size, i64max, sz1]; omega, ?_⟩
    conv => whnf
    refine ⟨by simp only [addStr_size, decS, strOfNums_size, i64max, sz1]; omega, ?_⟩
    conv => whnf
    rw [addStr_assoc]
    exact line_yes2 h h2 h3 (by omega)
  rw [eqI_f] at h4
  refine br_if (fun h5 => ?_) (fun h5 => ?_) <;> (try rw [h5]) <;> (conv => whnf)
  · rw [eqI_t] at h5
    refine (i_decimal_ok (2 * b.natAbs + 2) b (by split <;> omega) (by omega) (by omega)).mono ?_
    rintro _ _ ⟨rfl, rfl⟩
    conv => whnf
    refine ⟨by simp only [addStr_size, decS, strOfNums_size, i64max, sz1]; omega, ?_⟩
    conv => whnf
    refine ⟨by simp only [addStr_size, decS, strOfNums_size, i64max, sz1]; omega, ?_⟩
    conv => whnf
    rw [addStr_assoc]
    exact line_yes2 h h2 h3 (by omega)
  rw [eqI_f] at h5
  exact line_yes1 h h2 h3 (by omega)

end Go.Proofs.YtppfojiogappaaaDoor.V

set_option linter.unusedVariables false

set_option linter.unusedSimpArgs false

namespace Go.Proofs.YtppfojiogappaaaDoor.V

open Go

def MdS2E (f : Nat) : List Mode :=
  match f with
  | 15 => [.rd]
  | 17 => [.rd]
  | 20 => [.rd]
  | 23 => [.rd]
  | 24 => [.rd, .rd, .rd]
  | _ => []

def S2E : Env := ⟨τ, MdS2E⟩

def Bytes (zs : List Int) : Prop := ∀ z ∈ zs, 0 ≤ z ∧ z < 256

def sbs (s : ByteArray) : List Int := s.data.toList.map fun b => (b.toNat : Int)

theorem sbs_len (s : ByteArray) : (sbs s).length = s.size := by simp [sbs]

theorem sbs_at {s : ByteArray} {k : Int} (h0 : 0 ≤ k) (h1 : k < s.size) : (sbs s)[k.toNat]? = some (btOf s k) := by
  rw [btOf_eq, dif_pos (by omega), sbs, List.getElem?_map]
  have : s.data.toList[k.toNat]? = some (s[k.toNat]'(by omega)) := by
    rw [Array.getElem?_toList]
    exact Array.getElem?_eq_getElem _
  rw [this]
  rfl

theorem strOfNums_sbs (s : ByteArray) : strOfNums (sbs s) = s := by
  apply ByteArray.ext
  show ((sbs s).map fun n : Int => UInt8.ofNat n.toNat).toArray = s.data
  rw [sbs, List.map_map]
  have : (fun n : Int => UInt8.ofNat n.toNat) ∘ (fun b : UInt8 => (b.toNat : Int)) = id := by
    funext b
    simp
  rw [this, List.map_id]

theorem sbs_strOfNums {l : List Int} (h : Bytes l) : sbs (strOfNums l) = l := by
  unfold sbs
  show ((l.map fun n : Int => UInt8.ofNat n.toNat).toArray.toList.map fun b => (b.toNat : Int)) = l
  rw [List.toList_toArray, List.map_map]
  have : ∀ n ∈ l, ((fun b : UInt8 => (b.toNat : Int)) ∘ fun n : Int => UInt8.ofNat n.toNat) n = n := fun n hn => by
    obtain ⟨h0, h1⟩ := h n hn
    simp only [Function.comp]
    have : (UInt8.ofNat n.toNat).toNat = n.toNat := by
      rw [UInt8.toNat_ofNat']
      exact Nat.mod_eq_of_lt (by omega)
    rw [this]
    omega
  exact (List.map_congr_left this).trans (List.map_id l)

theorem sbs_inj {s t : ByteArray} (h : sbs s = sbs t) : s = t := by rw [← strOfNums_sbs s, ← strOfNums_sbs t, h]

def valL (xs : List Int) : Int := xs.foldl (fun x d => 10 * x + (d - 48)) 0

theorem valL_snoc (xs : List Int) (d : Int) : valL (xs ++ [d]) = 10 * valL xs + (d - 48) := by simp [valL]

def IsD (d : Int) : Prop := 48 ≤ d ∧ d ≤ 57

theorem digs_dig : ∀ (m n : Nat), n < m → ∀ d ∈ digs n, IsD d
  | 0, n, h => by omega
  | m + 1, n, h => by
    intro d hd
    by_cases hn : n < 10
    · rw [digs_small hn] at hd
      simp at hd
      exact ⟨by omega, by omega⟩
    · rw [digs_big hn] at hd
      simp only [List.mem_append, List.mem_singleton] at hd
      rcases hd with hd | hd
      · exact digs_dig m (n / 10) (by omega) d hd
      · exact ⟨by omega, by omega⟩

theorem digs_D (n : Nat) : ∀ d ∈ digs n, IsD d := digs_dig (n + 1) n (by omega)

theorem digs_bytes (n : Nat) : Bytes (digs n) := fun d hd => by
  have := digs_D n d hd
  exact ⟨by unfold IsD at this; omega, by unfold IsD at this; omega⟩

theorem digs_ne (n : Nat) : digs n ≠ [] := by
  by_cases hn : n < 10
  · rw [digs_small hn]; simp
  · rw [digs_big hn]; simp

theorem valL_digs : ∀ (m n : Nat), n < m → valL (digs n) = n
  | 0, n, h => by omega
  | m + 1, n, h => by
    by_cases hn : n < 10
    · rw [digs_small hn]
      simp [valL]
      omega
    · rw [digs_big hn, valL_snoc, valL_digs m (n / 10) (by omega)]
      omega

theorem digs_head : ∀ (m n : Nat), n < m → ∀ r, digs n = 48 :: r → n = 0
  | 0, n, h => by omega
  | m + 1, n, h => by
    intro r hr
    by_cases hn : n < 10
    · rw [digs_small hn] at hr
      simp at hr
      omega
    · rw [digs_big hn] at hr
      cases hx : digs (n / 10) with
      | nil => exact absurd hx (digs_ne _)
      | cons a t =>
        rw [hx] at hr
        simp only [List.cons_append, List.cons.injEq] at hr
        obtain ⟨rfl, hr⟩ := hr
        have ht := digs_head m (n / 10) (by omega) t hx
        omega

theorem digs_len9 {n : Nat} (h : n ≤ 999999999) : (digs n).length ≤ 9 := digs_len 8 n (by omega)

theorem decS_dig {m : Int} (h0 : 0 ≤ m) : decS m = strOfNums (digs m.toNat) := by rw [decS, decL_pos h0]

theorem sbs_decS {m : Int} (h0 : 0 ≤ m) : sbs (decS m) = digs m.toNat := by rw [decS_dig h0, sbs_strOfNums (digs_bytes _)]

theorem decS_sz {m : Int} (h0 : 0 ≤ m) (h1 : m ≤ 999999999) : 1 ≤ (decS m).size ∧ (decS m).size ≤ 9 := by
  have h2 := digs_len9 (n := m.toNat) (by omega)
  have h3 := List.length_pos_iff.2 (digs_ne m.toNat)
  rw [← sbs_len, sbs_decS h0]
  omega

theorem decS_bt {m k : Int} (h0 : 0 ≤ m) (hk : 0 ≤ k) (h1 : k < (decS m).size) : IsD (btOf (decS m) k) := by
  have := sbs_at hk h1
  rw [sbs_decS h0] at this
  exact digs_D _ _ (List.mem_of_getElem? this)

theorem decS_0 {m : Int} (h0 : 0 ≤ m) (h : btOf (decS m) 0 = 48) : (decS m).size = 1 := by
  have hl := sbs_len (decS m)
  rw [sbs_decS h0] at hl
  have hp := List.length_pos_iff.2 (digs_ne m.toNat)
  have := sbs_at (s := decS m) (k := 0) (by omega) (by omega)
  rw [sbs_decS h0, h] at this
  cases hd : digs m.toNat with
  | nil => exact absurd hd (digs_ne _)
  | cons a r =>
    rw [hd] at this
    simp at this
    subst this
    have := digs_head (m.toNat + 1) m.toNat (by omega) r hd
    rw [← hl, this, digs_small (by decide)]
    rfl

theorem val_step {s : ByteArray} {i : Nat} (h : (i : Int) < s.size) : valL ((sbs s).take (i + 1)) = 10 * valL ((sbs s).take i) + (btOf s i - 48) := by
  have := sbs_at (s := s) (k := i) (by omega) h
  rw [Int.toNat_natCast] at this
  rw [List.take_add_one, this]
  simp only [Option.toList_some]
  exact valL_snoc _ _

theorem val_all {m : Int} (h0 : 0 ≤ m) {i : Nat} (h : (decS m).size ≤ i) : valL ((sbs (decS m)).take i) = m := by
  rw [List.take_of_length_le (by rw [sbs_len]; exact h), sbs_decS h0, valL_digs (m.toNat + 1) _ (by omega)]
  omega

theorem val_bound (xs : List Int) (hx : ∀ d ∈ xs, IsD d) : 0 ≤ valL xs ∧ valL xs < 10 ^ xs.length := by
  have : ∀ (n : Nat) (xs : List Int), xs.length = n → (∀ d ∈ xs, IsD d) → 0 ≤ valL xs ∧ valL xs < 10 ^ n := by
    intro n
    induction n with
    | zero =>
      intro xs h _
      rw [List.eq_nil_of_length_eq_zero h]
      decide
    | succ n ih =>
      intro xs h hx
      have hne : xs ≠ [] := by intro e; rw [e] at h; cases h
      have e := List.dropLast_concat_getLast hne
      have hl := hx _ (List.getLast_mem hne)
      obtain ⟨i1, i2⟩ := ih xs.dropLast (by rw [List.length_dropLast]; omega) (fun d hd => hx d ((List.dropLast_sublist _).subset hd))
      unfold IsD at hl
      rw [← e, valL_snoc, Int.pow_succ]
      omega
  exact this _ xs rfl hx

theorem val_lt {xs : List Int} (hx : ∀ d ∈ xs, IsD d) {k : Nat} (hl : xs.length ≤ k) : 0 ≤ valL xs ∧ valL xs < ((10 ^ k : Nat) : Int) := by
  obtain ⟨h1, h2⟩ := val_bound xs hx
  have h3 : (10 : Nat) ^ xs.length ≤ 10 ^ k := Nat.pow_le_pow_right (by decide) hl
  have h4 : ((10 ^ xs.length : Nat) : Int) = (10 : Int) ^ xs.length := by simp
  exact ⟨h1, by omega⟩

theorem s_digit_ok (x : Int) : FnV Tryd.prog 23 [.rdv false [.sc (.int .u8 x)]] fun rs outs => rs = [bR (decide (48 ≤ x ∧ x ≤ 57))] ∧ outs = [] := by
  refine fn_ok (E := S2E) τ_ok mixed Tryd.func23 (by rfl) (by rfl) false (by simp [Tryd.f23]) ?_
  conv => whnf
  repeat' (refine br_if (fun h => ?_) (fun h => ?_) <;> (try rw [h]) <;> (conv => whnf))
  all_goals refine bR_eq ?_
  all_goals simp [leI_eq] at *
  all_goals omega

theorem i_digit_ok (x : Int) : FnV Tryd.prog 20 [.rdv false [.sc (.int .u8 x)]] fun rs outs => rs = [bR (decide (48 ≤ x ∧ x ≤ 57))] ∧ outs = [] := by
  refine fn_ok (E := S2E) τ_ok mixed Tryd.func20 (by rfl) (by rfl) false (by simp [Tryd.f20]) ?_
  conv => whnf
  repeat' (refine br_if (fun h => ?_) (fun h => ?_) <;> (try rw [h]) <;> (conv => whnf))
  all_goals refine bR_eq ?_
  all_goals simp [leI_eq] at *
  all_goals omega

theorem nat_no {s : ByteArray} (h : ∀ m, 0 ≤ m → m ≤ 999999999 → s = decS m → False) : (∃ n ok, [iR 0, bR false] = [iR n, bR ok] ∧ ∀ m, 0 ≤ m → m ≤ 999999999 → s = decS m → n = m) ∧ ([] : List (List C)) = [] :=
  ⟨⟨0, false, rfl, fun m h0 h1 e => (h m h0 h1 e).elim⟩, rfl⟩

set_option maxRecDepth 100000 in
theorem i_natural_ok (s : ByteArray) (hs : (s.size : Int) ≤ 9223372036854775807) : FnV Tryd.prog 13 [sV s, iV 9] fun rs outs => (∃ n ok, rs = [iR n, bR ok] ∧ (∀ m, 0 ≤ m → m ≤ 999999999 → s = decS m → n = m)) ∧ outs = [] := by
  refine fn_ok (E := S2E) τ_ok mixed Tryd.func13 (by rfl) (by rfl) false (by simp [Tryd.f13]) ?_
  conv => whnf
  refine br_if (fun h1 => ?_) (fun h1 => ?_) <;> (try rw [h1]) <;> (conv => whnf)
  · rw [eqStr_t] at h1
    refine nat_no fun m h0 hm e => ?_
    have := decS_sz h0 hm
    rw [← e, h1] at this
    exact absurd this.1 (by decide)
  refine br_if (fun h2 => ?_) (fun h2 => ?_) <;> (try rw [h2]) <;> (conv => whnf)
  · rw [ltI_t] at h2
    refine nat_no fun m h0 hm e => ?_
    have := decS_sz h0 hm
    rw [← e] at this
    omega
  rw [ltI_f] at h2
  rw [eqStr_f] at h1
  have hpos : 0 < s.size := by
    rcases Nat.eq_zero_or_pos s.size with e | e
    · exfalso
      apply h1
      apply ByteArray.ext
      apply Array.eq_empty_of_size_eq_zero
      exact e
    · exact e
  refine ⟨by decide, by omega, ?_⟩
  conv => whnf
  refine br_if (fun h3 => ?_) (fun h3 => ?_) <;> (try rw [h3]) <;> (conv => whnf)
  · rw [eqI_t] at h3
    refine br_if (fun h4 => ?_) (fun h4 => ?_) <;> (try rw [h4]) <;> (conv => whnf)
    · rw [ltI_t] at h4
      refine nat_no fun m h0 hm e => ?_
      subst e
      have := decS_0 h0 h3
      omega
    refine ⟨fun n st => ∃ i : Nat, st = ⟨[(0, .vals false [.sc (.string s)]), (6, .vals false [.sc (.int .i64 (valL ((sbs s).take i)))]), (27, .vals false [.sc (.int .i64 (s.size : Int))]), (28, .vals false [.sc (.int .i64 (i : Int))])], [], []⟩ ∧ n = s.size - i ∧ i ≤ s.size ∧ (∀ d ∈ (sbs s).take i, IsD d),
      ⟨_, _, norm_wk (keep := [0, 6, 27, 28]) (kb := []) (ρ := []) rfl, ⟨0, rfl, rfl, Nat.zero_le _, by simp⟩⟩, ?_⟩
    rintro n _ ⟨i, rfl, rfl, hi, hD⟩
    conv => whnf
    refine br_if (fun h6 => ?_) (fun h6 => ?_) <;> (try rw [h6]) <;> (conv => whnf)
    · rw [ltI_t] at h6
      refine ⟨by omega, h6, ?_⟩
      conv => whnf
      refine (i_digit_ok _).mono ?_
      rintro _ _ ⟨rfl, rfl⟩
      conv => whnf
      refine br_if (fun h7 => ?_) (fun h7 => ?_) <;> (try rw [h7]) <;> (conv => whnf)
      · rw [notB_t] at h7
        refine nat_no fun m h0 hm e => ?_
        subst e
        have := decS_bt h0 (k := i) (by omega) h6
        unfold IsD at this
        simp at h7
        omega
      rw [notB_f] at h7
      have h7 := of_decide_eq_true h7
      refine ⟨by omega, h6, ?_⟩
      conv => whnf
      obtain ⟨b1, b2⟩ := val_lt hD (k := 8) (by rw [List.length_take, sbs_len]; omega)
      simp only [show (10 : Nat) ^ 8 = 100000000 by decide] at b2
      have e1 : wrp .i64 (wrp .i64 (10 * valL ((sbs s).take i)) + wrp .i64 (wrp .u8 (btOf s i - 48))) = valL ((sbs s).take (i + 1)) := by
        rw [wrp_u8 (by omega) (by omega), wrp_i64 (x := btOf s i - 48) (by omega) (by omega), wrp_i64 (x := 10 * _) (by omega) (by omega), wrp_i64 (by omega) (by omega), val_step h6]
      refine ⟨_, _, by omega, norm_wk (keep := [0, 6, 27, 28]) (kb := []) (ρ := []) rfl, ⟨i + 1, ?_, rfl, by omega, ?_⟩⟩
      · rw [e1, wrp_i64 (by omega) (by omega)]
        rfl
      · intro d hd
        have e := sbs_at (s := s) (k := i) (by omega) h6
        rw [Int.toNat_natCast] at e
        rw [List.take_add_one, e] at hd
        simp only [Option.toList_some, List.mem_append, List.mem_singleton] at hd
        rcases hd with hd | rfl
        · exact hD d hd
        · exact h7
    · rw [ltI_f] at h6
      refine ⟨⟨_, _, rfl, fun m h0 hm e => ?_⟩, rfl⟩
      subst e
      exact val_all h0 (by omega)
  refine ⟨fun n st => ∃ i : Nat, st = ⟨[(0, .vals false [.sc (.string s)]), (6, .vals false [.sc (.int .i64 (valL ((sbs s).take i)))]), (27, .vals false [.sc (.int .i64 (s.size : Int))]), (28, .vals false [.sc (.int .i64 (i : Int))])], [], []⟩ ∧ n = s.size - i ∧ i ≤ s.size ∧ (∀ d ∈ (sbs s).take i, IsD d),
    ⟨_, _, norm_wk (keep := [0, 6, 27, 28]) (kb := []) (ρ := []) rfl, ⟨0, rfl, rfl, Nat.zero_le _, by simp⟩⟩, ?_⟩
  rintro n _ ⟨i, rfl, rfl, hi, hD⟩
  conv => whnf
  refine br_if (fun h6 => ?_) (fun h6 => ?_) <;> (try rw [h6]) <;> (conv => whnf)
  · rw [ltI_t] at h6
    refine ⟨by omega, h6, ?_⟩
    conv => whnf
    refine (i_digit_ok _).mono ?_
    rintro _ _ ⟨rfl, rfl⟩
    conv => whnf
    refine br_if (fun h7 => ?_) (fun h7 => ?_) <;> (try rw [h7]) <;> (conv => whnf)
    · rw [notB_t] at h7
      refine nat_no fun m h0 hm e => ?_
      subst e
      have := decS_bt h0 (k := i) (by omega) h6
      unfold IsD at this
      simp at h7
      omega
    rw [notB_f] at h7
    have h7 := of_decide_eq_true h7
    refine ⟨by omega, h6, ?_⟩
    conv => whnf
    obtain ⟨b1, b2⟩ := val_lt hD (k := 8) (by rw [List.length_take, sbs_len]; omega)
    simp only [show (10 : Nat) ^ 8 = 100000000 by decide] at b2
    have e1 : wrp .i64 (wrp .i64 (10 * valL ((sbs s).take i)) + wrp .i64 (wrp .u8 (btOf s i - 48))) = valL ((sbs s).take (i + 1)) := by
      rw [wrp_u8 (by omega) (by omega), wrp_i64 (x := btOf s i - 48) (by omega) (by omega), wrp_i64 (x := 10 * _) (by omega) (by omega), wrp_i64 (by omega) (by omega), val_step h6]
    refine ⟨_, _, by omega, norm_wk (keep := [0, 6, 27, 28]) (kb := []) (ρ := []) rfl, ⟨i + 1, ?_, rfl, by omega, ?_⟩⟩
    · rw [e1, wrp_i64 (by omega) (by omega)]
      rfl
    · intro d hd
      have e := sbs_at (s := s) (k := i) (by omega) h6
      rw [Int.toNat_natCast] at e
      rw [List.take_add_one, e] at hd
      simp only [Option.toList_some, List.mem_append, List.mem_singleton] at hd
      rcases hd with hd | rfl
      · exact hD d hd
      · exact h7
  · rw [ltI_f] at h6
    refine ⟨⟨_, _, rfl, fun m h0 hm e => ?_⟩, rfl⟩
    subst e
    exact val_all h0 (by omega)

set_option maxRecDepth 100000 in
theorem s_l1In_ok (x y z : Int) : FnV Tryd.prog 24 [iV x, iV y, iV z] fun rs outs => rs = [bR (decide (y ≤ x ∧ x ≤ z))] ∧ outs = [] := by
  refine fn_ok (E := S2E) τ_ok mixed Tryd.func24 (by rfl) (by rfl) false (by simp [Tryd.f24]) ?_
  conv => whnf
  repeat' (refine br_if (fun h => ?_) (fun h => ?_) <;> (try rw [h]) <;> (conv => whnf))
  all_goals refine bR_eq ?_
  all_goals simp [leI_eq] at *
  all_goals omega

theorem num_no {s : ByteArray} (h : ∀ m, 0 ≤ m → m ≤ 999999999 → s = decS m → False) : (∃ n ok, [iR 0, bR false] = [iR n, bR ok] ∧ -20000000000 ≤ n ∧ n ≤ 20000000000 ∧ ∀ m, 0 ≤ m → m ≤ 999999999 → s = decS m → n = m ∧ ok = true) ∧ ([] : List (List C)) = [] :=
  ⟨⟨0, false, rfl, by decide, by decide, fun m h0 h1 e => (h m h0 h1 e).elim⟩, rfl⟩

set_option maxRecDepth 100000 in
theorem s_l3Num_ok (s : ByteArray) (hs : (s.size : Int) ≤ 9223372036854775807) : FnV Tryd.prog 15 [sV s] fun rs outs => (∃ n ok, rs = [iR n, bR ok] ∧ -20000000000 ≤ n ∧ n ≤ 20000000000 ∧ (∀ m, 0 ≤ m → m ≤ 999999999 → s = decS m → n = m ∧ ok = true)) ∧ outs = [] := by
  refine fn_ok (E := S2E) τ_ok mixed Tryd.func15 (by rfl) (by rfl) false (by simp [Tryd.f15]) ?_
  conv => whnf
  refine br_if (fun h1 => ?_) (fun h1 => ?_) <;> (try rw [h1]) <;> (conv => whnf)
  · rw [ltI_t] at h1
    refine ⟨by decide, by omega, ?_⟩
    conv => whnf
    refine br_if (fun h2 => ?_) (fun h2 => ?_) <;> (try rw [h2]) <;> (conv => whnf)
    · rw [eqI_t] at h2
      refine ⟨by decide, by omega, by omega, ?_⟩
      conv => whnf
      have hk : ∀ m, 0 ≤ m → m ≤ 999999999 → s = decS m → cutStr s 1 s.size = s := fun m h0 hm e => by
        have := decS_bt h0 (k := 0) (by omega) (by have := decS_sz h0 hm; omega)
        rw [← e, h2] at this
        exact absurd this.1 (by decide)
      obtain ⟨t, ht⟩ : ∃ t, t = cutStr s 1 s.size := ⟨_, rfl⟩
      rw [← ht] at hk
      rw [← ht]
      refine br_if (fun h3 => ?_) (fun h3 => ?_) <;> (try rw [h3]) <;> (conv => whnf)
      · rw [ltI_t] at h3
        refine num_no fun m h0 hm e => ?_
        have := decS_sz h0 hm
        have hk' := hk m h0 hm e
        rw [hk', e] at h3
        omega
      rw [ltI_f] at h3
      refine br_if (fun h4 => ?_) (fun h4 => ?_) <;> (try rw [h4]) <;> (conv => whnf)
      · rw [eqI_t] at h4
        refine num_no fun m h0 hm e => ?_
        have := decS_sz h0 hm
        have hk' := hk m h0 hm e
        rw [hk', e] at h4
        omega
      rw [eqI_f] at h4
      refine ⟨fun n st => ∃ i : Nat, st = ⟨[(0, .vals false [.sc (.string s)]), (4, .vals false [.sc (.string t)]), (5, .vals false [.sc (.int .i64 (valL ((sbs t).take i)))]), (6, .vals false [.sc (.int .i64 (i : Int))])], [], []⟩ ∧ n = t.size - i ∧ i ≤ t.size ∧ (∀ d ∈ (sbs t).take i, IsD d),
        ⟨_, _, norm_wk (keep := [0, 4, 5, 6]) (kb := []) (ρ := []) rfl, ⟨0, rfl, rfl, Nat.zero_le _, by simp⟩⟩, ?_⟩
      rintro n _ ⟨i, rfl, rfl, hi, hD⟩
      conv => whnf
      refine br_if (fun h6 => ?_) (fun h6 => ?_) <;> (try rw [h6]) <;> (conv => whnf)
      · rw [ltI_t] at h6
        refine ⟨by omega, h6, ?_⟩
        conv => whnf
        refine (s_digit_ok _).mono ?_
        rintro _ _ ⟨rfl, rfl⟩
        conv => whnf
        refine br_if (fun h7 => ?_) (fun h7 => ?_) <;> (try rw [h7]) <;> (conv => whnf)
        · rw [notB_t] at h7
          refine num_no fun m h0 hm e => ?_
          have hk' := hk m h0 hm e
          have := decS_bt h0 (k := i) (by omega) (by rw [← e, ← hk']; exact h6)
          rw [← e, ← hk'] at this
          unfold IsD at this
          simp at h7
          omega
        rw [notB_f] at h7
        have h7 := of_decide_eq_true h7
        refine ⟨by omega, h6, ?_⟩
        conv => whnf
        obtain ⟨b1, b2⟩ := val_lt hD (k := 9) (by rw [List.length_take, sbs_len]; omega)
        simp only [show (10 : Nat) ^ 9 = 1000000000 by decide] at b2
        have e1 : wrp .i64 (wrp .i64 (wrp .i64 (10 * valL ((sbs t).take i)) + wrp .i64 (btOf t i)) - 48) = valL ((sbs t).take (i + 1)) := by
          rw [wrp_i64 (x := btOf t i) (by omega) (by omega), wrp_i64 (x := 10 * _) (by omega) (by omega), wrp_i64 (x := 10 * _ + _) (by omega) (by omega), wrp_i64 (by omega) (by omega), val_step h6]
          omega
        refine ⟨_, _, by omega, norm_wk (keep := [0, 4, 5, 6]) (kb := []) (ρ := []) rfl, ⟨i + 1, ?_, rfl, by omega, ?_⟩⟩
        · rw [e1, wrp_i64 (by omega) (by omega)]
          rfl
        · intro d hd
          have e := sbs_at (s := t) (k := i) (by omega) h6
          rw [Int.toNat_natCast] at e
          rw [List.take_add_one, e] at hd
          simp only [Option.toList_some, List.mem_append, List.mem_singleton] at hd
          rcases hd with hd | rfl
          · exact hD d hd
          · exact h7
      · rw [ltI_f] at h6
        obtain ⟨b1, b2⟩ := val_lt hD (k := 10) (by rw [List.length_take, sbs_len]; omega)
        simp only [show (10 : Nat) ^ 10 = 10000000000 by decide] at b2
        have hv : ∀ m, 0 ≤ m → m ≤ 999999999 → s = decS m → valL ((sbs t).take i) = m := fun m h0 hm e => by
          have hk' := hk m h0 hm e
          rw [hk', e]
          exact val_all h0 (by rw [← e, ← hk']; omega)
        refine br_if (fun h8 => ?_) (fun h8 => ?_) <;> (try rw [h8]) <;> (conv => whnf)
        · have hno : ∀ m, 0 ≤ m → m ≤ 999999999 → s = decS m → False := fun m h0 hm e => by
            have hk' := hk m h0 hm e
            rw [notB_t, eqI_f] at h8
            apply h8
            first | rfl | rw [hk']
          rw [wrp_i64 (x := 0 - _) (by omega) (by omega)]
          refine (s_l3Digits_ok 2 _ (by split <;> omega) (by omega) (by omega)).mono ?_
          rintro _ _ ⟨rfl, rfl⟩
          conv => whnf
          refine br_if (fun h9 => ?_) (fun h9 => ?_) <;> (try rw [h9]) <;> (conv => whnf)
          · refine (s_l1In_ok _ _ _).mono ?_
            rintro _ _ ⟨rfl, rfl⟩
            conv => whnf
            exact ⟨⟨_, _, rfl, by omega, by omega, fun m h0 hm e => (hno m h0 hm e).elim⟩, rfl⟩
          · exact ⟨⟨_, _, rfl, by omega, by omega, fun m h0 hm e => (hno m h0 hm e).elim⟩, rfl⟩
        · refine (s_l3Digits_ok 2 _ (by split <;> omega) (by omega) (by omega)).mono ?_
          rintro _ _ ⟨rfl, rfl⟩
          conv => whnf
          refine br_if (fun h9 => ?_) (fun h9 => ?_) <;> (try rw [h9]) <;> (conv => whnf)
          · refine (s_l1In_ok _ _ _).mono ?_
            rintro _ _ ⟨rfl, rfl⟩
            conv => whnf
            refine ⟨⟨_, _, rfl, by omega, by omega, fun m h0 hm e => ⟨hv m h0 hm e, ?_⟩⟩, rfl⟩
            have := hv m h0 hm e
            rw [this]
            exact decide_eq_true (by omega)
          · refine ⟨⟨_, _, rfl, by omega, by omega, fun m h0 hm e => ?_⟩, rfl⟩
            exfalso
            rw [eqStr_f] at h9
            apply h9
            rw [hv m h0 hm e, e]
    have hk : ∀ m, 0 ≤ m → m ≤ 999999999 → s = decS m → s = s := fun _ _ _ _ => rfl
    refine br_if (fun h3 => ?_) (fun h3 => ?_) <;> (try rw [h3]) <;> (conv => whnf)
    · rw [ltI_t] at h3
      refine num_no fun m h0 hm e => ?_
      have := decS_sz h0 hm
      have hk' := hk m h0 hm e
      rw [e] at h3
      omega
    rw [ltI_f] at h3
    refine br_if (fun h4 => ?_) (fun h4 => ?_) <;> (try rw [h4]) <;> (conv => whnf)
    · rw [eqI_t] at h4
      refine num_no fun m h0 hm e => ?_
      have := decS_sz h0 hm
      have hk' := hk m h0 hm e
      rw [e] at h4
      omega
    rw [eqI_f] at h4
    refine ⟨fun n st => ∃ i : Nat, st = ⟨[(0, .vals false [.sc (.string s)]), (4, .vals false [.sc (.string s)]), (5, .vals false [.sc (.int .i64 (valL ((sbs s).take i)))]), (6, .vals false [.sc (.int .i64 (i : Int))])], [], []⟩ ∧ n = s.size - i ∧ i ≤ s.size ∧ (∀ d ∈ (sbs s).take i, IsD d),
      ⟨_, _, norm_wk (keep := [0, 4, 5, 6]) (kb := []) (ρ := []) rfl, ⟨0, rfl, rfl, Nat.zero_le _, by simp⟩⟩, ?_⟩
    rintro n _ ⟨i, rfl, rfl, hi, hD⟩
    conv => whnf
    refine br_if (fun h6 => ?_) (fun h6 => ?_) <;> (try rw [h6]) <;> (conv => whnf)
    · rw [ltI_t] at h6
      refine ⟨by omega, h6, ?_⟩
      conv => whnf
      refine (s_digit_ok _).mono ?_
      rintro _ _ ⟨rfl, rfl⟩
      conv => whnf
      refine br_if (fun h7 => ?_) (fun h7 => ?_) <;> (try rw [h7]) <;> (conv => whnf)
      · rw [notB_t] at h7
        refine num_no fun m h0 hm e => ?_
        have hk' := hk m h0 hm e
        have := decS_bt h0 (k := i) (by omega) (by rw [← e]; exact h6)
        rw [← e] at this
        unfold IsD at this
        simp at h7
        omega
      rw [notB_f] at h7
      have h7 := of_decide_eq_true h7
      refine ⟨by omega, h6, ?_⟩
      conv => whnf
      obtain ⟨b1, b2⟩ := val_lt hD (k := 9) (by rw [List.length_take, sbs_len]; omega)
      simp only [show (10 : Nat) ^ 9 = 1000000000 by decide] at b2
      have e1 : wrp .i64 (wrp .i64 (wrp .i64 (10 * valL ((sbs s).take i)) + wrp .i64 (btOf s i)) - 48) = valL ((sbs s).take (i + 1)) := by
        rw [wrp_i64 (x := btOf s i) (by omega) (by omega), wrp_i64 (x := 10 * _) (by omega) (by omega), wrp_i64 (x := 10 * _ + _) (by omega) (by omega), wrp_i64 (by omega) (by omega), val_step h6]
        omega
      refine ⟨_, _, by omega, norm_wk (keep := [0, 4, 5, 6]) (kb := []) (ρ := []) rfl, ⟨i + 1, ?_, rfl, by omega, ?_⟩⟩
      · rw [e1, wrp_i64 (by omega) (by omega)]
        rfl
      · intro d hd
        have e := sbs_at (s := s) (k := i) (by omega) h6
        rw [Int.toNat_natCast] at e
        rw [List.take_add_one, e] at hd
        simp only [Option.toList_some, List.mem_append, List.mem_singleton] at hd
        rcases hd with hd | rfl
        · exact hD d hd
        · exact h7
    · rw [ltI_f] at h6
      obtain ⟨b1, b2⟩ := val_lt hD (k := 10) (by rw [List.length_take, sbs_len]; omega)
      simp only [show (10 : Nat) ^ 10 = 10000000000 by decide] at b2
      have hv : ∀ m, 0 ≤ m → m ≤ 999999999 → s = decS m → valL ((sbs s).take i) = m := fun m h0 hm e => by
        have hk' := hk m h0 hm e
        rw [e]
        exact val_all h0 (by rw [← e]; omega)
      refine br_if (fun h8 => ?_) (fun h8 => ?_) <;> (try rw [h8]) <;> (conv => whnf)
      · have hno : ∀ m, 0 ≤ m → m ≤ 999999999 → s = decS m → False := fun m h0 hm e => by
          have hk' := hk m h0 hm e
          rw [notB_t, eqI_f] at h8
          apply h8
          first | rfl | rw [hk']
        rw [wrp_i64 (x := 0 - _) (by omega) (by omega)]
        refine (s_l3Digits_ok 2 _ (by split <;> omega) (by omega) (by omega)).mono ?_
        rintro _ _ ⟨rfl, rfl⟩
        conv => whnf
        refine br_if (fun h9 => ?_) (fun h9 => ?_) <;> (try rw [h9]) <;> (conv => whnf)
        · refine (s_l1In_ok _ _ _).mono ?_
          rintro _ _ ⟨rfl, rfl⟩
          conv => whnf
          exact ⟨⟨_, _, rfl, by omega, by omega, fun m h0 hm e => (hno m h0 hm e).elim⟩, rfl⟩
        · exact ⟨⟨_, _, rfl, by omega, by omega, fun m h0 hm e => (hno m h0 hm e).elim⟩, rfl⟩
      · refine (s_l3Digits_ok 2 _ (by split <;> omega) (by omega) (by omega)).mono ?_
        rintro _ _ ⟨rfl, rfl⟩
        conv => whnf
        refine br_if (fun h9 => ?_) (fun h9 => ?_) <;> (try rw [h9]) <;> (conv => whnf)
        · refine (s_l1In_ok _ _ _).mono ?_
          rintro _ _ ⟨rfl, rfl⟩
          conv => whnf
          refine ⟨⟨_, _, rfl, by omega, by omega, fun m h0 hm e => ⟨hv m h0 hm e, ?_⟩⟩, rfl⟩
          have := hv m h0 hm e
          rw [this]
          exact decide_eq_true (by omega)
        · refine ⟨⟨_, _, rfl, by omega, by omega, fun m h0 hm e => ?_⟩, rfl⟩
          exfalso
          rw [eqStr_f] at h9
          apply h9
          rw [hv m h0 hm e, e]
  have hk : ∀ m, 0 ≤ m → m ≤ 999999999 → s = decS m → s = s := fun _ _ _ _ => rfl
  refine br_if (fun h3 => ?_) (fun h3 => ?_) <;> (try rw [h3]) <;> (conv => whnf)
  · rw [ltI_t] at h3
    refine num_no fun m h0 hm e => ?_
    have := decS_sz h0 hm
    have hk' := hk m h0 hm e
    rw [e] at h3
    omega
  rw [ltI_f] at h3
  refine br_if (fun h4 => ?_) (fun h4 => ?_) <;> (try rw [h4]) <;> (conv => whnf)
  · rw [eqI_t] at h4
    refine num_no fun m h0 hm e => ?_
    have := decS_sz h0 hm
    have hk' := hk m h0 hm e
    rw [e] at h4
    omega
  rw [eqI_f] at h4
  refine ⟨fun n st => ∃ i : Nat, st = ⟨[(0, .vals false [.sc (.string s)]), (4, .vals false [.sc (.string s)]), (5, .vals false [.sc (.int .i64 (valL ((sbs s).take i)))]), (6, .vals false [.sc (.int .i64 (i : Int))])], [], []⟩ ∧ n = s.size - i ∧ i ≤ s.size ∧ (∀ d ∈ (sbs s).take i, IsD d),
    ⟨_, _, norm_wk (keep := [0, 4, 5, 6]) (kb := []) (ρ := []) rfl, ⟨0, rfl, rfl, Nat.zero_le _, by simp⟩⟩, ?_⟩
  rintro n _ ⟨i, rfl, rfl, hi, hD⟩
  conv => whnf
  refine br_if (fun h6 => ?_) (fun h6 => ?_) <;> (try rw [h6]) <;> (conv => whnf)
  · rw [ltI_t] at h6
    refine ⟨by omega, h6, ?_⟩
    conv => whnf
    refine (s_digit_ok _).mono ?_
    rintro _ _ ⟨rfl, rfl⟩
    conv => whnf
    refine br_if (fun h7 => ?_) (fun h7 => ?_) <;> (try rw [h7]) <;> (conv => whnf)
    · rw [notB_t] at h7
      refine num_no fun m h0 hm e => ?_
      have hk' := hk m h0 hm e
      have := decS_bt h0 (k := i) (by omega) (by rw [← e]; exact h6)
      rw [← e] at this
      unfold IsD at this
      simp at h7
      omega
    rw [notB_f] at h7
    have h7 := of_decide_eq_true h7
    refine ⟨by omega, h6, ?_⟩
    conv => whnf
    obtain ⟨b1, b2⟩ := val_lt hD (k := 9) (by rw [List.length_take, sbs_len]; omega)
    simp only [show (10 : Nat) ^ 9 = 1000000000 by decide] at b2
    have e1 : wrp .i64 (wrp .i64 (wrp .i64 (10 * valL ((sbs s).take i)) + wrp .i64 (btOf s i)) - 48) = valL ((sbs s).take (i + 1)) := by
      rw [wrp_i64 (x := btOf s i) (by omega) (by omega), wrp_i64 (x := 10 * _) (by omega) (by omega), wrp_i64 (x := 10 * _ + _) (by omega) (by omega), wrp_i64 (by omega) (by omega), val_step h6]
      omega
    refine ⟨_, _, by omega, norm_wk (keep := [0, 4, 5, 6]) (kb := []) (ρ := []) rfl, ⟨i + 1, ?_, rfl, by omega, ?_⟩⟩
    · rw [e1, wrp_i64 (by omega) (by omega)]
      rfl
    · intro d hd
      have e := sbs_at (s := s) (k := i) (by omega) h6
      rw [Int.toNat_natCast] at e
      rw [List.take_add_one, e] at hd
      simp only [Option.toList_some, List.mem_append, List.mem_singleton] at hd
      rcases hd with hd | rfl
      · exact hD d hd
      · exact h7
  · rw [ltI_f] at h6
    obtain ⟨b1, b2⟩ := val_lt hD (k := 10) (by rw [List.length_take, sbs_len]; omega)
    simp only [show (10 : Nat) ^ 10 = 10000000000 by decide] at b2
    have hv : ∀ m, 0 ≤ m → m ≤ 999999999 → s = decS m → valL ((sbs s).take i) = m := fun m h0 hm e => by
      have hk' := hk m h0 hm e
      rw [e]
      exact val_all h0 (by rw [← e]; omega)
    refine br_if (fun h8 => ?_) (fun h8 => ?_) <;> (try rw [h8]) <;> (conv => whnf)
    · have hno : ∀ m, 0 ≤ m → m ≤ 999999999 → s = decS m → False := fun m h0 hm e => by
        have hk' := hk m h0 hm e
        rw [notB_t, eqI_f] at h8
        apply h8
        first | rfl | rw [hk']
      rw [wrp_i64 (x := 0 - _) (by omega) (by omega)]
      refine (s_l3Digits_ok 2 _ (by split <;> omega) (by omega) (by omega)).mono ?_
      rintro _ _ ⟨rfl, rfl⟩
      conv => whnf
      refine br_if (fun h9 => ?_) (fun h9 => ?_) <;> (try rw [h9]) <;> (conv => whnf)
      · refine (s_l1In_ok _ _ _).mono ?_
        rintro _ _ ⟨rfl, rfl⟩
        conv => whnf
        exact ⟨⟨_, _, rfl, by omega, by omega, fun m h0 hm e => (hno m h0 hm e).elim⟩, rfl⟩
      · exact ⟨⟨_, _, rfl, by omega, by omega, fun m h0 hm e => (hno m h0 hm e).elim⟩, rfl⟩
    · refine (s_l3Digits_ok 2 _ (by split <;> omega) (by omega) (by omega)).mono ?_
      rintro _ _ ⟨rfl, rfl⟩
      conv => whnf
      refine br_if (fun h9 => ?_) (fun h9 => ?_) <;> (try rw [h9]) <;> (conv => whnf)
      · refine (s_l1In_ok _ _ _).mono ?_
        rintro _ _ ⟨rfl, rfl⟩
        conv => whnf
        refine ⟨⟨_, _, rfl, by omega, by omega, fun m h0 hm e => ⟨hv m h0 hm e, ?_⟩⟩, rfl⟩
        have := hv m h0 hm e
        rw [this]
        exact decide_eq_true (by omega)
      · refine ⟨⟨_, _, rfl, by omega, by omega, fun m h0 hm e => ?_⟩, rfl⟩
        exfalso
        rw [eqStr_f] at h9
        apply h9
        rw [hv m h0 hm e, e]

theorem n17_no {s : ByteArray} (h : ∀ m, 0 ≤ m → m ≤ 999999999 → s = decS m → False) : (∃ n ok, [iR 0, bR false] = [iR n, bR ok] ∧ ∀ m, 0 ≤ m → m ≤ 999999999 → s = decS m → n = m ∧ ok = true) ∧ ([] : List (List C)) = [] :=
  ⟨⟨0, false, rfl, fun m h0 h1 e => (h m h0 h1 e).elim⟩, rfl⟩

set_option maxRecDepth 100000 in
theorem s_l17Num_ok (s : ByteArray) (hs : (s.size : Int) ≤ 9223372036854775807) : FnV Tryd.prog 9 [sV s] fun rs outs => (∃ n ok, rs = [iR n, bR ok] ∧ (∀ m, 0 ≤ m → m ≤ 999999999 → s = decS m → n = m ∧ ok = true)) ∧ outs = [] := by
  refine fn_ok (E := S2E) τ_ok mixed Tryd.func9 (by rfl) (by rfl) false (by simp [Tryd.f9]) ?_
  conv => whnf
  refine (s_l3Num_ok s hs).mono ?_
  rintro _ _ ⟨⟨n, ok, rfl, hn0, hn1, hm⟩, rfl⟩
  conv => whnf
  refine br_if (fun h1 => ?_) (fun h1 => ?_) <;> (try rw [h1]) <;> (conv => whnf)
  · rw [notB_t] at h1
    refine n17_no fun m h0 h9 e => ?_
    have := (hm m h0 h9 e).2
    rw [h1] at this
    cases this
  refine br_if (fun h2 => ?_) (fun h2 => ?_) <;> (try rw [h2]) <;> (conv => whnf)
  · rw [ltI_t] at h2
    refine n17_no fun m h0 h9 e => ?_
    have := (hm m h0 h9 e).1
    omega
  refine br_if (fun h3 => ?_) (fun h3 => ?_) <;> (try rw [h3]) <;> (conv => whnf)
  · rw [ltI_t] at h3
    refine n17_no fun m h0 h9 e => ?_
    have := decS_sz h0 h9
    rw [← e] at this
    omega
  exact ⟨⟨_, _, rfl, fun m h0 h9 e => ⟨(hm m h0 h9 e).1, rfl⟩⟩, rfl⟩

end Go.Proofs.YtppfojiogappaaaDoor.V

set_option linter.unusedVariables false

set_option linter.unusedSimpArgs false

namespace Go.Proofs

open Go.Shelf Go.RowKit Go.Lib

def Tryd.splitL_ren : Go.Shelf.Ren := ⟨fun
    | 146 => 11
    | 221 => 19
    | 268 => 25
    | 138 => 26
    | 143 => 27
    | 195 => 29
    | 197 => 30
    | 218 => 31
    | 219 => 32
    | 260 => 33
    | 217 => 34
    | 225 => 35
    | 224 => 36
    | 267 => 37
    | 266 => 38
    | 314 => 39
    | n => n,
  fun
    | 9 => 9
    | 31 => 28
    | 3 => 3
    | 4 => 4
    | 0 => 0
    | 105 => 47
    | 21 => 21
    | 5 => 5
    | 46 => 51
    | 119 => 52
    | 139 => 55
    | 138 => 54
    | 146 => 57
    | 51 => 56
    | n => n,
  fun
    | 1 => 0
    | 3 => 1
    | 4 => 2
    | n => n⟩

theorem Tryd.splitL : Lays.n146 Tryd.prog Tryd.splitL_ren := {
  mixed := (by kernel_rfl),
  f138 := Eq.trans Tryd.func26 (congrArg some (by kernel_rfl)),
  f143 := Eq.trans Tryd.func27 (congrArg some (by kernel_rfl)),
  f146 := Eq.trans Tryd.func11 (congrArg some (by kernel_rfl)),
  f195 := Eq.trans Tryd.func29 (congrArg some (by kernel_rfl)),
  f197 := Eq.trans Tryd.func30 (congrArg some (by kernel_rfl)),
  f217 := Eq.trans Tryd.func34 (congrArg some (by kernel_rfl)),
  f218 := Eq.trans Tryd.func31 (congrArg some (by kernel_rfl)),
  f219 := Eq.trans Tryd.func32 (congrArg some (by kernel_rfl)),
  f221 := Eq.trans Tryd.func19 (congrArg some (by kernel_rfl)),
  f224 := Eq.trans Tryd.func36 (congrArg some (by kernel_rfl)),
  f225 := Eq.trans Tryd.func35 (congrArg some (by kernel_rfl)),
  f260 := Eq.trans Tryd.func33 (congrArg some (by kernel_rfl)),
  f266 := Eq.trans Tryd.func38 (congrArg some (by kernel_rfl)),
  f267 := Eq.trans Tryd.func37 (congrArg some (by kernel_rfl)),
  f268 := Eq.trans Tryd.func25 (congrArg some (by kernel_rfl)),
  f314 := Eq.trans Tryd.func39 (congrArg some (by kernel_rfl)),
  t0 := Tryd.underlying0,
  a0 := Tryd.isAgg0,
  z0 := Tryd.sizeOf0,
  v0 := Tryd.zeroValue0,
  t3 := Tryd.underlying3,
  a3 := Tryd.isAgg3,
  z3 := Tryd.sizeOf3,
  v3 := Tryd.zeroValue3,
  t4 := Tryd.underlying4,
  a4 := Tryd.isAgg4,
  z4 := Tryd.sizeOf4,
  v4 := Tryd.zeroValue4,
  t5 := Tryd.underlying5,
  a5 := Tryd.isAgg5,
  z5 := Tryd.sizeOf5,
  v5 := Tryd.zeroValue5,
  t9 := Tryd.underlying9,
  a9 := Tryd.isAgg9,
  z9 := Tryd.sizeOf9,
  v9 := Tryd.zeroValue9,
  t21 := Tryd.underlying21,
  a21 := Tryd.isAgg21,
  z21 := Tryd.sizeOf21,
  v21 := Tryd.zeroValue21,
  t31 := Tryd.underlying28,
  a31 := Tryd.isAgg28,
  z31 := Tryd.sizeOf28,
  v31 := Tryd.zeroValue28,
  t46 := Tryd.underlying51,
  a46 := Tryd.isAgg51,
  z46 := Tryd.sizeOf51,
  v46 := Tryd.zeroValue51,
  t51 := Tryd.underlying56,
  a51 := Tryd.isAgg56,
  z51 := Tryd.sizeOf56,
  v51 := Tryd.zeroValue56,
  t105 := Tryd.underlying47,
  a105 := Tryd.isAgg47,
  z105 := Tryd.sizeOf47,
  v105 := Tryd.zeroValue47,
  t119 := Tryd.underlying52,
  a119 := Tryd.isAgg52,
  z119 := Tryd.sizeOf52,
  t138 := Tryd.underlying54,
  a138 := Tryd.isAgg54,
  z138 := Tryd.sizeOf54,
  v138 := Tryd.zeroValue54,
  t139 := Tryd.underlying55,
  a139 := Tryd.isAgg55,
  z139 := Tryd.sizeOf55,
  v139 := Tryd.zeroValue55,
  t146 := Tryd.underlying57,
  a146 := Tryd.isAgg57,
  z146 := Tryd.sizeOf57,
  v146 := Tryd.zeroValue57,
  g1 := (by kernel_rfl),
  g3 := (by kernel_rfl),
  g4 := (by kernel_rfl) }

set_option maxHeartbeats 1000000 in
theorem split_blank {P : Program} {ρ : Ren} (L : Lays.n146 P ρ) (hi9 : (P.info? (ρ.t 9)).map (fun i => (i.zero, i.size, i.bytes)) = some (some (.string ByteArray.empty), 1, 16)) (s : ByteArray) (b : UInt8) (w : World) (hs : s.size < 4294967281) :
    Calls P (ρ.f 146) #[.string s, .string ⟨#[b]⟩] w fun e w' =>
      e = .returned (.slice (some ⟨w.heap.size, 0, none⟩) (Lib.countB s ⟨#[b]⟩ + 1) (Lib.countB s ⟨#[b]⟩ + 1)) ∧ w' = w.alloc (.cells ((Lib.splitB ⟨#[b]⟩ 0 (Lib.countB s ⟨#[b]⟩) s).map Value.string).toArray (ρ.t 9)) := by
  have h1 : 1 ≤ (⟨#[b]⟩ : ByteArray).size := Nat.le_refl 1
  have hle := Lib.countB_le ⟨#[b]⟩ h1 s.size s (Nat.le_refl _)
  have hlen := Lib.splitB_all ⟨#[b]⟩ h1 0 _ s rfl
  have c := Any.strings_genSplit_core { L with } hi9 s ⟨#[b]⟩ 0 (-1) (Lib.countB s ⟨#[b]⟩ + 1) w hs h1 (Nat.zero_le _)
    (fun x cc hx => (Any.strings_Index_one { L with } x b _).mono fun e w' ⟨he, hw⟩ => ⟨by rw [he, ← Lib.index_one], hw⟩)
    ((Any.strings_Count_one { L with } s b w).mono fun e w' ⟨he, hw⟩ => ⟨by rw [he]; show _ = Ending.returned (Value.int .i64 ((Lib.count s.data.toList [b] : Nat) : Int)); rw [Lib.count_one]; rfl, hw⟩)
    (by decide) (by decide) (by rw [if_pos (by decide)]; omega)
  rw [Nat.add_sub_cancel, hlen] at c
  have e2 : Lib.cellsOf (Lib.splitB ⟨#[b]⟩ 0 (Lib.countB s ⟨#[b]⟩) s) (Lib.countB s ⟨#[b]⟩ + 1) = ((Lib.splitB ⟨#[b]⟩ 0 (Lib.countB s ⟨#[b]⟩) s).map Value.string).toArray := by rw [← hlen]; exact Lib.cellsOf_full _
  rw [e2] at c
  have t3 := L.t3; have t9 := L.t9; have t31 := L.t31
  have a3 := L.a3; have a9 := L.a9; have a31 := L.a31
  have z3 := L.z3; have v3 := L.v3; have z9 := L.z9; have v9 := L.v9; have z31 := L.z31; have v31 := L.v31
  have e221 : ∀ args w, (callFunc (ρ.f 221) args).run P w = .ok (.enter (ρ.f 221) args) w := enters_of L.f221 (by kernel_rfl) rfl
  go_enter L.f146, Body.n146_ntmps ρ
  go_wp2_with (go_at_fn (ρ.f 221); refine c.mono ?_; rintro e w' ⟨rfl, hw⟩; rw [hw])
  go_ret
  exact ⟨rfl, rfl⟩

end Go.Proofs

namespace Go.Proofs.YtppfojiogappaaaDoor.V

open Go

noncomputable def spl32 (s : ByteArray) : List ByteArray := Lib.splitB ⟨#[32]⟩ 0 (Lib.countB s ⟨#[32]⟩) s

theorem args2 {w : World} {I : Nat → Prop} {a b : AV} {vs : List Value} {Fs : List (Nat → Prop)} (h : ArgsOk w I [a, b] vs Fs) :
    ∃ v v1 F F1, vs = [v, v1] ∧ Fs = [F, F1] ∧ ArgOk w I F v a ∧ ArgOk w I F1 v1 b := by
  cases vs with
  | nil => exact h.elim
  | cons v vs =>
    cases Fs with
    | nil => exact h.elim
    | cons F Fs =>
      obtain ⟨h1, h⟩ := h
      cases vs with
      | nil => exact h.elim
      | cons v1 vs =>
        cases Fs with
        | nil => exact h.elim
        | cons F1 Fs =>
          obtain ⟨h2, h⟩ := h
          cases vs with
          | cons _ _ => cases Fs <;> exact h.elim
          | nil =>
            cases Fs with
            | cons _ _ => exact h.elim
            | nil => exact ⟨v, v1, F, F1, rfl, rfl, h1, h2⟩

theorem split_ok (s : ByteArray) (hs : s.size ≤ 1048576) : FnV Tryd.prog 11 [sV s, sV ⟨#[32]⟩] fun rs outs => rs = [⟨false, [.own true 1 ((spl32 s).map fun p => [.sc (.string p)])]⟩] ∧ outs = [] := by
  rw [FnV_eq]
  refine ⟨⟨_, _, Tryd.func11, rfl, rfl⟩, fun w I Fs vs hargs hap hF hI => ?_⟩
  obtain ⟨v, v1, F, F1, rfl, rfl, ⟨c1, e1, h1⟩, ⟨c2, e2, h2⟩⟩ := args2 hargs
  cases e1
  cases e2
  cases h1
  cases h2
  have hl : (spl32 s).length = Lib.countB s ⟨#[32]⟩ + 1 := Lib.splitB_all ⟨#[32]⟩ (Nat.le_refl 1) 0 _ s rfl
  have hle := Lib.countB_le ⟨#[32]⟩ (Nat.le_refl 1) s.size s (Nat.le_refl _)
  have hsz : ∀ o, (w.alloc o).heap.size = w.heap.size + 1 := fun o => Array.size_push ..
  refine (split_blank Tryd.splitL (by kernel_rfl) s 32 w (by omega)).mono ?_
  rintro _ _ ⟨rfl, rfl⟩
  refine ⟨_, [⟨false, [.own true 1 ((spl32 s).map fun p => [.sc (.string p)])]⟩], [], rfl, ⟨rfl, rfl⟩, ⟨⟨rfl, rfl, rfl, by rw [hsz]; omega, fun b hb hA _ => heap_alloc_lt w _ b hb, fun p hp => (by cases hp)⟩, ?_⟩⟩
  refine ⟨#[.slice (some ⟨w.heap.size, 0, none⟩) (Lib.countB s ⟨#[32]⟩ + 1) (Lib.countB s ⟨#[32]⟩ + 1)], fun _ => False, fun b q j x => b = false ∧ q = 0 ∧ j = 0 ∧ x = w.heap.size, ⟨rfl, rfl⟩, fun q r hq => ?_, trivial, fun x hx => hx.elim, fun b q j x hx => ?_, fun b q j b' q' j' x hx hx' => ?_⟩
  · cases q with
    | succ q => simp at hq
    | zero =>
      cases hq
      refine ⟨_, rfl, _, rfl, ?_⟩
      refine .row _ w.heap.size 0 _ _ 1 _ ((spl32 s).map Value.string).toArray _ (fun i j => ((spl32 s).map Value.string).getD i undef) (fun _ _ _ => False) ⟨rfl, rfl, rfl, rfl⟩ (fun _ _ _ h => h.elim) (fun _ _ _ _ _ h => h.elim) (0, 0) (fun k _ => by simp) (heap_alloc_new w _) (by simp [hl]) (by decide) (by simp [hl]) (Nat.le_refl _) (by unfold maxLen; omega) (fun i r hr => ?_) (fun i j hi hj => ?_) (fun i j hi hj => ?_) (fun i j r c hr hj => ?_)
      · rw [List.getElem?_map] at hr
        cases hx : (spl32 s)[i]? with
        | none => rw [hx] at hr; cases hr
        | some x => rw [hx] at hr; cases hr; rfl
      · obtain rfl : j = 0 := by omega
        have h0 : i < ((spl32 s).map Value.string).length := by rw [List.length_map, hl]; exact hi
        rw [List.getElem?_toArray, List.getD_eq_getElem?_getD, show 0 + i * 1 + 0 = i by omega, List.getElem?_eq_getElem h0]
        rfl
      · have h0 : i < ((spl32 s).map Value.string).length := by rw [List.length_map, hl]; exact hi
        rw [List.getD_eq_getElem?_getD, List.getElem?_eq_getElem h0]
        simp
        rfl
      · rw [List.getElem?_map] at hr
        cases hx : (spl32 s)[i]? with
        | none => rw [hx] at hr; cases hr
        | some x =>
          rw [hx] at hr
          cases hr
          cases j with
          | succ j => simp at hj
          | zero =>
            cases hj
            rw [List.getD_eq_getElem?_getD, List.getElem?_map, hx]
            exact .sc _ _
  · obtain ⟨-, -, -, rfl⟩ := hx
    refine ⟨by rw [hsz]; omega, ?_, fun h => h⟩
    exact .inr (Nat.le_refl _)
  · exact ⟨by rw [hx.1, hx'.1], by rw [hx.2.1, hx'.2.1], by rw [hx.2.2.1, hx'.2.2.1]⟩

end Go.Proofs.YtppfojiogappaaaDoor.V

set_option linter.unusedVariables false

set_option linter.unusedSimpArgs false

namespace Go.Proofs.YtppfojiogappaaaDoor.V

open Go

def MdS4E (f : Nat) : List Mode :=
  match f with
  | _ => []

def S4E : Env := ⟨τ, MdS4E⟩

def joinB : List (List Int) → List Int
  | [] => []
  | a :: r => match r with
    | [] => a
    | _ :: _ => a ++ 32 :: joinB r

structure Joins (qs : List ByteArray) (s : ByteArray) : Prop where
  ne : qs ≠ []
  no : ∀ q ∈ qs, (32 : Int) ∉ sbs q
  eq : sbs s = joinB (qs.map sbs)

def wl : List Int → List Int → List (List Int)
  | [], cur => [cur]
  | x :: r, cur => if x = 32 then cur :: wl r [] else wl r (cur ++ [x])

theorem wl_word (a : List Int) (h : (32 : Int) ∉ a) (r : List Int) : ∀ cur, wl (a ++ r) cur = wl r (cur ++ a) := by
  induction a with
  | nil => intro cur; simp
  | cons x a ih =>
    intro cur
    have hx : x ≠ 32 := fun e => h (by simp [e])
    rw [List.cons_append, wl, if_neg hx, ih (fun e => h (by simp [e]))]
    simp

theorem wl_join : ∀ (qs : List (List Int)), qs ≠ [] → (∀ q ∈ qs, (32 : Int) ∉ q) → wl (joinB qs) [] = qs
  | [], h, _ => absurd rfl h
  | [a], _, h => by
    have := wl_word a (h a (by simp)) [] []
    simp at this
    show wl a [] = [a]
    rw [this]
    rfl
  | a :: b :: r, _, h => by
    show wl (a ++ 32 :: joinB (b :: r)) [] = a :: b :: r
    rw [wl_word a (h a (by simp))]
    show (if (32 : Int) = 32 then ([] ++ a) :: wl (joinB (b :: r)) [] else _) = _
    rw [if_pos rfl, wl_join (b :: r) (by simp) (fun q hq => h q (by simp at hq ⊢; exact .inr hq))]
    rfl

theorem wl_ne : ∀ (r cur : List Int), wl r cur ≠ []
  | [], cur => by simp [wl]
  | x :: r, cur => by
    unfold wl
    split
    · simp
    · exact wl_ne r _

theorem map_sbs_inj : ∀ (a b : List ByteArray), a.map sbs = b.map sbs → a = b
  | [], [], _ => rfl
  | [], b :: r, h => by cases h
  | a :: r, [], h => by cases h
  | a :: r, b :: q, h => by
    simp only [List.map_cons, List.cons.injEq] at h
    rw [sbs_inj h.1, map_sbs_inj r q h.2]

structure Words (s : ByteArray) (ps : List ByteArray) : Prop where
  ne : ps ≠ []
  sz : ∀ p ∈ ps, p.size ≤ s.size
  jn : ∀ qs, Joins qs s → ps = qs

theorem sbs_cut {s : ByteArray} {l h : Nat} (hl : l ≤ h) (hh : h ≤ s.size) : sbs (cutStr s l h) = ((sbs s).take h).drop l := by
  rw [cutStr_eq]
  simp only [sbs, Int.toNat_natCast, ByteArray.data_extract, Array.toList_extract, List.extract_eq_take_drop, List.map_take, List.map_drop]
  rw [List.drop_take]

theorem ib_none : ∀ (l : List UInt8), (32 : Int) ∉ l.map (fun b => (b.toNat : Int)) → Lib.indexByte l 32 = -1
  | [], _ => rfl
  | b :: l, h => by
    simp only [List.map_cons, List.mem_cons, not_or] at h
    have hb : (b == 32) = false := by
      rw [beq_eq_false_iff_ne]
      intro e
      subst e
      exact h.1 rfl
    rw [Lib.indexByte, hb, ib_none l h.2]
    rfl

theorem ib_at : ∀ (l r : List UInt8), (32 : Int) ∉ l.map (fun b => (b.toNat : Int)) → Lib.indexByte (l ++ 32 :: r) 32 = l.length
  | [], r, _ => rfl
  | b :: l, r, h => by
    simp only [List.map_cons, List.mem_cons, not_or] at h
    have hb : (b == 32) = false := by
      rw [beq_eq_false_iff_ne]
      intro e
      subst e
      exact h.1 rfl
    rw [List.cons_append, Lib.indexByte, hb, ib_at l r h.2]
    simp

theorem spl_join : ∀ (qs : List ByteArray) (s : ByteArray), Joins qs s → spl32 s = qs
  | [], s, h => absurd rfl h.ne
  | [a], s, h => by
    have e : s = a := sbs_inj h.eq
    subst e
    have hi : Lib.indexB s ⟨#[32]⟩ = -1 := by
      show Lib.index s.data.toList [32] = -1
      rw [Lib.index_one]
      exact ib_none _ (h.no s (by simp))
    exact Lib.splitB_miss _ _ _ _ hi
  | a :: b :: r, s, h => by
    have he : sbs s = sbs a ++ 32 :: joinB ((b :: r).map sbs) := h.eq
    have hsz : s.size = a.size + 1 + (joinB ((b :: r).map sbs)).length := by
      rw [← sbs_len, he]
      simp [sbs_len]
      omega
    have hrest : sbs (s.extract (a.size + 1) s.size) = joinB ((b :: r).map sbs) := by
      have := sbs_cut (s := s) (l := a.size + 1) (h := s.size) (by omega) (Nat.le_refl _)
      rw [cutStr_eq] at this
      rw [show s.extract (a.size + 1) s.size = s.extract ((a.size + 1 : Nat) : Int).toNat ((s.size : Nat) : Int).toNat by simp, this, List.take_of_length_le (by rw [sbs_len]; exact Nat.le_refl _), he]
      rw [show a.size + 1 = (sbs a).length + 1 by rw [sbs_len]]
      simp
    have hfirst : s.extract 0 (a.size + 0) = a := by
      apply sbs_inj
      have := sbs_cut (s := s) (l := 0) (h := a.size) (by omega) (by omega)
      rw [cutStr_eq] at this
      rw [show s.extract 0 (a.size + 0) = s.extract ((0 : Nat) : Int).toNat ((a.size : Nat) : Int).toNat by simp, this, he]
      rw [show a.size = (sbs a).length by rw [sbs_len]]
      simp
    have hi : Lib.indexB s ⟨#[32]⟩ = (a.size : Nat) := by
      show Lib.index s.data.toList [32] = _
      rw [Lib.index_one]
      have hd : s.data.toList = a.data.toList ++ 32 :: (s.extract (a.size + 1) s.size).data.toList := by
        have hinj : ∀ (x y : List UInt8), x.map (fun b => (b.toNat : Int)) = y.map (fun b => (b.toNat : Int)) → x = y := fun x y e => by
          refine (List.map_inj_right (f := fun b : UInt8 => (b.toNat : Int)) ?_).1 e
          intro p q hpq
          have hpq' : ((p.toNat : Nat) : Int) = (q.toNat : Nat) := hpq
          exact UInt8.toNat_inj.1 (by omega)
        apply hinj
        rw [List.map_append, List.map_cons]
        show sbs s = sbs a ++ 32 :: sbs (s.extract (a.size + 1) s.size)
        rw [hrest, he]
      rw [hd, ib_at _ _ (h.no a (by simp))]
      simp
    have hj : Joins (b :: r) (s.extract (a.size + 1) s.size) := ⟨by simp, fun q hq => h.no q (by simp at hq ⊢; exact .inr hq), hrest⟩
    have ih := spl_join (b :: r) _ hj
    unfold spl32
    rw [Lib.countB_hit s ⟨#[32]⟩ a.size (Nat.le_refl 1) hi, Nat.add_comm, Lib.splitB_hit _ _ _ _ a.size hi, hfirst]
    congr 1

theorem splitB_sz (b : UInt8) : ∀ (k : Nat) (s : ByteArray), ∀ p ∈ Lib.splitB ⟨#[b]⟩ 0 k s, p.size ≤ s.size
  | 0, s, p, hp => by
    rw [Lib.splitB_zero] at hp
    simp at hp
    rw [hp]
    exact Nat.le_refl _
  | k + 1, s, p, hp => by
    rcases Lib.indexB_cases s ⟨#[b]⟩ with h | ⟨i, h, hr⟩
    · rw [Lib.splitB_miss _ _ _ _ h] at hp
      simp at hp
      rw [hp]
      exact Nat.le_refl _
    · rw [Lib.splitB_hit _ _ _ _ i h] at hp
      simp only [List.mem_cons] at hp
      rcases hp with rfl | hp
      · rw [ByteArray.size_extract]
        omega
      · have := splitB_sz b k _ p hp
        rw [ByteArray.size_extract] at this
        omega

theorem spl_ne (s : ByteArray) : spl32 s ≠ [] := fun e => by
  have : (spl32 s).length = Lib.countB s ⟨#[32]⟩ + 1 := Lib.splitB_all ⟨#[32]⟩ (Nat.le_refl 1) 0 _ s rfl
  rw [e] at this
  cases this

theorem spl_words (s : ByteArray) : Words s (spl32 s) :=
  ⟨spl_ne s, fun p hp => splitB_sz 32 _ s p hp, fun qs h => spl_join qs s h⟩

def strs (ps : List ByteArray) : List (List C) := ps.map fun p => [.sc (.string p)]

theorem flat_str (x : ByteArray) : Flat 1 [[.sc (.string x)]] := by
  intro r hr
  rw [List.mem_singleton.1 hr]
  refine ⟨rfl, fun c hc => ?_⟩
  rw [List.mem_singleton.1 hc]
  exact ⟨_, rfl, rfl⟩

theorem strs_len (ps : List ByteArray) : (strs ps).length = ps.length := by simp [strs]

theorem strs_at {ps : List ByteArray} {i : Nat} {p : ByteArray} (h : ps[i]? = some p) : (strs ps)[i]? = some [.sc (.string p)] := by simp [strs, h]

theorem strs_app (ps : List ByteArray) (p : ByteArray) : strs ps ++ [[.sc (.string p)]] = strs (ps ++ [p]) := by simp [strs]

structure Run (s : ByteArray) (done : List ByteArray) (fr i : Nat) : Prop where
  lo : fr ≤ i
  sz : ∀ p ∈ done, p.size ≤ s.size
  eq : (i ≤ s.size ∧ done.map sbs ++ wl ((sbs s).drop i) (((sbs s).take i).drop fr) = wl (sbs s) []) ∨ (i = s.size + 1 ∧ done.map sbs = wl (sbs s) [])
  len : done.length ≤ i

theorem run_0 (s : ByteArray) : Run s [] 0 0 := ⟨Nat.le_refl _, by simp, .inl ⟨Nat.zero_le _, by simp⟩, Nat.le_refl _⟩

theorem run_end {s : ByteArray} {done : List ByteArray} {fr : Nat} (h : Run s done fr s.size) : Run s (done ++ [cutStr s fr s.size]) (s.size + 1) (s.size + 1) := by
  have hc := sbs_cut (s := s) (l := fr) (h := s.size) h.lo (Nat.le_refl _)
  refine ⟨Nat.le_refl _, fun p hp => ?_, .inr ⟨rfl, ?_⟩, by simp; exact h.len⟩
  · simp at hp
    rcases hp with hp | rfl
    · exact h.sz p hp
    · rw [← sbs_len, hc]
      simp [sbs_len]
  · rcases h.eq with ⟨h1, h2⟩ | ⟨h1, h2⟩
    · have hz : (sbs s).drop s.size = [] := List.drop_of_length_le (by rw [sbs_len]; exact Nat.le_refl _)
      rw [← h2, List.map_append, List.map_cons, hc, hz]
      rfl
    · omega

theorem run_gap {s : ByteArray} {done : List ByteArray} {fr i : Nat} (h : Run s done fr i) (hi : i < s.size) (hb : btOf s i = 32) : Run s (done ++ [cutStr s fr i]) (i + 1) (i + 1) := by
  have hc := sbs_cut (s := s) (l := fr) (h := i) h.lo (by omega)
  refine ⟨Nat.le_refl _, fun p hp => ?_, .inl ⟨by omega, ?_⟩, by simp; exact h.len⟩
  · simp at hp
    rcases hp with hp | rfl
    · exact h.sz p hp
    · rw [← sbs_len, hc]
      simp [sbs_len]
      omega
  · rcases h.eq with ⟨h1, h2⟩ | ⟨h1, h2⟩
    · have hat := sbs_at (s := s) (k := i) (by omega) (by omega)
      rw [Int.toNat_natCast, hb] at hat
      have hd : (sbs s).drop i = 32 :: (sbs s).drop (i + 1) := by
        obtain ⟨hlt, he⟩ := List.getElem?_eq_some_iff.1 hat
        rw [List.drop_eq_getElem_cons hlt, he]
      rw [hd, wl, if_pos rfl] at h2
      have hz : ((sbs s).take (i + 1)).drop (i + 1) = [] := List.drop_of_length_le (by rw [List.length_take]; omega)
      rw [← h2, List.map_append, List.map_cons, hc, hz]
      simp
    · omega

theorem run_mid {s : ByteArray} {done : List ByteArray} {fr i : Nat} (h : Run s done fr i) (hi : i < s.size) (hb : btOf s i ≠ 32) : Run s done fr (i + 1) := by
  have hf := h.lo
  have hl := h.len
  refine ⟨by omega, h.sz, .inl ⟨by omega, ?_⟩, by omega⟩
  rcases h.eq with ⟨h1, h2⟩ | ⟨h1, h2⟩
  · have hat := sbs_at (s := s) (k := i) (by omega) (by omega)
    rw [Int.toNat_natCast] at hat
    have hd : (sbs s).drop i = btOf s i :: (sbs s).drop (i + 1) := by
      obtain ⟨hlt, he⟩ := List.getElem?_eq_some_iff.1 hat
      rw [List.drop_eq_getElem_cons hlt, he]
    rw [hd, wl, if_neg hb] at h2
    rw [← h2, List.take_add_one, hat, List.drop_append_of_le_length (by rw [List.length_take, sbs_len]; omega)]
    rfl
  · omega

theorem run_words {s : ByteArray} {done : List ByteArray} {fr i : Nat} (h : Run s done fr i) (hi : s.size < i) : Words s done := by
  rcases h.eq with ⟨h1, h2⟩ | ⟨h1, h2⟩
  · omega
  · refine ⟨fun e => ?_, h.sz, fun qs hq => ?_⟩
    · rw [e] at h2
      exact wl_ne _ _ h2.symm
    · apply map_sbs_inj
      rw [h2, hq.eq]
      refine wl_join _ (by simpa using hq.ne) (fun q hq' => ?_)
      obtain ⟨p, hp, rfl⟩ := List.mem_map.1 hq'
      exact hq.no p hp

set_option maxRecDepth 100000 in
theorem s_l17Words_ok (s : ByteArray) (hs : s.size ≤ 1048576) : FnV Tryd.prog 7 [sV s] fun rs outs => (∃ ps, rs = [⟨false, [.own true 1 (strs ps)]⟩] ∧ Words s ps ∧ ps.length ≤ s.size + 1) ∧ outs = [] := by
  refine fn_ok (E := S4E) τ_ok mixed Tryd.func7 (by rfl) (by rfl) false (by simp [Tryd.f7]) ?_
  conv => whnf
  refine ⟨fun n st => ∃ (done : List ByteArray) (fr i : Nat), st = ⟨[(0, .vals false [.sc (.string s)]), (3, .vals false [.ref 100 0]), (4, .vals false [.sc (.int .i64 (fr : Int))]), (5, .vals false [.sc (.int .i64 (i : Int))])], [], [(100, ⟨true, 0, 0, true, 1, strs done⟩)]⟩ ∧ n = s.size + 1 - i ∧ i ≤ s.size + 1 ∧ Run s done fr i,
    ⟨_, _, norm_wk (keep := [0, 3, 4, 5]) (kb := []) (ρ := [(6, some 100)]) rfl, ⟨[], 0, 0, rfl, rfl, by omega, run_0 s⟩⟩, ?_⟩
  rintro n _ ⟨done, fr, i, rfl, rfl, hi, hR⟩
  conv => whnf
  have hlo := hR.lo
  have hlen := hR.len
  have ei : wrp .i64 ((i : Int) + 1) = ((i + 1 : Nat) : Int) := by rw [wrp_i64 (by omega) (by omega)]; rfl
  refine br_if (fun h1 => ?_) (fun h1 => ?_) <;> (try rw [h1]) <;> (conv => whnf)
  · rw [leI_t] at h1
    refine br_if (fun h2 => ?_) (fun h2 => ?_) <;> (try rw [h2]) <;> (conv => whnf)
    · rw [eqI_t] at h2
      obtain rfl : i = s.size := by omega
      refine ⟨by omega, by omega, by omega, ?_⟩
      conv => whnf
      refine .inl ⟨flat_str _, ?_⟩
      conv => whnf
      refine ⟨by show ((strs done).length + 1) * 16 ≤ _; rw [strs_len]; omega, ?_⟩
      conv => whnf
      refine ⟨_, _, by omega, norm_wk (keep := [0, 3, 4, 5]) (kb := []) (ρ := [(29, some 100)]) rfl, ⟨done ++ [cutStr s fr s.size], s.size + 1, s.size + 1, ?_, rfl, by omega, run_end hR⟩⟩
      rw [ei, ← strs_app]
      rfl
    · rw [eqI_f] at h2
      refine ⟨by omega, by omega, ?_⟩
      conv => whnf
      refine br_if (fun h3 => ?_) (fun h3 => ?_) <;> (try rw [h3]) <;> (conv => whnf)
      · rw [eqI_t] at h3
        refine ⟨by omega, by omega, by omega, ?_⟩
        conv => whnf
        refine .inl ⟨flat_str _, ?_⟩
        conv => whnf
        refine ⟨by show ((strs done).length + 1) * 16 ≤ _; rw [strs_len]; omega, ?_⟩
        conv => whnf
        refine ⟨_, _, by omega, norm_wk (keep := [0, 3, 4, 5]) (kb := []) (ρ := [(29, some 100)]) rfl, ⟨done ++ [cutStr s fr i], i + 1, i + 1, ?_, rfl, by omega, run_gap hR (by omega) h3⟩⟩
        rw [ei, ← strs_app]
        rfl
      · rw [eqI_f] at h3
        refine ⟨_, _, by omega, norm_wk (keep := [0, 3, 4, 5]) (kb := []) (ρ := [(100, some 100)]) rfl, ⟨done, fr, i + 1, ?_, rfl, by omega, run_mid hR (by omega) h3⟩⟩
        rw [ei]
  · rw [leI_f] at h1
    exact ⟨⟨done, rfl, run_words hR (by omega), by omega⟩, rfl⟩

end Go.Proofs.YtppfojiogappaaaDoor.V

set_option linter.unusedVariables false

set_option linter.unusedSimpArgs false

namespace Go.Proofs.YtppfojiogappaaaDoor.V

open Go

def MdS5E (f : Nat) : List Mode :=
  match f with
  | 4 => [.rd]
  | 5 => [.rd]
  | 6 => [.rd, .rd]
  | 7 => [.rd]
  | 8 => [.rd]
  | 9 => [.rd]
  | 10 => [.rd]
  | 11 => [.rd, .rd]
  | 12 => []
  | 13 => [.rd, .rd]
  | 14 => [.rd]
  | _ => []

def S5E : Env := ⟨τ, MdS5E⟩

def IsLine (s : ByteArray) (k a b : Int) : Prop := lineOk k a b = true ∧ lineOf k a b = s

noncomputable def partsOf (k a b : Int) : List ByteArray := if k = 1 ∨ k = 2 then [dword k, decS a, decS b] else [dword k, decS a]

theorem sbs_add (x y : ByteArray) : sbs (addStr x y) = sbs x ++ sbs y := by
  rw [addStr_eq]
  simp [sbs]

theorem no32_digs (n : Nat) : (32 : Int) ∉ digs n := fun h => by
  have := digs_D n _ h
  unfold IsD at this
  omega

theorem no32_dword (k : Int) : (32 : Int) ∉ sbs (dword k) := by
  unfold dword
  repeat' split
  all_goals decide

theorem line_facts {s : ByteArray} {k a b : Int} (h : IsLine s k a b) : 1 ≤ k ∧ k ≤ 5 ∧ 0 ≤ a ∧ 0 ≤ b ∧ a ≤ 999999999 ∧ b ≤ 999999999 ∧ (¬ (k = 1 ∨ k = 2) → b = 0) ∧ Joins (partsOf k a b) s := by
  obtain ⟨h1, h2⟩ := h
  have hok := h1
  unfold lineOk at h1
  simp only [Bool.and_eq_true, decide_eq_true_eq] at h1
  obtain ⟨h3, h4, h5⟩ := h1
  obtain ⟨d1, d2, d3, d4⟩ := deedOk_kind h3
  refine ⟨d1, d2, d3, d4, h4, h5, fun hk => ?_, ?_⟩
  · unfold deedOk at h3
    rw [if_neg (by omega), if_neg (by omega), if_neg (by omega), if_pos (by omega)] at h3
    exact of_decide_eq_true h3
  · unfold lineOf at h2
    rw [if_pos hok] at h2
    unfold partsOf
    have n0 := no32_dword k
    have n1 : (32 : Int) ∉ sbs (decS a) := by rw [sbs_decS d3]; exact no32_digs _
    have n2 : (32 : Int) ∉ sbs (decS b) := by rw [sbs_decS d4]; exact no32_digs _
    by_cases hk : k = 1 ∨ k = 2
    · rw [if_pos hk] at h2 ⊢
      refine ⟨by simp, fun q hq => ?_, ?_⟩
      · simp at hq
        rcases hq with rfl | rfl | rfl
        · exact n0
        · exact n1
        · exact n2
      · rw [← h2]
        simp only [sbs_add]
        show ((((sbs (dword k)) ++ [32]) ++ _) ++ [32]) ++ _ = sbs (dword k) ++ 32 :: (sbs (decS a) ++ 32 :: sbs (decS b))
        simp
    · rw [if_neg hk] at h2 ⊢
      refine ⟨by simp, fun q hq => ?_, ?_⟩
      · simp at hq
        rcases hq with rfl | rfl
        · exact n0
        · exact n1
      · rw [← h2]
        simp only [sbs_add]
        show (((sbs (dword k)) ++ [32]) ++ _) = sbs (dword k) ++ 32 :: (sbs (decS a))
        simp

theorem dword_inj {k k' : Int} (h1 : 1 ≤ k) (h2 : k ≤ 5) (h3 : 1 ≤ k') (h4 : k' ≤ 5) (h : dword k = dword k') : k = k' := by
  rcases (show k = 1 ∨ k = 2 ∨ k = 3 ∨ k = 4 ∨ k = 5 by omega) with rfl | rfl | rfl | rfl | rfl <;>
  rcases (show k' = 1 ∨ k' = 2 ∨ k' = 3 ∨ k' = 4 ∨ k' = 5 by omega) with rfl | rfl | rfl | rfl | rfl <;>
  first | rfl | exact absurd h (by decide)

structure Parsed (s : ByteArray) (k a b : Int) (ok : Bool) : Prop where
  yes : ok = true → IsLine s k a b
  no : ok = false → k = 0 ∧ a = 0 ∧ b = 0
  all : ∀ k' a' b', IsLine s k' a' b' → ok = true ∧ k' = k ∧ a' = a ∧ b' = b

theorem parsed_no {s : ByteArray} (h : ∀ k a b, ¬ IsLine s k a b) : Parsed s 0 0 0 false := ⟨fun e => (by cases e), fun _ => ⟨rfl, rfl, rfl⟩, fun k a b hl => absurd hl (h k a b)⟩

@[reducible] def dR (k a b : Int) : RV := ⟨true, [.rd (.sc (.int .i64 k)), .rd (.sc (.int .i64 a)), .rd (.sc (.int .i64 b))]⟩

theorem parts_len (k a b : Int) : 2 ≤ (partsOf k a b).length := by
  unfold partsOf
  split <;> simp

theorem parts_le3 (k a b : Int) : (partsOf k a b).length ≤ 3 := by
  unfold partsOf
  split <;> simp

theorem parts_0 (k a b : Int) : (partsOf k a b)[0]? = some (dword k) := by
  unfold partsOf
  split <;> rfl

theorem parts_1 (k a b : Int) : (partsOf k a b)[1]? = some (decS a) := by
  unfold partsOf
  split <;> rfl

theorem parts_2 {k a b : Int} (h : k = 1 ∨ k = 2) : (partsOf k a b)[2]? = some (decS b) := by
  unfold partsOf
  rw [if_pos h]
  rfl

theorem parts_len2 {k a b : Int} (h : ¬ (k = 1 ∨ k = 2)) : (partsOf k a b).length = 2 := by
  unfold partsOf
  rw [if_neg h]
  rfl

theorem parts_len3 {k a b : Int} (h : (k = 1 ∨ k = 2)) : (partsOf k a b).length = 3 := by
  unfold partsOf
  rw [if_pos h]
  rfl

set_option maxRecDepth 100000 in
theorem i_DeedParse_ok (s : ByteArray) (hs : s.size ≤ 1048576) : FnV Tryd.prog 5 [sV s] fun rs outs => (∃ k a b ok, rs = [dR k a b, bR ok] ∧ Parsed s k a b ok) ∧ outs = [] := by
  refine fn_ok (E := S5E) τ_ok mixed Tryd.func5 (by rfl) (by rfl) false (by simp [Tryd.f5]) ?_
  conv => whnf
  refine (split_ok s hs).mono ?_
  rintro _ _ ⟨rfl, rfl⟩
  conv => whnf
  refine i_words_ok.mono ?_
  rintro _ _ ⟨rfl, rfl⟩
  conv => whnf
  obtain ⟨w0, ws, hw⟩ : ∃ w0 ws, spl32 s = w0 :: ws := by
    cases h : spl32 s with
    | nil => exact absurd h (spl_ne s)
    | cons a r => exact ⟨a, r, rfl⟩
  have hW := spl_words s
  refine ⟨fun n st => ∃ (i : Nat) (k1 : Int), st = ⟨[(0, .vals false [.sc (.string s)]), (2, .bptr 2 0 0), (3, .vals false [.sc (.bool false)]), (4, .vals false [.ref 100 0]), (5, .bptr 5 0 0), (13, .vals false [.ref 101 0]), (14, .vals false [.sc (.int .i64 5)]), (15, .vals false [.sc (.int .i64 (i : Int))])], [(2, ⟨0, [.sc (.int .i64 0), .sc (.int .i64 0), .sc (.int .i64 0)]⟩), (5, ⟨0, [.sc (.int .i64 k1), .sc (.int .i64 0), .sc (.int .i64 0)]⟩)], [(100, ⟨true, 0, 0, true, 1, strs (spl32 s)⟩), (101, ⟨true, 0, 0, true, 1, dwords⟩)]⟩ ∧ n = 5 - i ∧ i ≤ 5 ∧ ∀ k, 1 ≤ k → k ≤ 5 → w0 = dword k → k1 = if k ≤ i then k else 0,
    ⟨_, _, norm_wk (keep := [0, 2, 3, 4, 5, 13, 14, 15]) (kb := [2, 5]) (ρ := [(11, some 100), (13, some 101)]) rfl, ⟨0, 0, rfl, rfl, by omega, fun k h1 h2 _ => by rw [if_neg (by omega)]⟩⟩, ?_⟩
  rintro n _ ⟨i, k1, rfl, rfl, hi, hk⟩
  conv => whnf
  refine br_if (fun h1 => ?_) (fun h1 => ?_) <;> (try rw [h1]) <;> (conv => whnf)
  · rw [ltI_t] at h1
    have ei : wrp .i64 ((i : Int) + 1) = ((i + 1 : Nat) : Int) := by rw [wrp_i64 (by omega) (by omega)]; rfl
    have ei2 : wrp .i64 (1 + (i : Int)) = (i : Int) + 1 := by rw [wrp_i64 (by omega) (by omega)]; omega
    refine ⟨by omega, by simp [dwords]; omega, ?_⟩
    conv => whnf
    refine ⟨[.sc (.string (dword ((i : Int) + 1)))], by rcases (show i = 0 ∨ i = 1 ∨ i = 2 ∨ i = 3 ∨ i = 4 by omega) with rfl | rfl | rfl | rfl | rfl <;> rfl, ?_⟩
    conv => whnf
    refine ⟨by decide, by rw [strs_len, hw]; simp, ?_⟩
    conv => whnf
    refine ⟨[.sc (.string w0)], by rw [hw]; rfl, ?_⟩
    conv => whnf
    refine br_if (fun h2 => ?_) (fun h2 => ?_) <;> (try rw [h2]) <;> (conv => whnf)
    · rw [eqStr_t] at h2
      refine ⟨_, _, by omega, norm_wk (keep := [0, 2, 3, 4, 5, 13, 14, 15]) (kb := [2, 5]) (ρ := [(100, some 100), (101, some 101)]) rfl, ⟨i + 1, (i : Int) + 1, ?_, rfl, by omega, fun k q1 q2 q3 => ?_⟩⟩
      · rw [ei, ei2]
      · have := dword_inj q1 q2 (by omega) (by omega) (q3.symm.trans h2.symm)
        rw [if_pos (by omega), this]
    · rw [eqStr_f] at h2
      refine ⟨_, _, by omega, norm_wk (keep := [0, 2, 3, 4, 5, 13, 14, 15]) (kb := [2, 5]) (ρ := [(100, some 100), (101, some 101)]) rfl, ⟨i + 1, k1, ?_, rfl, by omega, fun k q1 q2 q3 => ?_⟩⟩
      · rw [ei]
      · rw [hk k q1 q2 q3]
        by_cases hki : k ≤ i
        · rw [if_pos hki, if_pos (by omega)]
        · rw [if_neg hki, if_neg]
          intro hle
          have : k = (i : Int) + 1 := by omega
          subst this
          exact h2 q3.symm
  · rw [ltI_f] at h1
    obtain rfl : i = 5 := by omega
    have hk1 : ∀ k a b, IsLine s k a b → k = k1 ∧ spl32 s = partsOf k a b := fun k a b hl => by
      obtain ⟨f1, f2, f3, f4, f5, f6, f7, f8⟩ := line_facts hl
      have e := hW.jn _ f8
      have e0 := parts_0 k a b
      rw [← e, hw] at e0
      have := hk k f1 f2 (by simpa using e0)
      rw [if_pos (by omega)] at this
      exact ⟨this.symm, e⟩
    refine br_if (fun h2 => ?_) (fun h2 => ?_) <;> (try rw [h2]) <;> (conv => whnf)
    · rw [ltI_t, strs_len] at h2
      obtain ⟨p1, hp1⟩ : ∃ p1, (spl32 s)[1]? = some p1 := ⟨_, List.getElem?_eq_getElem (by omega)⟩
      have hsz1 := hW.sz _ (List.mem_of_getElem? hp1)
      refine ⟨by decide, by rw [strs_len]; omega, ?_⟩
      conv => whnf
      refine ⟨[.sc (.string p1)], strs_at hp1, ?_⟩
      conv => whnf
      refine (i_natural_ok p1 (by omega)).mono ?_
      rintro _ _ ⟨⟨n1, ok1, rfl, hn1⟩, rfl⟩
      conv => whnf
      refine br_if (fun h3 => ?_) (fun h3 => ?_) <;> (try rw [h3]) <;> (conv => whnf)
      · rw [ltI_t, strs_len] at h3
        obtain ⟨p2, hp2⟩ : ∃ p2, (spl32 s)[2]? = some p2 := ⟨_, List.getElem?_eq_getElem (by omega)⟩
        have hsz2 := hW.sz _ (List.mem_of_getElem? hp2)
        refine ⟨by decide, by rw [strs_len]; omega, ?_⟩
        conv => whnf
        refine ⟨[.sc (.string p2)], strs_at hp2, ?_⟩
        conv => whnf
        refine (i_natural_ok p2 (by omega)).mono ?_
        rintro _ _ ⟨⟨n2, ok2, rfl, hn2⟩, rfl⟩
        conv => whnf
        have H : ∀ k a b, IsLine s k a b → k = k1 ∧ a = n1 ∧ b = n2 := fun k a b hl => by
          obtain ⟨q1, q2⟩ := hk1 k a b hl
          obtain ⟨f1, f2, f3, f4, f5, f6, f7, f8⟩ := line_facts hl
          have hkk : k = 1 ∨ k = 2 := by
            by_cases hkk : k = 1 ∨ k = 2
            · exact hkk
            · have := parts_len2 (a := a) (b := b) hkk
              rw [← q2] at this
              omega
          rw [q2, parts_1] at hp1
          rw [q2, parts_2 hkk] at hp2
          exact ⟨q1, (hn1 a f3 f5 (Option.some.inj hp1).symm).symm, (hn2 b f4 f6 (Option.some.inj hp2).symm).symm⟩
        refine (i_DeedLine_ok _ _ _).mono ?_
        rintro _ _ ⟨rfl, rfl⟩
        conv => whnf
        refine br_if (fun h5 => ?_) (fun h5 => ?_) <;> (try rw [h5]) <;> (conv => whnf)
        · rw [notB_t] at h5
          refine ⟨⟨0, 0, 0, false, rfl, parsed_no fun k a b hl => ?_⟩, rfl⟩
          obtain ⟨rfl, rfl, rfl⟩ := H k a b hl
          rw [hl.1] at h5
          cases h5
        rw [notB_f] at h5
        refine br_if (fun h6 => ?_) (fun h6 => ?_) <;> (try rw [h6]) <;> (conv => whnf)
        · rw [notB_t, eqStr_f] at h6
          refine ⟨⟨0, 0, 0, false, rfl, parsed_no fun k a b hl => ?_⟩, rfl⟩
          obtain ⟨rfl, rfl, rfl⟩ := H k a b hl
          exact h6 hl.2
        rw [notB_f, eqStr_t] at h6
        exact ⟨⟨_, _, _, true, rfl, ⟨fun _ => ⟨h5, h6⟩, fun e => (by cases e), fun k a b hl => ⟨rfl, H k a b hl⟩⟩⟩, rfl⟩
      · rw [ltI_f, strs_len] at h3
        have H : ∀ k a b, IsLine s k a b → k = k1 ∧ a = n1 ∧ b = 0 := fun k a b hl => by
          obtain ⟨q1, q2⟩ := hk1 k a b hl
          obtain ⟨f1, f2, f3, f4, f5, f6, f7, f8⟩ := line_facts hl
          have hkk : ¬ (k = 1 ∨ k = 2) := fun hkk => by
            have := parts_len3 (a := a) (b := b) hkk
            rw [← q2] at this
            omega
          rw [q2, parts_1] at hp1
          exact ⟨q1, (hn1 a f3 f5 (Option.some.inj hp1).symm).symm, f7 hkk⟩
        refine (i_DeedLine_ok _ _ _).mono ?_
        rintro _ _ ⟨rfl, rfl⟩
        conv => whnf
        refine br_if (fun h5 => ?_) (fun h5 => ?_) <;> (try rw [h5]) <;> (conv => whnf)
        · rw [notB_t] at h5
          refine ⟨⟨0, 0, 0, false, rfl, parsed_no fun k a b hl => ?_⟩, rfl⟩
          obtain ⟨rfl, rfl, rfl⟩ := H k a b hl
          rw [hl.1] at h5
          cases h5
        rw [notB_f] at h5
        refine br_if (fun h6 => ?_) (fun h6 => ?_) <;> (try rw [h6]) <;> (conv => whnf)
        · rw [notB_t, eqStr_f] at h6
          refine ⟨⟨0, 0, 0, false, rfl, parsed_no fun k a b hl => ?_⟩, rfl⟩
          obtain ⟨rfl, rfl, rfl⟩ := H k a b hl
          exact h6 hl.2
        rw [notB_f, eqStr_t] at h6
        exact ⟨⟨_, _, _, true, rfl, ⟨fun _ => ⟨h5, h6⟩, fun e => (by cases e), fun k a b hl => ⟨rfl, H k a b hl⟩⟩⟩, rfl⟩
    · rw [ltI_f, strs_len] at h2
      have hno : ∀ k a b, ¬ IsLine s k a b := fun k a b hl => by
        obtain ⟨q1, q2⟩ := hk1 k a b hl
        have := parts_len k a b
        rw [← q2] at this
        omega
      rw [show ltI 2 ((strs (spl32 s)).length : Int) = false by rw [ltI_f, strs_len]; omega]
      conv => whnf
      have H : ∀ k a b, IsLine s k a b → k = k1 ∧ a = 0 ∧ b = 0 := fun k a b hl => absurd hl (hno k a b)
      refine (i_DeedLine_ok _ _ _).mono ?_
      rintro _ _ ⟨rfl, rfl⟩
      conv => whnf
      refine br_if (fun h5 => ?_) (fun h5 => ?_) <;> (try rw [h5]) <;> (conv => whnf)
      · rw [notB_t] at h5
        refine ⟨⟨0, 0, 0, false, rfl, parsed_no fun k a b hl => ?_⟩, rfl⟩
        obtain ⟨rfl, rfl, rfl⟩ := H k a b hl
        rw [hl.1] at h5
        cases h5
      rw [notB_f] at h5
      refine br_if (fun h6 => ?_) (fun h6 => ?_) <;> (try rw [h6]) <;> (conv => whnf)
      · rw [notB_t, eqStr_f] at h6
        refine ⟨⟨0, 0, 0, false, rfl, parsed_no fun k a b hl => ?_⟩, rfl⟩
        obtain ⟨rfl, rfl, rfl⟩ := H k a b hl
        exact h6 hl.2
      rw [notB_f, eqStr_t] at h6
      exact ⟨⟨_, _, _, true, rfl, ⟨fun _ => ⟨h5, h6⟩, fun e => (by cases e), fun k a b hl => ⟨rfl, H k a b hl⟩⟩⟩, rfl⟩

set_option maxRecDepth 100000 in
theorem s_DeedParse_ok (s : ByteArray) (hs : s.size ≤ 1048576) : FnV Tryd.prog 4 [sV s] fun rs outs => (∃ k a b ok, rs = [dR k a b, bR ok] ∧ Parsed s k a b ok) ∧ outs = [] := by
  refine fn_ok (E := S5E) τ_ok mixed Tryd.func4 (by rfl) (by rfl) false (by simp [Tryd.f4]) ?_
  conv => whnf
  refine (s_l17Words_ok s hs).mono ?_
  rintro _ _ ⟨⟨ps, rfl, hW, hpl⟩, rfl⟩
  conv => whnf
  obtain ⟨w0, ws, hw⟩ : ∃ w0 ws, ps = w0 :: ws := by
    cases h : ps with
    | nil => exact absurd h hW.ne
    | cons a r => exact ⟨a, r, rfl⟩
  refine ⟨fun n st => ∃ (i : Nat) (k1 : Int), st = ⟨[(0, .vals false [.sc (.string s)]), (2, .bptr 2 0 0), (4, .vals false [.ref 100 0]), (5, .bptr 5 0 0), (6, .vals false [.sc (.int .i64 ((i : Int) + 1))])], [(2, ⟨0, [.sc (.int .i64 0), .sc (.int .i64 0), .sc (.int .i64 0)]⟩), (5, ⟨0, [.sc (.int .i64 k1), .sc (.int .i64 0), .sc (.int .i64 0)]⟩)], [(100, ⟨true, 0, 0, true, 1, strs ps⟩)]⟩ ∧ n = 5 - i ∧ i ≤ 5 ∧ ∀ k, 1 ≤ k → k ≤ 5 → w0 = dword k → k1 = if k ≤ i then k else 0,
    ⟨_, _, norm_wk (keep := [0, 2, 4, 5, 6]) (kb := [2, 5]) (ρ := [(13, some 100)]) rfl, ⟨0, 0, rfl, rfl, by omega, fun k h1 h2 _ => by rw [if_neg (by omega)]⟩⟩, ?_⟩
  rintro n _ ⟨i, k1, rfl, rfl, hi, hk⟩
  conv => whnf
  refine br_if (fun h1 => ?_) (fun h1 => ?_) <;> (try rw [h1]) <;> (conv => whnf)
  · rw [leI_t] at h1
    have ei : wrp .i64 ((i : Int) + 1 + 1) = ((i + 1 : Nat) : Int) + 1 := by rw [wrp_i64 (by omega) (by omega)]; omega
    refine ⟨.one (.take 0 (.take 1 (.take 3 (.early 2 (.or 4 (.take 5 .done) .nil))))), by rfl, ?_⟩
    conv => whnf
    refine ⟨by decide, by rw [strs_len, hw]; simp, ?_⟩
    conv => whnf
    refine ⟨[.sc (.string w0)], by rw [hw]; rfl, ?_⟩
    conv => whnf
    refine (s_word_ok _ (by omega) (by omega)).mono ?_
    rintro _ _ ⟨rfl, rfl⟩
    conv => whnf
    refine ⟨[.sc (.string w0)], by rw [hw]; rfl, ?_⟩
    conv => whnf
    refine ⟨rfl, ?_⟩
    conv => whnf
    refine br_if (fun h2 => ?_) (fun h2 => ?_) <;> (try rw [h2]) <;> (conv => whnf)
    · rw [eqStr_t] at h2
      refine ⟨_, _, by omega, norm_wk (keep := [0, 2, 4, 5, 6]) (kb := [2, 5]) (ρ := [(100, some 100)]) rfl, ⟨i + 1, (i : Int) + 1, ?_, rfl, by omega, fun k q1 q2 q3 => ?_⟩⟩
      · rw [ei]
      · have := dword_inj q1 q2 (by omega) (by omega) (q3.symm.trans h2)
        rw [if_pos (by omega), this]
    · rw [eqStr_f] at h2
      refine ⟨_, _, by omega, norm_wk (keep := [0, 2, 4, 5, 6]) (kb := [2, 5]) (ρ := [(100, some 100)]) rfl, ⟨i + 1, k1, ?_, rfl, by omega, fun k q1 q2 q3 => ?_⟩⟩
      · rw [ei]
      · rw [hk k q1 q2 q3]
        by_cases hki : k ≤ i
        · rw [if_pos hki, if_pos (by omega)]
        · rw [if_neg hki, if_neg]
          intro hle
          have : k = (i : Int) + 1 := by omega
          subst this
          exact h2 q3
  · rw [leI_f] at h1
    obtain rfl : i = 5 := by omega
    have hk1 : ∀ k a b, IsLine s k a b → k = k1 ∧ ps = partsOf k a b := fun k a b hl => by
      obtain ⟨f1, f2, f3, f4, f5, f6, f7, f8⟩ := line_facts hl
      have e := hW.jn _ f8
      have e0 := parts_0 k a b
      rw [← e, hw] at e0
      have := hk k f1 f2 (by simpa using e0)
      rw [if_pos (by omega)] at this
      exact ⟨this.symm, e⟩
    have hp0 : 1 ≤ ps.length := by rw [hw]; simp
    refine ⟨fun n st => ∃ (i : Nat) (A B : Int), st = ⟨[(0, .vals false [.sc (.string s)]), (2, .bptr 2 0 0), (4, .vals false [.ref 100 0]), (5, .bptr 5 0 0), (7, .vals false [.sc (.int .i64 (i : Int))])], [(2, ⟨0, [.sc (.int .i64 0), .sc (.int .i64 0), .sc (.int .i64 0)]⟩), (5, ⟨0, [.sc (.int .i64 k1), .sc (.int .i64 A), .sc (.int .i64 B)]⟩)], [(100, ⟨true, 0, 0, true, 1, strs ps⟩)]⟩ ∧ n = ps.length - i ∧ 1 ≤ i ∧ i ≤ 3 ∧ i ≤ ps.length ∧ (1 < i → ∀ m, 0 ≤ m → m ≤ 999999999 → ps[1]? = some (decS m) → A = m) ∧ (2 < i → ∀ m, 0 ≤ m → m ≤ 999999999 → ps[2]? = some (decS m) → B = m) ∧ (i ≤ 2 → B = 0),
      ⟨_, _, norm_wk (keep := [0, 2, 4, 5, 7]) (kb := [2, 5]) (ρ := [(100, some 100)]) rfl, ⟨1, 0, 0, rfl, rfl, by omega, by omega, hp0, by omega, by omega, fun _ => rfl⟩⟩, ?_⟩
    rintro n _ ⟨i, A, B, rfl, rfl, hi0, hi3, hil, hA, hB, hB0⟩
    conv => whnf
    have ei : wrp .i64 ((i : Int) + 1) = ((i + 1 : Nat) : Int) := by rw [wrp_i64 (by omega) (by omega)]; rfl
    refine br_if (fun h2 => ?_) (fun h2 => ?_) <;> (try rw [h2]) <;> (conv => whnf)
    · rw [ltI_t, strs_len] at h2
      obtain ⟨p, hp⟩ : ∃ p, ps[i]? = some p := ⟨_, List.getElem?_eq_getElem (by omega)⟩
      have hsz := hW.sz _ (List.mem_of_getElem? hp)
      refine ⟨by omega, by rw [strs_len]; omega, ?_⟩
      conv => whnf
      refine ⟨[.sc (.string p)], strs_at hp, ?_⟩
      conv => whnf
      refine (s_l17Num_ok p (by omega)).mono ?_
      rintro _ _ ⟨⟨n1, ok1, rfl, hn1⟩, rfl⟩
      conv => whnf
      refine br_if (fun h3 => ?_) (fun h3 => ?_) <;> (try rw [h3]) <;> (conv => whnf)
      · rw [notB_t] at h3
        refine ⟨⟨0, 0, 0, false, rfl, parsed_no fun k a b hl => ?_⟩, rfl⟩
        obtain ⟨q1, q2⟩ := hk1 k a b hl
        obtain ⟨f1, f2, f3, f4, f5, f6, f7, f8⟩ := line_facts hl
        have hlt := (List.getElem?_eq_some_iff.1 hp).1
        rcases (show i = 1 ∨ i = 2 ∨ i = 3 by omega) with rfl | rfl | rfl
        · rw [q2, parts_1] at hp
          rw [(hn1 a f3 f5 (Option.some.inj hp).symm).2] at h3
          cases h3
        · have hkk : k = 1 ∨ k = 2 := by
            by_cases hkk : k = 1 ∨ k = 2
            · exact hkk
            · have := parts_len2 (a := a) (b := b) hkk
              rw [← q2] at this
              omega
          rw [q2, parts_2 hkk] at hp
          rw [(hn1 b f4 f6 (Option.some.inj hp).symm).2] at h3
          cases h3
        · have := parts_le3 k a b
          rw [← q2] at this
          omega
      rw [notB_f] at h3
      refine br_if (fun h4 => ?_) (fun h4 => ?_) <;> (try rw [h4]) <;> (conv => whnf)
      · rw [ltI_t] at h4
        refine ⟨⟨0, 0, 0, false, rfl, parsed_no fun k a b hl => ?_⟩, rfl⟩
        obtain ⟨q1, q2⟩ := hk1 k a b hl
        have := parts_le3 k a b
        rw [← q2] at this
        omega
      rw [ltI_f] at h4
      refine br_if (fun h5 => ?_) (fun h5 => ?_) <;> (try rw [h5]) <;> (conv => whnf)
      · rw [eqI_t] at h5
        obtain rfl : i = 1 := by omega
        refine ⟨_, _, by omega, norm_wk (keep := [0, 2, 4, 5, 7]) (kb := [2, 5]) (ρ := [(100, some 100)]) rfl, ⟨2, n1, B, ?_, rfl, by omega, by omega, by omega, fun _ m m0 m9 e => ?_, by omega, fun _ => hB0 (by omega)⟩⟩
        · rw [ei]
        · rw [hp] at e
          exact (hn1 m m0 m9 (Option.some.inj e)).1
      · rw [eqI_f] at h5
        obtain rfl : i = 2 := by omega
        refine ⟨_, _, by omega, norm_wk (keep := [0, 2, 4, 5, 7]) (kb := [2, 5]) (ρ := [(100, some 100)]) rfl, ⟨3, A, n1, ?_, rfl, by omega, by omega, by omega, fun _ => hA (by omega), fun _ m m0 m9 e => ?_, by omega⟩⟩
        · rw [ei]
        · rw [hp] at e
          exact (hn1 m m0 m9 (Option.some.inj e)).1
    · rw [ltI_f, strs_len] at h2
      have H : ∀ k a b, IsLine s k a b → k = k1 ∧ a = A ∧ b = B := fun k a b hl => by
        obtain ⟨q1, q2⟩ := hk1 k a b hl
        obtain ⟨f1, f2, f3, f4, f5, f6, f7, f8⟩ := line_facts hl
        have l2 := parts_len k a b
        rw [← q2] at l2
        refine ⟨q1, (hA (by omega) a f3 f5 (by rw [q2, parts_1])).symm, ?_⟩
        by_cases hkk : k = 1 ∨ k = 2
        · have l3 := parts_len3 (a := a) (b := b) hkk
          rw [← q2] at l3
          exact (hB (by omega) b f4 f6 (by rw [q2, parts_2 hkk])).symm
        · have l3 := parts_len2 (a := a) (b := b) hkk
          rw [← q2] at l3
          rw [hB0 (by omega), f7 hkk]
      refine (s_DeedLine_ok _ _ _).mono ?_
      rintro _ _ ⟨rfl, rfl⟩
      conv => whnf
      refine br_if (fun h5 => ?_) (fun h5 => ?_) <;> (try rw [h5]) <;> (conv => whnf)
      · rw [notB_t] at h5
        refine ⟨⟨0, 0, 0, false, rfl, parsed_no fun k a b hl => ?_⟩, rfl⟩
        obtain ⟨rfl, rfl, rfl⟩ := H k a b hl
        rw [hl.1] at h5
        cases h5
      rw [notB_f] at h5
      refine br_if (fun h6 => ?_) (fun h6 => ?_) <;> (try rw [h6]) <;> (conv => whnf)
      · rw [notB_t, eqStr_f] at h6
        refine ⟨⟨0, 0, 0, false, rfl, parsed_no fun k a b hl => ?_⟩, rfl⟩
        obtain ⟨rfl, rfl, rfl⟩ := H k a b hl
        exact h6 hl.2
      rw [notB_f, eqStr_t] at h6
      exact ⟨⟨_, _, _, true, rfl, ⟨fun _ => ⟨h5, h6⟩, fun e => (by cases e), fun k a b hl => ⟨rfl, H k a b hl⟩⟩⟩, rfl⟩

set_option maxRecDepth 100000 in
theorem eqDeed_ok (k a b k' a' b' : Int) (h : k = k' ∧ a = a' ∧ b = b') : FnV Tryd.prog 6 [dV k a b, dV k' a' b'] fun rs outs => rs = [bR true] ∧ outs = [] := by
  obtain ⟨rfl, rfl, rfl⟩ := h
  refine fn_ok (E := S5E) τ_ok mixed Tryd.func6 (by rfl) (by rfl) false (by simp [Tryd.f6]) ?_
  conv => whnf
  repeat' (refine br_if (fun h => ?_) (fun h => ?_) <;> (try rw [h]) <;> (conv => whnf))
  all_goals first | exact ⟨rfl, rfl⟩ | (rw [notB_t, eqI_f] at *; contradiction)

set_option maxRecDepth 100000 in
theorem law_ok (s : ByteArray) : FnV Tryd.prog 3 [sV s] fun rs outs => rs = [bR true] ∧ outs = [] := by
  refine fn_ok (E := S5E) τ_ok mixed Tryd.func3 (by rfl) (by rfl) false (by simp [Tryd.f3]) ?_
  conv => whnf
  refine br_if (fun h0 => ?_) (fun h0 => ?_) <;> (try rw [h0]) <;> (conv => whnf)
  · exact ⟨rfl, rfl⟩
  rw [ltI_f] at h0
  refine (s_DeedParse_ok s (by omega)).mono ?_
  rintro _ _ ⟨⟨k, a, b, ok, rfl, P1⟩, rfl⟩
  conv => whnf
  refine (i_DeedParse_ok s (by omega)).mono ?_
  rintro _ _ ⟨⟨k', a', b', ok', rfl, P2⟩, rfl⟩
  conv => whnf
  have hsame : (k' = k ∧ a' = a ∧ b' = b) ∧ ok' = ok := by
    cases ok with
    | true =>
      obtain ⟨q1, q2, q3, q4⟩ := P2.all _ _ _ (P1.yes rfl)
      exact ⟨⟨q2.symm, q3.symm, q4.symm⟩, q1⟩
    | false =>
      obtain ⟨q1, q2, q3⟩ := P1.no rfl
      cases ok' with
      | true =>
        have := (P1.all _ _ _ (P2.yes rfl)).1
        cases this
      | false =>
        obtain ⟨q4, q5, q6⟩ := P2.no rfl
        exact ⟨⟨q4.trans q1.symm, q5.trans q2.symm, q6.trans q3.symm⟩, rfl⟩
  refine (eqDeed_ok _ _ _ _ _ _ hsame.1).mono ?_
  rintro _ _ ⟨rfl, rfl⟩
  conv => whnf
  rw [show notB true = false by rw [notB_f]]
  conv => whnf
  obtain ⟨-, rfl⟩ := hsame
  refine br_if (fun h1 => ?_) (fun h1 => ?_) <;> (try rw [h1]) <;> (conv => whnf)
  · rw [notB_t, eqB_eq] at h1
    simp at h1
  · exact ⟨rfl, rfl⟩

end Go.Proofs.YtppfojiogappaaaDoor.V

