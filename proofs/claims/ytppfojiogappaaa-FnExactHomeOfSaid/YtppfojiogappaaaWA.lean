/- What the closed words for values come to. -/
import Derived.Test.YtppfojiogappaaaVZ
set_option linter.unusedVariables false
set_option linter.unusedSimpArgs false
namespace Go.Proofs.Ytppfojiogappaaa.V
open Go

theorem ltI_t {a b : Int} : ltI a b = true ↔ a < b := by simp [ltI_eq]
theorem ltI_f {a b : Int} : ltI a b = false ↔ b ≤ a := by simp [ltI_eq]
theorem leI_t {a b : Int} : leI a b = true ↔ a ≤ b := by simp [leI_eq]
theorem leI_f {a b : Int} : leI a b = false ↔ b < a := by simp [leI_eq]
theorem eqI_t {a b : Int} : eqI a b = true ↔ a = b := by simp [eqI_eq]
theorem eqI_f {a b : Int} : eqI a b = false ↔ a ≠ b := by simp [eqI_eq]
theorem notB_t {a : Bool} : notB a = true ↔ a = false := by cases a <;> simp [notB_eq]
theorem notB_f {a : Bool} : notB a = false ↔ a = true := by cases a <;> simp [notB_eq]
theorem eqB_t {a b : Bool} : eqB a b = true ↔ a = b := by simp [eqB_eq]
theorem eqB_f {a b : Bool} : eqB a b = false ↔ a ≠ b := by simp [eqB_eq]
theorem eqStr_t {a b : ByteArray} : eqStr a b = true ↔ a = b := by
  rw [eqStr_eq]
  rw [beq_iff_eq]
  constructor
  · intro h
    have h' : a.data.toList = b.data.toList := by simpa [ByteArray.toList_eq] using h
    cases a
    cases b
    simp only at h'
    congr 1
    exact Array.toList_inj.1 h'
  · intro h
    rw [h]
theorem eqStr_f {a b : ByteArray} : eqStr a b = false ↔ a ≠ b := by
  rw [Ne, ← eqStr_t]
  simp
theorem eqStr_self (a : ByteArray) : eqStr a a = true := eqStr_t.2 rfl
theorem eqI_self (a : Int) : eqI a a = true := eqI_t.2 rfl
theorem eqB_self (a : Bool) : eqB a a = true := eqB_t.2 rfl

theorem wrp_i64 {x : Int} (h0 : -9223372036854775808 ≤ x) (h1 : x ≤ 9223372036854775807) : wrp .i64 x = x := by
  have e1 : (2 : Int) ^ 64 = 18446744073709551616 := by decide
  have e2 : (2 : Int) ^ (64 - 1) = 9223372036854775808 := by decide
  simp only [wrp_eq, IntKind.wrap, IntKind.bits, IntKind.signed, e1, e2, Bool.true_and, decide_eq_true_eq]
  split <;> omega
theorem wrp_u8 {x : Int} (h0 : 0 ≤ x) (h1 : x < 256) : wrp .u8 x = x := by
  simp only [wrp_eq, IntKind.wrap, IntKind.bits, IntKind.signed]
  simp
  omega
theorem wrp_u8' {x : Int} : wrp .u8 x = x % 256 := by
  simp only [wrp_eq, IntKind.wrap, IntKind.bits, IntKind.signed]
  simp
theorem tdivOf_pos {x y : Int} (h0 : 0 ≤ x) (h1 : x ≤ 9223372036854775807) (h2 : 0 < y) : tdivOf .i64 x y = x / y := by
  rw [tdivOf_eq]
  rw [Int.tdiv_eq_ediv_of_nonneg h0]
  have a := Int.ediv_le_self y h0
  have b := Int.ediv_nonneg h0 (Int.le_of_lt h2)
  have := @wrp_i64 (x / y) (by omega) (by omega)
  rw [wrp_eq] at this
  exact this
theorem tmodOf_pos {x y : Int} (h0 : 0 ≤ x) : tmodOf x y = x % y := by
  rw [tmodOf_eq]
  rw [Int.tmod_eq_emod_of_nonneg h0]

/-- A row of numbers of one byte each. -/
def bts (xs : List Int) : List (List C) := xs.map fun v => [.sc (.int .u8 v)]
theorem bts_append (xs ys : List Int) : bts (xs ++ ys) = bts xs ++ bts ys := by simp [bts]
theorem bts_len (xs : List Int) : (bts xs).length = xs.length := by simp [bts]
theorem bts_nil : bts [] = [] := rfl
theorem bytesOf_bts (s : ByteArray) : bytesOf s = bts (s.data.toList.map fun b => (b.toNat : Int)) := by simp [bytesOf, bts]

theorem flat1 (k : IntKind) (v : Int) : Flat 1 [[.sc (.int k v)]] := by
  intro r hr
  rw [List.mem_singleton.1 hr]
  exact ⟨rfl, fun c hc => ⟨_, List.mem_singleton.1 hc, rfl⟩⟩
theorem flat_bts (xs : List Int) : Flat 1 (bts xs) := by
  intro r hr
  simp only [bts, List.mem_map] at hr
  obtain ⟨v, _, rfl⟩ := hr
  exact ⟨rfl, fun c hc => ⟨_, List.mem_singleton.1 hc, rfl⟩⟩
/-- A string's bytes as numbers. -/
def sb (s : ByteArray) : List Int := s.data.toList.map fun b => (b.toNat : Int)
theorem bytesOf_sb (s : ByteArray) : bytesOf s = bts (sb s) := bytesOf_bts s
theorem sb_len (s : ByteArray) : (sb s).length = s.size := by simp [sb]

end Go.Proofs.Ytppfojiogappaaa.V
