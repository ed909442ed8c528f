/- What DeedLine comes to. -/
import Derived.Test.YtobmgdceengmiaaP4
set_option linter.unusedVariables false
set_option linter.unusedSimpArgs false
namespace Go.Proofs.Ytobmgdceengmiaa.V
open Go

def lineOk (k a b : Int) : Bool := deedOk k a b && (decide (a ≤ 999999999) && decide (b ≤ 999999999))
noncomputable def lineOf (k a b : Int) : ByteArray :=
  if lineOk k a b = true then
    (if k = 1 ∨ k = 2 then addStr (addStr (addStr (addStr (dword k) ⟨#[32]⟩) (strOfNums (digs a.toNat))) ⟨#[32]⟩) (strOfNums (digs b.toNat))
     else addStr (addStr (dword k) ⟨#[32]⟩) (strOfNums (digs a.toNat)))
  else ⟨#[]⟩

theorem addStr_size (x y : ByteArray) : (addStr x y).size = x.size + y.size := by
  rw [addStr_eq]
  simp
theorem dword_size (k : Int) : (dword k).size ≤ 5 := by
  unfold dword
  repeat' split
  all_goals decide
theorem i64max : IntKind.i64.max = 9223372036854775807 := by decide
theorem sz1 (x : UInt8) : (⟨#[x]⟩ : ByteArray).size = 1 := rfl

theorem line_no {k a b : Int} (h : lineOk k a b = false) : [sR ⟨#[]⟩, bR false] = [sR (lineOf k a b), bR (lineOk k a b)] ∧ ([] : List (List C)) = [] := by
  unfold lineOf
  rw [h]
  exact ⟨rfl, rfl⟩

theorem line_yes2 {k a b : Int} (h : deedOk k a b = true) (h2 : a ≤ 999999999) (h3 : b ≤ 999999999) (h4 : k = 1 ∨ k = 2) :
    [sR (addStr (addStr (addStr (addStr (dword k) ⟨#[32]⟩) (strOfNums (digs a.toNat))) ⟨#[32]⟩) (strOfNums (digs b.toNat))), bR true] = [sR (lineOf k a b), bR (lineOk k a b)] ∧ ([] : List (List C)) = [] := by
  have : lineOk k a b = true := by simp [lineOk, h, h2, h3]
  unfold lineOf
  rw [if_pos this, if_pos h4, this]
  exact ⟨rfl, rfl⟩
theorem line_yes1 {k a b : Int} (h : deedOk k a b = true) (h2 : a ≤ 999999999) (h3 : b ≤ 999999999) (h4 : ¬ (k = 1 ∨ k = 2)) :
    [sR (addStr (addStr (dword k) ⟨#[32]⟩) (strOfNums (digs a.toNat))), bR true] = [sR (lineOf k a b), bR (lineOk k a b)] ∧ ([] : List (List C)) = [] := by
  have : lineOk k a b = true := by simp [lineOk, h, h2, h3]
  unfold lineOf
  rw [if_pos this, if_neg h4, this]
  exact ⟨rfl, rfl⟩

set_option maxRecDepth 100000 in
theorem f16_ok (k a b : Int) : FnV Try.prog 16 [dV k a b] fun rs outs => rs = [sR (lineOf k a b), bR (lineOk k a b)] ∧ outs = [] := by
  refine fn_ok (E := En4) τ_ok mixed Try.func16 (by rfl) (by rfl) false (by simp [Try.f16]) ?_
  conv => whnf
  refine (f11_ok _ _ _).mono ?_
  rintro _ _ ⟨rfl, rfl⟩
  conv => whnf
  refine br_if (fun h => ?_) (fun h => ?_) <;> (try rw [h]) <;> (conv => whnf)
  · rw [notB_t] at h
    exact line_no (by simp [lineOk, h])
  rw [notB_f] at h
  refine br_if (fun h2 => ?_) (fun h2 => ?_) <;> (try rw [h2]) <;> (conv => whnf)
  · rw [ltI_t] at h2
    exact line_no (by simp [lineOk]; omega)
  rw [ltI_f] at h2
  refine br_if (fun h3 => ?_) (fun h3 => ?_) <;> (try rw [h3]) <;> (conv => whnf)
  · rw [ltI_t] at h3
    exact line_no (by simp [lineOk]; omega)
  rw [ltI_f] at h3
  obtain ⟨d1, d2, d3, d4⟩ := deedOk_kind h
  have l0 := dword_size k
  have l1 := digs_len20 (n := a.toNat) (by omega)
  have l2 := digs_len20 (n := b.toNat) (by omega)
  refine ⟨.take 0 (.take 4 (.early 1 (.early 5 (.or 2 (.take 3 (.or 6 (.take 7 (.take 8 .done)) .nil)) .nil)))), by rfl, ?_⟩
  apply Exists.intro
  refine ⟨?_, ?_⟩
  · conv => whnf
    refine (f30_ok _ d1 d2).mono ?_
    rintro _ _ ⟨rfl, rfl⟩
    conv => whnf
    refine ⟨rfl, ?_⟩
    conv => whnf
    refine ⟨rfl, ?_⟩
    conv => whnf
    refine ⟨by simp only [addStr_size, strOfNums_size, i64max, sz1]; omega, ?_⟩
    conv => whnf
    refine (f31_ok _ d3 (by omega)).mono ?_
    rintro _ _ ⟨rfl, rfl⟩
    conv => whnf
    refine ⟨rfl, ?_⟩
    conv => whnf
    refine ⟨rfl, ?_⟩
    conv => whnf
    refine ⟨by simp only [addStr_size, strOfNums_size, i64max, sz1]; omega, ?_⟩
    conv => whnf
    exact norm_wk (keep := [1, 4]) (kb := [1]) (ρ := []) rfl
  conv => whnf
  refine (f32_ok _).mono ?_
  rintro _ _ ⟨rfl, rfl⟩
  conv => whnf
  refine br_if (fun h4 => ?_) (fun h4 => ?_) <;> (try rw [h4]) <;> (conv => whnf)
  · refine ⟨by simp only [addStr_size, strOfNums_size, i64max, sz1]; omega, ?_⟩
    conv => whnf
    refine (f31_ok _ d4 (by omega)).mono ?_
    rintro _ _ ⟨rfl, rfl⟩
    conv => whnf
    refine ⟨by simp only [addStr_size, strOfNums_size, i64max, sz1]; omega, ?_⟩
    conv => whnf
    exact line_yes2 h h2 h3 (by simpa using h4)
  · exact line_yes1 h h2 h3 (by simpa using h4)

theorem addStr_assoc (x y z : ByteArray) : addStr x (addStr y z) = addStr (addStr x y) z := by
  simp only [addStr_eq]
  exact (ByteArray.append_assoc).symm

theorem dword_at {k : Int} (d1 : 1 ≤ k) (d2 : k ≤ 5) : dwords[(wrp .i64 (k - 1)).toNat]? = some [.sc (.string (dword k))] := by
  rw [wrp_i64 (by omega) (by omega)]
  rcases (show k = 1 ∨ k = 2 ∨ k = 3 ∨ k = 4 ∨ k = 5 by omega) with rfl | rfl | rfl | rfl | rfl <;> rfl

set_option maxRecDepth 100000 in
theorem f17_ok (k a b : Int) : FnV Try.prog 17 [dV k a b] fun rs outs => rs = [sR (lineOf k a b), bR (lineOk k a b)] ∧ outs = [] := by
  refine fn_ok (E := En4) τ_ok mixed Try.func17 (by rfl) (by rfl) false (by simp [Try.f17]) ?_
  conv => whnf
  refine (f13_ok _ _ _).mono ?_
  rintro _ _ ⟨rfl, rfl⟩
  conv => whnf
  refine br_if (fun h => ?_) (fun h => ?_) <;> (try rw [h]) <;> (conv => whnf)
  · rw [notB_t] at h
    exact line_no (by simp [lineOk, h])
  rw [notB_f] at h
  refine br_if (fun h2 => ?_) (fun h2 => ?_) <;> (try rw [h2]) <;> (conv => whnf)
  · rw [ltI_t] at h2
    exact line_no (by simp [lineOk]; omega)
  rw [ltI_f] at h2
  refine br_if (fun h3 => ?_) (fun h3 => ?_) <;> (try rw [h3]) <;> (conv => whnf)
  · rw [ltI_t] at h3
    exact line_no (by simp [lineOk]; omega)
  rw [ltI_f] at h3
  obtain ⟨d1, d2, d3, d4⟩ := deedOk_kind h
  have l0 := dword_size k
  have l1 := digs_len20 (n := a.toNat) (by omega)
  have l2 := digs_len20 (n := b.toNat) (by omega)
  have hw : wrp .i64 (k - 1) = k - 1 := wrp_i64 (by omega) (by omega)
  refine ⟨.take 1 (.take 7 (.early 2 (.take 3 (.early 8 (.or 0 (.or 4 (.early 5 (.take 6 (.or 9 (.take 10 (.take 11 .done)) .nil))) (.or 9 (.or 4 (.or 5 (.take 6 (.take 10 (.take 11 .done))) .nil) .nil) .nil)) .nil))))), by rfl, ?_⟩
  apply Exists.intro
  refine ⟨?_, ?_⟩
  · conv => whnf
    refine f33_ok.mono ?_
    rintro _ _ ⟨rfl, rfl⟩
    conv => whnf
    refine ⟨rfl, ?_⟩
    conv => whnf
    refine ⟨rfl, ?_⟩
    conv => whnf
    refine ⟨?_, ?_⟩ <;> (conv => whnf)
    · refine ⟨by omega, by simp [dwords]; omega, ?_⟩
      conv => whnf
      refine ⟨rfl, ?_⟩
      conv => whnf
      refine ⟨rfl, ?_⟩
      conv => whnf
      refine ⟨_, dword_at d1 d2, ?_⟩
      conv => whnf
      refine ⟨by simp only [addStr_size, strOfNums_size, i64max, sz1]; omega, ?_⟩
      conv => whnf
      refine (f34_ok (a.toNat + 1) a (by omega) d3 (by omega)).mono ?_
      rintro _ _ ⟨rfl, rfl⟩
      conv => whnf
      refine ⟨_, dword_at d1 d2, ?_⟩
      conv => whnf
      refine ⟨rfl, ?_⟩
      conv => whnf
      refine ⟨rfl, ?_⟩
      conv => whnf
      refine ⟨rfl, ?_⟩
      conv => whnf
      refine ⟨by simp only [addStr_size, strOfNums_size, i64max, sz1]; omega, ?_⟩
      conv => whnf
      exact norm_wk (keep := [1, 4]) (kb := [1]) (ρ := [(18, none)]) rfl
    · refine (f34_ok (a.toNat + 1) a (by omega) d3 (by omega)).mono ?_
      rintro _ _ ⟨rfl, rfl⟩
      conv => whnf
      refine ⟨rfl, ?_⟩
      conv => whnf
      refine ⟨rfl, ?_⟩
      conv => whnf
      refine ⟨by omega, by simp [dwords]; omega, ?_⟩
      conv => whnf
      refine ⟨rfl, ?_⟩
      conv => whnf
      refine ⟨rfl, ?_⟩
      conv => whnf
      refine ⟨_, dword_at d1 d2, ?_⟩
      conv => whnf
      refine ⟨rfl, ?_⟩
      conv => whnf
      refine ⟨rfl, ?_⟩
      conv => whnf
      refine ⟨by simp only [addStr_size, strOfNums_size, i64max, sz1]; omega, ?_⟩
      conv => whnf
      refine ⟨by simp only [addStr_size, strOfNums_size, i64max, sz1]; omega, ?_⟩
      conv => whnf
      exact norm_wk (keep := [1, 4]) (kb := [1]) (ρ := [(18, none)]) rfl
  conv => whnf
  refine br_if (fun h4 => ?_) (fun h4 => ?_) <;> (try rw [h4]) <;> (conv => whnf)
  · rw [eqI_t] at h4
    refine (f34_ok (b.toNat + 1) b (by omega) d4 (by omega)).mono ?_
    rintro _ _ ⟨rfl, rfl⟩
    conv => whnf
    refine ⟨by simp only [addStr_size, strOfNums_size, i64max, sz1]; omega, ?_⟩
    conv => whnf
    refine ⟨by simp only [addStr_size, strOfNums_size, i64max, sz1]; omega, ?_⟩
    conv => whnf
    rw [addStr_assoc]
    exact line_yes2 h h2 h3 (by omega)
  rw [eqI_f] at h4
  refine br_if (fun h5 => ?_) (fun h5 => ?_) <;> (try rw [h5]) <;> (conv => whnf)
  · rw [eqI_t] at h5
    refine (f34_ok (b.toNat + 1) b (by omega) d4 (by omega)).mono ?_
    rintro _ _ ⟨rfl, rfl⟩
    conv => whnf
    refine ⟨by simp only [addStr_size, strOfNums_size, i64max, sz1]; omega, ?_⟩
    conv => whnf
    refine ⟨by simp only [addStr_size, strOfNums_size, i64max, sz1]; omega, ?_⟩
    conv => whnf
    rw [addStr_assoc]
    exact line_yes2 h h2 h3 (by omega)
  rw [eqI_f] at h5
  exact line_yes1 h h2 h3 (by omega)

set_option maxRecDepth 100000 in
theorem f6_ok (k a b : Int) : FnV Try.prog 6 [dV k a b] fun rs outs => rs = [bR true] ∧ outs = [] := by
  refine fn_ok (E := En4) τ_ok mixed Try.func6 (by rfl) (by rfl) false (by simp [Try.f6]) ?_
  conv => whnf
  refine (f12_ok _ _ _).mono ?_
  rintro _ _ ⟨rfl, rfl⟩
  conv => whnf
  refine (f16_ok _ _ _).mono ?_
  rintro _ _ ⟨rfl, rfl⟩
  conv => whnf
  refine (f12_ok _ _ _).mono ?_
  rintro _ _ ⟨rfl, rfl⟩
  conv => whnf
  refine (f17_ok _ _ _).mono ?_
  rintro _ _ ⟨rfl, rfl⟩
  conv => whnf
  refine br_if (fun h => ?_) (fun h => ?_) <;> (try rw [h]) <;> (conv => whnf)
  · rw [notB_t, eqStr_self] at h
    cases h
  refine br_if (fun h => ?_) (fun h => ?_) <;> (try rw [h]) <;> (conv => whnf)
  · rw [notB_t, eqB_self] at h
    cases h
  · exact ⟨rfl, rfl⟩

theorem f6_all {Cs : List C} (h : TyL [.int .i64, .int .i64, .int .i64] Cs) : FnV Try.prog 6 [.rdv true Cs] fun rs outs => rs = [bR true] ∧ outs = [] := by
  obtain ⟨k, a, b, rfl, _⟩ := tyl_deed h
  exact f6_ok k a b

end Go.Proofs.Ytobmgdceengmiaa.V
