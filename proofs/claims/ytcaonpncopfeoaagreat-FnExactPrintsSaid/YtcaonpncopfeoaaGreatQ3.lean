/- What GetText and the readers come to. -/
import Derived.Test.YtcaonpncopfeoaaGreatQ2
set_option linter.unusedVariables false
set_option linter.unusedSimpArgs false
namespace Go.Proofs.YtcaonpncopfeoaaGreat.V
open Go

def MdE3 (f : Nat) : List Mode :=
  match f with
  | 171 => [.rd, .rd]
  | 172 => [.rd, .rd]
  | 180 => [.rd, .rd]
  | 181 => [.rd, .rd]
  | _ => []
def E3 : Env := ⟨τ, MdE3⟩

theorem gn_bounds {zs : List Int} (hz : Bytes zs) : ∀ (f i : Nat) (x : Int) (j : Nat), gn zs f i = some (x, j) → 0 ≤ x ∧ x < 128 ^ f ∧ i < j ∧ j ≤ zs.length
  | 0, i, x, j, h => by cases h
  | f + 1, i, x, j, h => by
    cases hd : zs[i]? with
    | none => simp [gn, hd] at h
    | some d =>
      have hb := hz d (List.mem_of_getElem? hd)
      have hlt : i < zs.length := (List.getElem?_eq_some_iff.1 hd).1
      by_cases hd1 : d < 128
      · rw [gn_small hd hd1] at h
        split at h
        · cases h
        · cases h
          have hp : (0 : Int) < 128 ^ f := Int.pow_pos (by decide)
          rw [Int.pow_succ]
          omega
      · rw [gn_big hd hd1] at h
        cases hr : gn zs f (i + 1) with
        | none => rw [hr] at h; cases h
        | some p =>
          rw [hr] at h
          obtain ⟨y, j'⟩ := p
          simp only [Option.map_some, Option.some.injEq, Prod.mk.injEq] at h
          obtain ⟨rfl, rfl⟩ := h
          obtain ⟨i1, i2, i3, i4⟩ := gn_bounds hz f (i + 1) y j' hr
          rw [Int.pow_succ]
          omega

theorem getNum_bounds {zs : List Int} (hz : Bytes zs) {a x : Int} {j : Nat} (h : getNum zs a = some (x, j)) : 0 ≤ a ∧ 0 ≤ x ∧ x ≤ 9223372036854775807 ∧ a < j ∧ j ≤ zs.length := by
  unfold getNum at h
  split at h
  · cases h
  · obtain ⟨i1, i2, i3, i4⟩ := gn_bounds hz 9 _ _ _ h
    have : (128 : Int) ^ 9 = 9223372036854775808 := by decide
    omega
theorem g_cases (zs : List Int) (a : Int) (hz : Bytes zs) : (gX zs a = 0 ∧ gJ zs a = 0 ∧ gB zs a = false) ∨ (gB zs a = true ∧ 0 ≤ a ∧ 0 ≤ gX zs a ∧ gX zs a ≤ 9223372036854775807 ∧ a < gJ zs a ∧ gJ zs a ≤ zs.length) := by
  cases h : getNum zs a with
  | none => exact .inl (g_none h)
  | some p =>
    obtain ⟨x, j⟩ := p
    obtain ⟨h1, h2, h3⟩ := g_some h
    obtain ⟨b1, b2, b3, b4, b5⟩ := getNum_bounds hz h
    exact .inr ⟨h3, b1, by omega, by omega, by omega, by omega⟩

@[irreducible] def tB (zs : List Int) (a : Int) : Bool := gB zs a && decide (gX zs a ≤ zs.length - gJ zs a)
@[irreducible] def tS (zs : List Int) (a : Int) : ByteArray := if tB zs a = true then strOfNums ((zs.take (gJ zs a + gX zs a).toNat).drop (gJ zs a).toNat) else ⟨#[]⟩
@[irreducible] def tJ (zs : List Int) (a : Int) : Int := if tB zs a = true then gJ zs a + gX zs a else 0

theorem tRes_none {zs : List Int} {a : Int} (h : tB zs a = false) : [sR ⟨#[]⟩, iR 0, bR false] = [sR (tS zs a), iR (tJ zs a), bR (tB zs a)] ∧ ([] : List (List C)) = [] := by
  unfold tS tJ
  rw [h]
  exact ⟨rfl, rfl⟩
theorem tRes_some {zs : List Int} {a j : Int} {s : ByteArray} (h : tB zs a = true) (h1 : s = strOfNums ((zs.take (gJ zs a + gX zs a).toNat).drop (gJ zs a).toNat)) (h2 : j = gJ zs a + gX zs a) :
    [sR s, iR j, bR true] = [sR (tS zs a), iR (tJ zs a), bR (tB zs a)] ∧ ([] : List (List C)) = [] := by
  unfold tS tJ
  rw [h, h1, h2]
  exact ⟨rfl, rfl⟩

set_option maxRecDepth 100000 in
theorem s_GetText_ok (zs : List Int) (a : Int) (hz : Bytes zs) (hl : zs.length ≤ 1000000000) (ha0 : -9223372036854775808 ≤ a) (ha : a ≤ 9223372036854775807) :
    FnV Tryz.prog 172 [bV zs, iV a] fun rs outs => rs = [sR (tS zs a), iR (tJ zs a), bR (tB zs a)] ∧ outs = [] := by
  refine fn_ok (E := E3) τ_ok mixed Tryz.func172 (by rfl) (by rfl) false (by simp [Tryz.f172]) ?_
  conv => whnf
  refine (s_GetNum_ok zs a hz hl ha0 ha).mono ?_
  rintro _ _ ⟨rfl, rfl⟩
  conv => whnf
  have hc := g_cases zs a hz
  refine br_if (fun h => ?_) (fun h => ?_) <;> (try rw [h]) <;> (conv => whnf)
  · rw [notB_t] at h
    exact tRes_none (by unfold tB; rw [h]; rfl)
  rw [notB_f] at h
  have hc' : 0 ≤ a ∧ 0 ≤ gX zs a ∧ gX zs a ≤ 9223372036854775807 ∧ a < gJ zs a ∧ gJ zs a ≤ zs.length := by
    rcases hc with hc | hc
    · rw [hc.2.2] at h; cases h
    · exact hc.2
  have el : wrp .i64 ((((bts zs).length : Nat) : Int) - gJ zs a) = (zs.length : Int) - gJ zs a := by rw [bts_len, wrp_i64 (by omega) (by omega)]
  rw [el]
  refine br_if (fun h2 => ?_) (fun h2 => ?_) <;> (try rw [h2]) <;> (conv => whnf)
  · rw [ltI_t] at h2
    exact tRes_none (by unfold tB; rw [h]; simp; omega)
  rw [ltI_f] at h2
  have e2 : wrp .i64 (gJ zs a + gX zs a) = gJ zs a + gX zs a := wrp_i64 (by omega) (by omega)
  rw [e2]
  refine ⟨by omega, by omega, by rw [bts_len]; omega, ?_⟩
  conv => whnf
  refine ⟨(zs.take (gJ zs a + gX zs a).toNat).drop (gJ zs a).toNat, by simp [bts, List.map_take, List.map_drop], ?_⟩
  conv => whnf
  exact tRes_some (by unfold tB; rw [h]; simp; omega) rfl e2

set_option maxRecDepth 100000 in
theorem i_GetText_ok (zs : List Int) (a : Int) (hz : Bytes zs) (hl : zs.length ≤ 1000000000) (ha0 : -9223372036854775808 ≤ a) (ha : a ≤ 9223372036854775807) :
    FnV Tryz.prog 181 [bV zs, iV a] fun rs outs => rs = [sR (tS zs a), iR (tJ zs a), bR (tB zs a)] ∧ outs = [] := by
  refine fn_ok (E := E3) τ_ok mixed Tryz.func181 (by rfl) (by rfl) false (by simp [Tryz.f181]) ?_
  conv => whnf
  refine (i_GetNum_ok zs a hz hl ha0 ha).mono ?_
  rintro _ _ ⟨rfl, rfl⟩
  conv => whnf
  have hc := g_cases zs a hz
  refine br_if (fun h => ?_) (fun h => ?_) <;> (try rw [h]) <;> (conv => whnf)
  · rw [notB_t] at h
    exact tRes_none (by unfold tB; rw [h]; rfl)
  rw [notB_f] at h
  have hc' : 0 ≤ a ∧ 0 ≤ gX zs a ∧ gX zs a ≤ 9223372036854775807 ∧ a < gJ zs a ∧ gJ zs a ≤ zs.length := by
    rcases hc with hc | hc
    · rw [hc.2.2] at h; cases h
    · exact hc.2
  have el : wrp .i64 ((((bts zs).length : Nat) : Int) - gJ zs a) = (zs.length : Int) - gJ zs a := by rw [bts_len, wrp_i64 (by omega) (by omega)]
  rw [el]
  refine br_if (fun h2 => ?_) (fun h2 => ?_) <;> (try rw [h2]) <;> (conv => whnf)
  · rw [ltI_t] at h2
    exact tRes_none (by unfold tB; rw [h]; simp; omega)
  rw [ltI_f] at h2
  have e2 : wrp .i64 (gJ zs a + gX zs a) = gJ zs a + gX zs a := wrp_i64 (by omega) (by omega)
  rw [e2]
  refine ⟨by omega, by omega, by rw [bts_len]; omega, ?_⟩
  conv => whnf
  refine ⟨(zs.take (gJ zs a + gX zs a).toNat).drop (gJ zs a).toNat, by simp [bts, List.map_take, List.map_drop], ?_⟩
  conv => whnf
  exact tRes_some (by unfold tB; rw [h]; simp; omega) rfl e2

@[reducible] def curC (zs : List Int) (a : Int) (ok : Bool) : List C := [.sl false 1 (bts zs), .sc (.int .i64 a), .sc (.bool ok)]
@[reducible] def curV (zs : List Int) (a : Int) (ok : Bool) : AV := .mptr none (curC zs a ok)

set_option maxRecDepth 100000 in
theorem i_rd_num_ok (zs : List Int) (a : Int) (ok : Bool) (hz : Bytes zs) (hl : zs.length ≤ 1000000000) (ha0 : -9223372036854775808 ≤ a) (ha : a ≤ 9223372036854775807) :
    FnV Tryz.prog 82 [curV zs a ok] fun rs outs => (gB zs a = true ∧ rs = [iR (gX zs a)] ∧ outs = [curC zs (gJ zs a) ok]) ∨ (gB zs a = false ∧ rs = [iR 0] ∧ outs = [curC zs a false]) := by
  refine fn_ok (E := E3) τ_ok mixed Tryz.func82 (by rfl) (by rfl) false (by simp [Tryz.f82]) ?_
  conv => whnf
  refine ⟨.take 0 (.take 1 (.take 2 (.take 4 (.take 5 (.take 6 (.early 7 (.or 3 (.or 8 (.take 9 (.take 10 (.take 11 (.take 12 (.take 13 (.take 14 (.take 15 .done))))))) .nil) .nil))))))), by rfl, ?_⟩
  apply Exists.intro
  refine ⟨?_, ?_⟩
  · conv => whnf
    refine ⟨rfl, ?_⟩
    conv => whnf
    refine (i_GetNum_ok zs a hz hl ha0 ha).mono ?_
    rintro _ _ ⟨rfl, rfl⟩
    conv => whnf
    refine ⟨rfl, ?_⟩
    conv => whnf
    exact norm_wk (keep := [0, 2, 3, 4, 5]) (kb := []) (ρ := []) rfl
  conv => whnf
  refine br_if (fun h => ?_) (fun h => ?_) <;> (try rw [h]) <;> (conv => whnf)
  · rw [notB_t] at h
    exact .inr ⟨h, rfl, rfl⟩
  · rw [notB_f] at h
    exact .inl ⟨h, rfl, rfl⟩

set_option maxRecDepth 100000 in
theorem i_rd_text_ok (zs : List Int) (a : Int) (ok : Bool) (hz : Bytes zs) (hl : zs.length ≤ 1000000000) (ha0 : -9223372036854775808 ≤ a) (ha : a ≤ 9223372036854775807) :
    FnV Tryz.prog 83 [curV zs a ok] fun rs outs => (tB zs a = true ∧ rs = [sR (tS zs a)] ∧ outs = [curC zs (tJ zs a) ok]) ∨ (tB zs a = false ∧ rs = [sR ⟨#[]⟩] ∧ outs = [curC zs a false]) := by
  refine fn_ok (E := E3) τ_ok mixed Tryz.func83 (by rfl) (by rfl) false (by simp [Tryz.f83]) ?_
  conv => whnf
  refine ⟨.take 0 (.take 1 (.take 2 (.take 4 (.take 5 (.take 6 (.early 7 (.or 3 (.or 8 (.take 9 (.take 10 (.take 11 (.take 12 (.take 13 (.take 14 (.take 15 .done))))))) .nil) .nil))))))), by rfl, ?_⟩
  apply Exists.intro
  refine ⟨?_, ?_⟩
  · conv => whnf
    refine ⟨rfl, ?_⟩
    conv => whnf
    refine (i_GetText_ok zs a hz hl ha0 ha).mono ?_
    rintro _ _ ⟨rfl, rfl⟩
    conv => whnf
    refine ⟨rfl, ?_⟩
    conv => whnf
    exact norm_wk (keep := [0, 2, 3, 4, 5]) (kb := []) (ρ := []) rfl
  conv => whnf
  refine br_if (fun h => ?_) (fun h => ?_) <;> (try rw [h]) <;> (conv => whnf)
  · rw [notB_t] at h
    exact .inr ⟨h, rfl, rfl⟩
  · rw [notB_f] at h
    exact .inl ⟨h, rfl, rfl⟩

set_option maxRecDepth 100000 in
theorem s_l8Num_ok (zs : List Int) (a : Int) (ok : Bool) (hz : Bytes zs) (hl : zs.length ≤ 1000000000) (ha0 : -9223372036854775808 ≤ a) (ha : a ≤ 9223372036854775807) :
    FnV Tryz.prog 74 [curV zs a ok] fun rs outs => ((gB zs a && ok) = true ∧ rs = [iR (gX zs a)] ∧ outs = [curC zs (gJ zs a) ok]) ∨ ((gB zs a && ok) = false ∧ rs = [iR 0] ∧ outs = [curC zs a false]) := by
  refine fn_ok (E := E3) τ_ok mixed Tryz.func74 (by rfl) (by rfl) false (by simp [Tryz.f74]) ?_
  conv => whnf
  refine ⟨.take 0 (.take 1 (.take 2 (.take 4 (.take 5 (.take 6 (.early 7 (.or 3 (.or 8 (.take 9 (.take 10 (.take 11 (.take 12 (.take 13 (.take 14 (.take 15 .done))))))) .nil) .nil))))))), by rfl, ?_⟩
  apply Exists.intro
  refine ⟨?_, ?_⟩
  · conv => whnf
    refine ⟨rfl, ?_⟩
    conv => whnf
    refine (s_GetNum_ok zs a hz hl ha0 ha).mono ?_
    rintro _ _ ⟨rfl, rfl⟩
    conv => whnf
    refine ⟨rfl, ?_⟩
    conv => whnf
    exact norm_wk (keep := [0, 2, 3, 4, 5]) (kb := []) (ρ := []) rfl
  conv => whnf
  refine br_if (fun h => ?_) (fun h => ?_) <;> (try rw [h]) <;> (conv => whnf)
  · rw [notB_t] at h
    exact .inr ⟨by rw [h]; rfl, rfl, rfl⟩
  rw [notB_f] at h
  refine br_if (fun h2 => ?_) (fun h2 => ?_) <;> (try rw [h2]) <;> (conv => whnf)
  · rw [notB_t] at h2
    exact .inr ⟨by rw [h, h2]; rfl, rfl, rfl⟩
  · rw [notB_f] at h2
    exact .inl ⟨by rw [h, h2]; rfl, rfl, rfl⟩

set_option maxRecDepth 100000 in
theorem s_l12ReadText_ok (zs : List Int) (a : Int) (ok : Bool) (hz : Bytes zs) (hl : zs.length ≤ 1000000000) (ha0 : -9223372036854775808 ≤ a) (ha : a ≤ 9223372036854775807) :
    FnV Tryz.prog 75 [curV zs a ok] fun rs outs => ((tB zs a && ok) = true ∧ rs = [sR (tS zs a)] ∧ outs = [curC zs (tJ zs a) ok]) ∨ ((tB zs a && ok) = false ∧ rs = [sR ⟨#[]⟩] ∧ outs = [curC zs a false]) := by
  refine fn_ok (E := E3) τ_ok mixed Tryz.func75 (by rfl) (by rfl) false (by simp [Tryz.f75]) ?_
  conv => whnf
  refine ⟨.take 0 (.take 1 (.take 2 (.take 4 (.take 5 (.take 6 (.early 7 (.or 3 (.or 8 (.take 9 (.take 10 (.take 11 (.take 12 (.take 13 (.take 14 (.take 15 .done))))))) .nil) .nil))))))), by rfl, ?_⟩
  apply Exists.intro
  refine ⟨?_, ?_⟩
  · conv => whnf
    refine ⟨rfl, ?_⟩
    conv => whnf
    refine (s_GetText_ok zs a hz hl ha0 ha).mono ?_
    rintro _ _ ⟨rfl, rfl⟩
    conv => whnf
    refine ⟨rfl, ?_⟩
    conv => whnf
    exact norm_wk (keep := [0, 2, 3, 4, 5]) (kb := []) (ρ := []) rfl
  conv => whnf
  refine br_if (fun h => ?_) (fun h => ?_) <;> (try rw [h]) <;> (conv => whnf)
  · rw [notB_t] at h
    exact .inr ⟨by rw [h]; rfl, rfl, rfl⟩
  rw [notB_f] at h
  refine br_if (fun h2 => ?_) (fun h2 => ?_) <;> (try rw [h2]) <;> (conv => whnf)
  · rw [notB_t] at h2
    exact .inr ⟨by rw [h, h2]; rfl, rfl, rfl⟩
  · rw [notB_f] at h2
    exact .inl ⟨by rw [h, h2]; rfl, rfl, rfl⟩

end Go.Proofs.YtcaonpncopfeoaaGreat.V
