/- Part 6 of what the row leans on: Q3, Q49. -/
import Derived.Test.YtifodjnbcnbcpaaGreatWN5
set_option linter.unusedVariables false

set_option linter.unusedSimpArgs false

namespace Go.Proofs.YtifodjnbcnbcpaaGreat.V

open Go

def MdE3 (f : Nat) : List Mode :=
  match f with
  | 261 => [.rd, .rd]
  | 321 => [.rd, .rd]
  | 364 => [.rd, .rd]
  | 376 => [.rd, .rd]
  | _ => []

def E3 : Env := ⟨τ, MdE3⟩

theorem gn_bounds {zs : List Int} (hz : Bytes zs) : ∀ (f i : Nat) (x : Int) (j : Nat), gn zs f i = some (x, j) → 0 ≤ x ∧ x < 128 ^ f ∧ i < j ∧ j ≤ zs.length
  | 0, i, x, j, h => by cases h
  | f + 1, i, x, j, h => by
    cases hd : zs[i]? with
    | none => simp [gn, hd] at h
    | some d =>
      have hb := hz d (List.mem_of_getElem? hd)
      have hlt : i < zs.length := (List.getElem?_eq_some_iff.1 hd).1
      by_cases hd1 : d < 128
      · rw [gn_small hd hd1] at h
        split at h
        · cases h
        · cases h
          have hp : (0 : Int) < 128 ^ f := Int.pow_pos (by decide)
          rw [Int.pow_succ]
          omega
      · rw [gn_big hd hd1] at h
        cases hr : gn zs f (i + 1) with
        | none => rw [hr] at h; cases h
        | some p =>
          rw [hr] at h
          obtain ⟨y, j'⟩ := p
          simp only [Option.map_some, Option.some.injEq, Prod.mk.injEq] at h
          obtain ⟨rfl, rfl⟩ := h
          obtain ⟨i1, i2, i3, i4⟩ := gn_bounds hz f (i + 1) y j' hr
          rw [Int.pow_succ]
          omega

theorem getNum_bounds {zs : List Int} (hz : Bytes zs) {a x : Int} {j : Nat} (h : getNum zs a = some (x, j)) : 0 ≤ a ∧ 0 ≤ x ∧ x ≤ 9223372036854775807 ∧ a < j ∧ j ≤ zs.length := by
  unfold getNum at h
  split at h
  · cases h
  · obtain ⟨i1, i2, i3, i4⟩ := gn_bounds hz 9 _ _ _ h
    have : (128 : Int) ^ 9 = 9223372036854775808 := by decide
    omega

theorem g_cases (zs : List Int) (a : Int) (hz : Bytes zs) : (gX zs a = 0 ∧ gJ zs a = 0 ∧ gB zs a = false) ∨ (gB zs a = true ∧ 0 ≤ a ∧ 0 ≤ gX zs a ∧ gX zs a ≤ 9223372036854775807 ∧ a < gJ zs a ∧ gJ zs a ≤ zs.length) := by
  cases h : getNum zs a with
  | none => exact .inl (g_none h)
  | some p =>
    obtain ⟨x, j⟩ := p
    obtain ⟨h1, h2, h3⟩ := g_some h
    obtain ⟨b1, b2, b3, b4, b5⟩ := getNum_bounds hz h
    exact .inr ⟨h3, b1, by omega, by omega, by omega, by omega⟩

@[irreducible] def tB (zs : List Int) (a : Int) : Bool := gB zs a && decide (gX zs a ≤ zs.length - gJ zs a)

@[irreducible] def tS (zs : List Int) (a : Int) : ByteArray := if tB zs a = true then strOfNums ((zs.take (gJ zs a + gX zs a).toNat).drop (gJ zs a).toNat) else ⟨#[]⟩

@[irreducible] def tJ (zs : List Int) (a : Int) : Int := if tB zs a = true then gJ zs a + gX zs a else 0

theorem tRes_none {zs : List Int} {a : Int} (h : tB zs a = false) : [sR ⟨#[]⟩, iR 0, bR false] = [sR (tS zs a), iR (tJ zs a), bR (tB zs a)] ∧ ([] : List (List C)) = [] := by
  unfold tS tJ
  rw [h]
  exact ⟨rfl, rfl⟩

theorem tRes_some {zs : List Int} {a j : Int} {s : ByteArray} (h : tB zs a = true) (h1 : s = strOfNums ((zs.take (gJ zs a + gX zs a).toNat).drop (gJ zs a).toNat)) (h2 : j = gJ zs a + gX zs a) :
    [sR s, iR j, bR true] = [sR (tS zs a), iR (tJ zs a), bR (tB zs a)] ∧ ([] : List (List C)) = [] := by
  unfold tS tJ
  rw [h, h1, h2]
  exact ⟨rfl, rfl⟩

set_option maxRecDepth 100000 in
theorem s_GetText_ok (zs : List Int) (a : Int) (hz : Bytes zs) (hl : zs.length ≤ 1000000000) (ha0 : -9223372036854775808 ≤ a) (ha : a ≤ 9223372036854775807) :
    FnV Tryz.prog 261 [bV zs, iV a] fun rs outs => rs = [sR (tS zs a), iR (tJ zs a), bR (tB zs a)] ∧ outs = [] := by
  refine fn_ok (E := E3) τ_ok mixed Tryz.func261 (by rfl) (by rfl) false (by simp [Tryz.f261]) ?_
  conv => whnf
  refine (s_GetNum_ok zs a hz hl ha0 ha).mono ?_
  rintro _ _ ⟨rfl, rfl⟩
  conv => whnf
  have hc := g_cases zs a hz
  refine br_if (fun h => ?_) (fun h => ?_) <;> (try rw [h]) <;> (conv => whnf)
  · rw [notB_t] at h
    exact tRes_none (by unfold tB; rw [h]; rfl)
  rw [notB_f] at h
  have hc' : 0 ≤ a ∧ 0 ≤ gX zs a ∧ gX zs a ≤ 9223372036854775807 ∧ a < gJ zs a ∧ gJ zs a ≤ zs.length := by
    rcases hc with hc | hc
    · rw [hc.2.2] at h; cases h
    · exact hc.2
  have el : wrp .i64 ((((bts zs).length : Nat) : Int) - gJ zs a) = (zs.length : Int) - gJ zs a := by rw [bts_len, wrp_i64 (by omega) (by omega)]
  rw [el]
  refine br_if (fun h2 => ?_) (fun h2 => ?_) <;> (try rw [h2]) <;> (conv => whnf)
  · rw [ltI_t] at h2
    exact tRes_none (by unfold tB; rw [h]; simp; omega)
  rw [ltI_f] at h2
  have e2 : wrp .i64 (gJ zs a + gX zs a) = gJ zs a + gX zs a := wrp_i64 (by omega) (by omega)
  rw [e2]
  refine ⟨by omega, by omega, by rw [bts_len]; omega, ?_⟩
  conv => whnf
  refine ⟨(zs.take (gJ zs a + gX zs a).toNat).drop (gJ zs a).toNat, by simp [bts, List.map_take, List.map_drop], ?_⟩
  conv => whnf
  exact tRes_some (by unfold tB; rw [h]; simp; omega) rfl e2

set_option maxRecDepth 100000 in
theorem i_GetText_ok (zs : List Int) (a : Int) (hz : Bytes zs) (hl : zs.length ≤ 1000000000) (ha0 : -9223372036854775808 ≤ a) (ha : a ≤ 9223372036854775807) :
    FnV Tryz.prog 376 [bV zs, iV a] fun rs outs => rs = [sR (tS zs a), iR (tJ zs a), bR (tB zs a)] ∧ outs = [] := by
  refine fn_ok (E := E3) τ_ok mixed Tryz.func376 (by rfl) (by rfl) false (by simp [Tryz.f376]) ?_
  conv => whnf
  refine (i_GetNum_ok zs a hz hl ha0 ha).mono ?_
  rintro _ _ ⟨rfl, rfl⟩
  conv => whnf
  have hc := g_cases zs a hz
  refine br_if (fun h => ?_) (fun h => ?_) <;> (try rw [h]) <;> (conv => whnf)
  · rw [notB_t] at h
    exact tRes_none (by unfold tB; rw [h]; rfl)
  rw [notB_f] at h
  have hc' : 0 ≤ a ∧ 0 ≤ gX zs a ∧ gX zs a ≤ 9223372036854775807 ∧ a < gJ zs a ∧ gJ zs a ≤ zs.length := by
    rcases hc with hc | hc
    · rw [hc.2.2] at h; cases h
    · exact hc.2
  have el : wrp .i64 ((((bts zs).length : Nat) : Int) - gJ zs a) = (zs.length : Int) - gJ zs a := by rw [bts_len, wrp_i64 (by omega) (by omega)]
  rw [el]
  refine br_if (fun h2 => ?_) (fun h2 => ?_) <;> (try rw [h2]) <;> (conv => whnf)
  · rw [ltI_t] at h2
    exact tRes_none (by unfold tB; rw [h]; simp; omega)
  rw [ltI_f] at h2
  have e2 : wrp .i64 (gJ zs a + gX zs a) = gJ zs a + gX zs a := wrp_i64 (by omega) (by omega)
  rw [e2]
  refine ⟨by omega, by omega, by rw [bts_len]; omega, ?_⟩
  conv => whnf
  refine ⟨(zs.take (gJ zs a + gX zs a).toNat).drop (gJ zs a).toNat, by simp [bts, List.map_take, List.map_drop], ?_⟩
  conv => whnf
  exact tRes_some (by unfold tB; rw [h]; simp; omega) rfl e2

@[reducible] def curC (zs : List Int) (a : Int) (ok : Bool) : List C := [.sl false 1 (bts zs), .sc (.int .i64 a), .sc (.bool ok)]

@[reducible] def curV (zs : List Int) (a : Int) (ok : Bool) : AV := .mptr none (curC zs a ok)

set_option maxRecDepth 100000 in
theorem i_rd_num_ok (zs : List Int) (a : Int) (ok : Bool) (hz : Bytes zs) (hl : zs.length ≤ 1000000000) (ha0 : -9223372036854775808 ≤ a) (ha : a ≤ 9223372036854775807) :
    FnV Tryz.prog 330 [curV zs a ok] fun rs outs => (gB zs a = true ∧ rs = [iR (gX zs a)] ∧ outs = [curC zs (gJ zs a) ok]) ∨ (gB zs a = false ∧ rs = [iR 0] ∧ outs = [curC zs a false]) := by
  refine fn_ok (E := E3) τ_ok mixed Tryz.func330 (by rfl) (by rfl) false (by simp [Tryz.f330]) ?_
  conv => whnf
  refine ⟨.take 0 (.take 1 (.take 2 (.take 4 (.take 5 (.take 6 (.early 7 (.or 3 (.or 8 (.take 9 (.take 10 (.take 11 (.take 12 (.take 13 (.take 14 (.take 15 .done))))))) .nil) .nil))))))), by rfl, ?_⟩
  apply Exists.intro
  refine ⟨?_, ?_⟩
  · conv => whnf
    refine ⟨rfl, ?_⟩
    conv => whnf
    refine (i_GetNum_ok zs a hz hl ha0 ha).mono ?_
    rintro _ _ ⟨rfl, rfl⟩
    conv => whnf
    refine ⟨rfl, ?_⟩
    conv => whnf
    exact norm_wk (keep := [0, 2, 3, 4, 5]) (kb := []) (ρ := []) rfl
  conv => whnf
  refine br_if (fun h => ?_) (fun h => ?_) <;> (try rw [h]) <;> (conv => whnf)
  · rw [notB_t] at h
    exact .inr ⟨h, rfl, rfl⟩
  · rw [notB_f] at h
    exact .inl ⟨h, rfl, rfl⟩

set_option maxRecDepth 100000 in
theorem i_rd_text_ok (zs : List Int) (a : Int) (ok : Bool) (hz : Bytes zs) (hl : zs.length ≤ 1000000000) (ha0 : -9223372036854775808 ≤ a) (ha : a ≤ 9223372036854775807) :
    FnV Tryz.prog 359 [curV zs a ok] fun rs outs => (tB zs a = true ∧ rs = [sR (tS zs a)] ∧ outs = [curC zs (tJ zs a) ok]) ∨ (tB zs a = false ∧ rs = [sR ⟨#[]⟩] ∧ outs = [curC zs a false]) := by
  refine fn_ok (E := E3) τ_ok mixed Tryz.func359 (by rfl) (by rfl) false (by simp [Tryz.f359]) ?_
  conv => whnf
  refine ⟨.take 0 (.take 1 (.take 2 (.take 4 (.take 5 (.take 6 (.early 7 (.or 3 (.or 8 (.take 9 (.take 10 (.take 11 (.take 12 (.take 13 (.take 14 (.take 15 .done))))))) .nil) .nil))))))), by rfl, ?_⟩
  apply Exists.intro
  refine ⟨?_, ?_⟩
  · conv => whnf
    refine ⟨rfl, ?_⟩
    conv => whnf
    refine (i_GetText_ok zs a hz hl ha0 ha).mono ?_
    rintro _ _ ⟨rfl, rfl⟩
    conv => whnf
    refine ⟨rfl, ?_⟩
    conv => whnf
    exact norm_wk (keep := [0, 2, 3, 4, 5]) (kb := []) (ρ := []) rfl
  conv => whnf
  refine br_if (fun h => ?_) (fun h => ?_) <;> (try rw [h]) <;> (conv => whnf)
  · rw [notB_t] at h
    exact .inr ⟨h, rfl, rfl⟩
  · rw [notB_f] at h
    exact .inl ⟨h, rfl, rfl⟩

set_option maxRecDepth 100000 in
theorem s_l8Num_ok (zs : List Int) (a : Int) (ok : Bool) (hz : Bytes zs) (hl : zs.length ≤ 1000000000) (ha0 : -9223372036854775808 ≤ a) (ha : a ≤ 9223372036854775807) :
    FnV Tryz.prog 260 [curV zs a ok] fun rs outs => ((gB zs a && ok) = true ∧ rs = [iR (gX zs a)] ∧ outs = [curC zs (gJ zs a) ok]) ∨ ((gB zs a && ok) = false ∧ rs = [iR 0] ∧ outs = [curC zs a false]) := by
  refine fn_ok (E := E3) τ_ok mixed Tryz.func260 (by rfl) (by rfl) false (by simp [Tryz.f260]) ?_
  conv => whnf
  refine ⟨.take 0 (.take 1 (.take 2 (.take 4 (.take 5 (.take 6 (.early 7 (.or 3 (.or 8 (.take 9 (.take 10 (.take 11 (.take 12 (.take 13 (.take 14 (.take 15 .done))))))) .nil) .nil))))))), by rfl, ?_⟩
  apply Exists.intro
  refine ⟨?_, ?_⟩
  · conv => whnf
    refine ⟨rfl, ?_⟩
    conv => whnf
    refine (s_GetNum_ok zs a hz hl ha0 ha).mono ?_
    rintro _ _ ⟨rfl, rfl⟩
    conv => whnf
    refine ⟨rfl, ?_⟩
    conv => whnf
    exact norm_wk (keep := [0, 2, 3, 4, 5]) (kb := []) (ρ := []) rfl
  conv => whnf
  refine br_if (fun h => ?_) (fun h => ?_) <;> (try rw [h]) <;> (conv => whnf)
  · rw [notB_t] at h
    exact .inr ⟨by rw [h]; rfl, rfl, rfl⟩
  rw [notB_f] at h
  refine br_if (fun h2 => ?_) (fun h2 => ?_) <;> (try rw [h2]) <;> (conv => whnf)
  · rw [notB_t] at h2
    exact .inr ⟨by rw [h, h2]; rfl, rfl, rfl⟩
  · rw [notB_f] at h2
    exact .inl ⟨by rw [h, h2]; rfl, rfl, rfl⟩

end Go.Proofs.YtifodjnbcnbcpaaGreat.V

set_option linter.unusedVariables false

set_option linter.unusedSimpArgs false

namespace Go.Proofs.YtifodjnbcnbcpaaGreat.V

open Go

theorem sb_bytes (s : ByteArray) : Bytes (sb s) := by
  intro z hz
  simp only [sb, List.mem_map] at hz
  obtain ⟨b, _, rfl⟩ := hz
  have := b.toNat_lt
  omega

end Go.Proofs.YtifodjnbcnbcpaaGreat.V

set_option linter.unusedVariables false

set_option linter.unusedSimpArgs false

namespace Go.Proofs.YtifodjnbcnbcpaaGreat.V

open Go

theorem kVs_cons {us : List Value} {k : K0} {ks : List K0} (h : kVs us = some (k :: ks)) : ∃ u r, us = u :: r ∧ kV u = some k ∧ kVs r = some ks := by
  cases us with
  | nil => simp [kVs] at h
  | cons u r =>
    simp only [kVs] at h
    split at h
    · split at h
      · simp only [Option.some.injEq, List.cons.injEq] at h
        obtain ⟨h1, h2⟩ := h
        subst h1 h2
        exact ⟨_, _, rfl, by assumption, by assumption⟩
      · cases h
    · cases h

theorem kVs_nil {us : List Value} (h : kVs us = some []) : us = [] := by
  cases us with
  | nil => rfl
  | cons u r =>
    simp only [kVs] at h
    split at h
    · split at h
      · simp at h
      · cases h
    · cases h

theorem kV_int {u : Value} {k : IntKind} (h : kV u = some (.int k)) : ∃ x, u = .int k x := by
  cases u <;> simp [kV] at h
  subst h
  exact ⟨_, rfl⟩

theorem kV_str {u : Value} (h : kV u = some .str) : ∃ x, u = .string x := by
  cases u <;> simp [kV] at h
  exact ⟨_, rfl⟩

theorem beq_eqI (a b : Int) : (a == b) = eqI a b := by rw [eqI_eq]

theorem beq_eqStr (a b : ByteArray) : (a.toList == b.toList) = eqStr a b := (eqStr_eq a b).symm

theorem holdNode : Tryz.prog.stoodInHeld 231 = false := by kernel_rfl

theorem guardNode : Tryz.prog.eqGuardType Tryz.prog.depth 231 = false := by
  show Tryz.prog.eqGuardType (_ + 1 + 1) 231 = false
  simp [Program.eqGuardType, Tryz.underlying231, Tryz.underlying3, Tryz.underlying9]

theorem eqTyNode : EqTy Tryz.prog 231 [.int .i64, .int .i64, .str, .int .i64, .int .i64] where
  guard := guardNode
  run w us vs hu hv := by
    obtain ⟨u0, us, rfl, k0, hu⟩ := kVs_cons hu
    obtain ⟨u1, us, rfl, k1, hu⟩ := kVs_cons hu
    obtain ⟨u2, us, rfl, k2, hu⟩ := kVs_cons hu
    obtain ⟨u3, us, rfl, k3, hu⟩ := kVs_cons hu
    obtain ⟨u4, us, rfl, k4, hu⟩ := kVs_cons hu
    cases kVs_nil hu
    obtain ⟨v0, vs, rfl, l0, hv⟩ := kVs_cons hv
    obtain ⟨v1, vs, rfl, l1, hv⟩ := kVs_cons hv
    obtain ⟨v2, vs, rfl, l2, hv⟩ := kVs_cons hv
    obtain ⟨v3, vs, rfl, l3, hv⟩ := kVs_cons hv
    obtain ⟨v4, vs, rfl, l4, hv⟩ := kVs_cons hv
    cases kVs_nil hv
    obtain ⟨a0, rfl⟩ := kV_int k0
    obtain ⟨a1, rfl⟩ := kV_int k1
    obtain ⟨a2, rfl⟩ := kV_str k2
    obtain ⟨a3, rfl⟩ := kV_int k3
    obtain ⟨a4, rfl⟩ := kV_int k4
    obtain ⟨b0, rfl⟩ := kV_int l0
    obtain ⟨b1, rfl⟩ := kV_int l1
    obtain ⟨b2, rfl⟩ := kV_str l2
    obtain ⟨b3, rfl⟩ := kV_int l3
    obtain ⟨b4, rfl⟩ := kV_int l4
    rw [run_equalIn_struct w 9999 231 _ _ (by rw [Program.fieldsOf, Tryz.underlying231]) holdNode]
    simp only [Program.fieldsOf, Tryz.underlying231, eqVs, eqV, ← beq_eqI, ← beq_eqStr]
    clear hu hv
    go_simp
    by_cases h0 : a0 = b0
    case neg => simp [h0]
    by_cases h1 : a1 = b1
    case neg => simp [h0, h1]
    by_cases h2 : a2.toList = b2.toList
    case neg => simp [h0, h1, h2]
    by_cases h3 : a3 = b3
    case neg => simp [h0, h1, h2, h3]
    by_cases h4 : a4 = b4
    case neg => simp [h0, h1, h2, h3, h4]
    simp [h0, h1, h2, h3, h4]

theorem holdInstr : Tryz.prog.stoodInHeld 164 = false := by kernel_rfl

theorem guardInstr : Tryz.prog.eqGuardType Tryz.prog.depth 164 = false := by
  show Tryz.prog.eqGuardType (_ + 1 + 1) 164 = false
  simp [Program.eqGuardType, Tryz.underlying164, Tryz.underlying3, Tryz.underlying9]

theorem eqTyInstr : EqTy Tryz.prog 164 [.int .i64, .int .i64, .int .i64, .str] where
  guard := guardInstr
  run w us vs hu hv := by
    obtain ⟨u0, us, rfl, k0, hu⟩ := kVs_cons hu
    obtain ⟨u1, us, rfl, k1, hu⟩ := kVs_cons hu
    obtain ⟨u2, us, rfl, k2, hu⟩ := kVs_cons hu
    obtain ⟨u3, us, rfl, k3, hu⟩ := kVs_cons hu
    cases kVs_nil hu
    obtain ⟨v0, vs, rfl, l0, hv⟩ := kVs_cons hv
    obtain ⟨v1, vs, rfl, l1, hv⟩ := kVs_cons hv
    obtain ⟨v2, vs, rfl, l2, hv⟩ := kVs_cons hv
    obtain ⟨v3, vs, rfl, l3, hv⟩ := kVs_cons hv
    cases kVs_nil hv
    obtain ⟨a0, rfl⟩ := kV_int k0
    obtain ⟨a1, rfl⟩ := kV_int k1
    obtain ⟨a2, rfl⟩ := kV_int k2
    obtain ⟨a3, rfl⟩ := kV_str k3
    obtain ⟨b0, rfl⟩ := kV_int l0
    obtain ⟨b1, rfl⟩ := kV_int l1
    obtain ⟨b2, rfl⟩ := kV_int l2
    obtain ⟨b3, rfl⟩ := kV_str l3
    rw [run_equalIn_struct w 9999 164 _ _ (by rw [Program.fieldsOf, Tryz.underlying164]) holdInstr]
    simp only [Program.fieldsOf, Tryz.underlying164, eqVs, eqV, ← beq_eqI, ← beq_eqStr]
    clear hu hv
    go_simp
    by_cases h0 : a0 = b0
    case neg => simp [h0]
    by_cases h1 : a1 = b1
    case neg => simp [h0, h1]
    by_cases h2 : a2 = b2
    case neg => simp [h0, h1, h2]
    by_cases h3 : a3.toList = b3.toList
    case neg => simp [h0, h1, h2, h3]
    simp [h0, h1, h2, h3]

end Go.Proofs.YtifodjnbcnbcpaaGreat.V

set_option linter.unusedVariables false

set_option linter.unusedSimpArgs false

namespace Go.Proofs.YtifodjnbcnbcpaaGreat.V

open Go

def MdE5 (f : Nat) : List Mode :=
  match f with
  | 48 => [.rd, .rd, .rd]
  | 54 => [.rd, .rd, .rd]
  | 232 => [.rd]
  | 245 => [.rd]
  | 259 => [.rd, .rd]
  | 276 => [.rd, .rd]
  | 293 => [.rd]
  | 304 => [.rd]
  | 352 => [.rd, .rd]
  | 372 => [.rd, .rd]
  | _ => []

def E5 : Env := ⟨τ, MdE5⟩

def nameByte (z : Int) : Bool := decide (97 ≤ z ∧ z ≤ 122 ∨ z = 43 ∨ z = 45 ∨ z = 42 ∨ z = 60 ∨ z = 61 ∨ z = 63 ∨ z = 33 ∨ z = 47)

@[reducible] def u8V (z : Int) : AV := .rdv false [.sc (.int .u8 z)]

set_option maxRecDepth 100000 in
theorem s_l2NameByte_ok (z : Int) : FnV Tryz.prog 293 [u8V z] fun rs outs => rs = [bR (nameByte z)] ∧ outs = [] := by
  refine fn_ok (E := E5) τ_ok mixed Tryz.func293 (by rfl) (by rfl) false (by simp [Tryz.f293]) ?_
  conv => whnf
  repeat' (refine br_if (fun h => ?_) (fun h => ?_) <;> (try rw [h]) <;> (conv => whnf))
  all_goals refine bR_eq ?_
  all_goals simp only [leI_t, leI_f, eqI_t, eqI_f] at *
  all_goals first | (symm; apply decide_eq_true; omega) | (rw [eqI_eq]; unfold nameByte; apply decide_eq_decide.2; omega)

set_option maxRecDepth 100000 in
theorem sl_Index8_ok (zs : List Int) (hl : zs.length ≤ 1000000000) (z : Int) : FnV Tryz.prog 372 [bV zs, u8V z] fun rs outs => (∃ k : Int, (0 ≤ k ∧ z ∈ zs ∨ k = -1 ∧ z ∉ zs) ∧ rs = [iR k]) ∧ outs = [] := by
  refine fn_ok (E := E5) τ_ok mixed Tryz.func372 (by rfl) (by rfl) false (by simp [Tryz.f372]) ?_
  conv => whnf
  refine ⟨fun n s => ∃ (k : Int), s = ⟨[(0, .vals false [.rd none 1 (bts zs)]), (1, .vals false [.sc (.int .u8 z)]), (4, .vals false [.sc (.int .i64 0)]), (7, .vals false [.sc (.int .i64 zs.length)]), (8, .vals false [.sc (.int .i64 k)])], [], []⟩ ∧ n = zs.length - k.toNat ∧ 0 ≤ k ∧ k ≤ zs.length ∧ z ∉ zs.take k.toNat,
    ⟨_, _, norm_wk (keep := [0, 1, 4, 7, 8]) (kb := []) (ρ := []) rfl, ⟨0, by rw [bts_len], rfl, by omega, by omega, by simp⟩⟩, ?_⟩
  rintro n _ ⟨k, rfl, rfl, hk, hK, hno⟩
  conv => whnf
  refine br_if (fun h2 => ?_) (fun h2 => ?_) <;> (try rw [h2]) <;> (conv => whnf)
  · rw [ltI_t] at h2
    obtain ⟨d, hd⟩ : ∃ d, zs[k.toNat]? = some d := ⟨_, List.getElem?_eq_getElem (by omega)⟩
    refine ⟨by omega, _, bts_at hd, ?_⟩
    conv => whnf
    refine br_if (fun h3 => ?_) (fun h3 => ?_) <;> (try rw [h3]) <;> (conv => whnf)
    · rw [eqI_t] at h3
      subst h3
      exact ⟨⟨_, .inl ⟨hk, List.mem_of_getElem? hd⟩, rfl⟩, rfl⟩
    · rw [eqI_f] at h3
      rw [wrp_i64 (x := k + 1) (by omega) (by omega)]
      refine ⟨zs.length - (k + 1).toNat, _, by omega, norm_wk (keep := [0, 1, 4, 7, 8]) (kb := []) (ρ := []) rfl, ⟨k + 1, rfl, rfl, by omega, by omega, ?_⟩⟩
      rw [show (k + 1).toNat = k.toNat + 1 by omega, List.take_add_one, hd]
      simp [hno, h3]
  · rw [ltI_f] at h2
    refine ⟨⟨_, .inr ⟨rfl, ?_⟩, rfl⟩, rfl⟩
    rwa [List.take_of_length_le (by omega)] at hno

set_option maxRecDepth 100000 in
theorem sl_Contains8_ok (zs : List Int) (hl : zs.length ≤ 1000000000) (z : Int) : FnV Tryz.prog 352 [bV zs, u8V z] fun rs outs => rs = [bR (decide (z ∈ zs))] ∧ outs = [] := by
  refine fn_ok (E := E5) τ_ok mixed Tryz.func352 (by rfl) (by rfl) false (by simp [Tryz.f352]) ?_
  conv => whnf
  refine (sl_Index8_ok zs hl z).mono ?_
  rintro _ _ ⟨⟨k, hk, rfl⟩, rfl⟩
  conv => whnf
  refine bR_eq ?_
  rw [leI_eq]
  apply decide_eq_decide.2
  rcases hk with ⟨h1, h2⟩ | ⟨rfl, h2⟩
  · exact ⟨fun _ => h2, fun _ => h1⟩
  · exact ⟨fun h => absurd h (by omega), fun h => absurd h h2⟩

set_option maxRecDepth 100000 in
theorem i_isNameByte_ok (z : Int) : FnV Tryz.prog 304 [u8V z] fun rs outs => rs = [bR (nameByte z)] ∧ outs = [] := by
  refine fn_ok (E := E5) τ_ok mixed Tryz.func304 (by rfl) (by rfl) false (by simp [Tryz.f304]) ?_
  conv => whnf
  have key : ∀ (h : ¬ (97 ≤ z ∧ z ≤ 122)), decide (z ∈ [43, 45, 42, 60, 61, 63, 33, 47]) = nameByte z := fun h => by
    unfold nameByte
    apply decide_eq_decide.2
    simp only [List.mem_cons, List.not_mem_nil, or_false]
    omega
  refine br_if (fun h => ?_) (fun h => ?_) <;> (try rw [h]) <;> (conv => whnf)
  · refine br_if (fun h2 => ?_) (fun h2 => ?_) <;> (try rw [h2]) <;> (conv => whnf)
    · refine bR_eq ?_
      rw [leI_t] at *
      symm
      apply decide_eq_true
      omega
    · refine ⟨by decide, ?_⟩
      conv => whnf
      refine (sl_Contains8_ok [43, 45, 42, 60, 61, 63, 33, 47] (by decide) z).mono ?_
      rintro _ _ ⟨rfl, rfl⟩
      conv => whnf
      rw [leI_t] at h
      rw [leI_f] at h2
      exact bR_eq (key (by omega))
  · refine ⟨by decide, ?_⟩
    conv => whnf
    refine (sl_Contains8_ok [43, 45, 42, 60, 61, 63, 33, 47] (by decide) z).mono ?_
    rintro _ _ ⟨rfl, rfl⟩
    conv => whnf
    rw [leI_f] at h
    exact bR_eq (key (by omega))

open Classical in
noncomputable def nameOk (s : ByteArray) : Bool := decide (1 ≤ s.size ∧ s.size ≤ 12 ∧ ∀ z ∈ sb s, nameByte z = true)

theorem nameOk_t {s : ByteArray} : nameOk s = true ↔ 1 ≤ s.size ∧ s.size ≤ 12 ∧ ∀ z ∈ sb s, nameByte z = true := by
  unfold nameOk
  exact decide_eq_true_iff

theorem sb_at {s : ByteArray} {k : Int} (h0 : 0 ≤ k) (h1 : k < s.size) : (sb s)[k.toNat]? = some (btOf s k) := by
  rw [btOf_eq, dif_pos (by omega), sb, List.getElem?_map]
  have : s.data.toList[k.toNat]? = some (s[k.toNat]'(by omega)) := by
    rw [Array.getElem?_toList]
    exact Array.getElem?_eq_getElem _
  rw [this]
  rfl

theorem all_snoc {α : Type} {P : α → Prop} {l : List α} {k : Nat} {x : α} (h : l[k]? = some x) (ha : ∀ y ∈ l.take k, P y) (hx : P x) : ∀ y ∈ l.take (k + 1), P y := by
  intro y hy
  rw [List.take_add_one, h] at hy
  simp only [Option.toList_some, List.mem_append, List.mem_singleton] at hy
  rcases hy with hy | rfl
  · exact ha y hy
  · exact hx

set_option maxRecDepth 100000 in
theorem s_NameOk_ok (s : ByteArray) (hs : s.size ≤ 9223372036854775807) : FnV Tryz.prog 232 [sV s] fun rs outs => rs = [bR (nameOk s)] ∧ outs = [] := by
  refine fn_ok (E := E5) τ_ok mixed Tryz.func232 (by rfl) (by rfl) false (by simp [Tryz.f232]) ?_
  conv => whnf
  refine ⟨fun n st => ∃ (k : Int), st = ⟨[(0, .vals false [.sc (.string s)]), (2, .vals false [.sc (.bool false)]), (3, .vals false [.sc (.int .i64 k)])], [], []⟩ ∧ n = s.size - k.toNat ∧ 0 ≤ k ∧ k ≤ s.size ∧ ∀ z ∈ (sb s).take k.toNat, nameByte z = true,
    ⟨_, _, norm_wk (keep := [0, 2, 3]) (kb := []) (ρ := []) rfl, ⟨0, rfl, rfl, by omega, by omega, by simp⟩⟩, ?_⟩
  rintro n _ ⟨k, rfl, rfl, hk, hK, hall⟩
  conv => whnf
  refine br_if (fun h2 => ?_) (fun h2 => ?_) <;> (try rw [h2]) <;> (conv => whnf)
  · rw [ltI_t] at h2
    refine ⟨by omega, by omega, ?_⟩
    conv => whnf
    refine (s_l2NameByte_ok _).mono ?_
    rintro _ _ ⟨rfl, rfl⟩
    conv => whnf
    have hat := sb_at hk h2
    refine br_if (fun h3 => ?_) (fun h3 => ?_) <;> (try rw [h3]) <;> (conv => whnf)
    · refine bR_eq ?_
      rw [notB_t] at h3
      symm
      apply Bool.eq_false_iff.2
      rw [Ne, nameOk_t]
      rintro ⟨-, -, h⟩
      rw [h _ (List.mem_of_getElem? hat)] at h3
      cases h3
    · rw [notB_f] at h3
      rw [wrp_i64 (x := k + 1) (by omega) (by omega)]
      refine ⟨s.size - (k + 1).toNat, _, by omega, norm_wk (keep := [0, 2, 3]) (kb := []) (ρ := []) rfl, ⟨k + 1, rfl, rfl, by omega, by omega, ?_⟩⟩
      rw [show (k + 1).toNat = k.toNat + 1 by omega]
      exact all_snoc hat hall h3
  · rw [ltI_f] at h2
    refine (s_l1In_ok _ _ _).mono ?_
    rintro _ _ ⟨rfl, rfl⟩
    conv => whnf
    refine bR_eq (Bool.eq_iff_iff.2 ?_)
    rw [nameOk_t, decide_eq_true_iff]
    rw [List.take_of_length_le (by rw [sb_len]; omega)] at hall
    exact ⟨fun h => ⟨by omega, by omega, hall⟩, fun h => ⟨by omega, by omega⟩⟩

set_option maxRecDepth 100000 in
theorem i_NameOk_ok (s : ByteArray) (hs : s.size ≤ 9223372036854775807) : FnV Tryz.prog 245 [sV s] fun rs outs => rs = [bR (nameOk s)] ∧ outs = [] := by
  refine fn_ok (E := E5) τ_ok mixed Tryz.func245 (by rfl) (by rfl) false (by simp [Tryz.f245]) ?_
  conv => whnf
  refine (i_within_ok _ _ _).mono ?_
  rintro _ _ ⟨rfl, rfl⟩
  conv => whnf
  refine br_if (fun h1 => ?_) (fun h1 => ?_) <;> (try rw [h1]) <;> (conv => whnf)
  · refine bR_eq ?_
    rw [notB_t, decide_eq_false_iff_not] at h1
    symm
    apply Bool.eq_false_iff.2
    rw [Ne, nameOk_t]
    omega
  rw [notB_f, decide_eq_true_iff] at h1
  refine ⟨fun n st => ∃ (k : Int), st = ⟨[(0, .vals false [.sc (.string s)]), (2, .vals false [.sc (.bool false)]), (9, .vals false [.sc (.int .i64 s.size)]), (10, .vals false [.sc (.int .i64 k)])], [], []⟩ ∧ n = s.size - k.toNat ∧ 0 ≤ k ∧ k ≤ s.size ∧ ∀ z ∈ (sb s).take k.toNat, nameByte z = true,
    ⟨_, _, norm_wk (keep := [0, 2, 9, 10]) (kb := []) (ρ := []) rfl, ⟨0, rfl, rfl, by omega, by omega, by simp⟩⟩, ?_⟩
  rintro n _ ⟨k, rfl, rfl, hk, hK, hall⟩
  conv => whnf
  refine br_if (fun h2 => ?_) (fun h2 => ?_) <;> (try rw [h2]) <;> (conv => whnf)
  · rw [ltI_t] at h2
    refine ⟨by omega, by omega, ?_⟩
    conv => whnf
    refine (i_isNameByte_ok _).mono ?_
    rintro _ _ ⟨rfl, rfl⟩
    conv => whnf
    have hat := sb_at hk h2
    refine br_if (fun h3 => ?_) (fun h3 => ?_) <;> (try rw [h3]) <;> (conv => whnf)
    · refine bR_eq ?_
      rw [notB_t] at h3
      symm
      apply Bool.eq_false_iff.2
      rw [Ne, nameOk_t]
      rintro ⟨-, -, h⟩
      rw [h _ (List.mem_of_getElem? hat)] at h3
      cases h3
    · rw [notB_f] at h3
      rw [wrp_i64 (x := k + 1) (by omega) (by omega)]
      refine ⟨s.size - (k + 1).toNat, _, by omega, norm_wk (keep := [0, 2, 9, 10]) (kb := []) (ρ := []) rfl, ⟨k + 1, rfl, rfl, by omega, by omega, ?_⟩⟩
      rw [show (k + 1).toNat = k.toNat + 1 by omega]
      exact all_snoc hat hall h3
  · rw [ltI_f] at h2
    refine bR_eq ?_
    symm
    rw [nameOk_t]
    rw [List.take_of_length_le (by rw [sb_len]; omega)] at hall
    exact ⟨by omega, by omega, hall⟩

noncomputable def nameI (s : ByteArray) : Int := if nameOk s = true then 1 else 0

theorem nameI_t {s : ByteArray} : nameOk s = true ↔ nameI s = 1 := by unfold nameI; split <;> simp_all

theorem nameI_f {s : ByteArray} : nameOk s = false ↔ nameI s = 0 := by unfold nameI; split <;> simp_all

theorem emp_t {s : ByteArray} : eqStr s ⟨#[]⟩ = true ↔ s.size = 0 := by
  rw [eqStr_t]
  exact ⟨fun h => by rw [h]; rfl, fun h => ByteArray.ext (Array.eq_empty_of_size_eq_zero h)⟩

theorem emp_f {s : ByteArray} : eqStr s ⟨#[]⟩ = false ↔ s.size ≠ 0 := by
  rw [Ne, ← emp_t]
  simp

def NodeOk (x : DNode) (n : Int) : Prop :=
  (x.xKind = 1 ∧ x.xN = 0 ∧ x.xS.size = 0 ∧ x.xA = 0 ∧ x.xB = 0) ∨
  (x.xKind = 2 ∧ 0 ≤ x.xN ∧ x.xN ≤ 1 ∧ x.xS.size = 0 ∧ x.xA = 0 ∧ x.xB = 0) ∨
  (x.xKind = 3 ∧ -1000000000 ≤ x.xN ∧ x.xN ≤ 1000000000 ∧ x.xS.size = 0 ∧ x.xA = 0 ∧ x.xB = 0) ∨
  (x.xKind = 4 ∧ x.xN = 0 ∧ nameI x.xS = 1 ∧ x.xA = 0 ∧ x.xB = 0) ∨
  (x.xKind = 5 ∧ x.xN = 0 ∧ x.xS.size = 0 ∧ 0 ≤ x.xA ∧ x.xA < n ∧ 0 ≤ x.xB ∧ x.xB < n) ∨
  (x.xKind = 6 ∧ 0 ≤ x.xN ∧ x.xN ≤ 1000000000 ∧ x.xS.size = 0 ∧ 0 ≤ x.xA ∧ x.xA < n ∧ x.xB = 0) ∨
  (x.xKind = 7 ∧ x.xN = 0 ∧ x.xS.size = 0 ∧ 0 ≤ x.xA ∧ x.xA < n ∧ x.xB = 0) ∨
  (x.xKind = 8 ∧ 0 ≤ x.xN ∧ x.xN ≤ 99 ∧ x.xS.size = 0 ∧ x.xA = 0 ∧ x.xB = 0) ∨
  (x.xKind = 9 ∧ 0 ≤ x.xN ∧ x.xN ≤ 1000000000 ∧ x.xS.size = 0 ∧ x.xA = 0 ∧ x.xB = 0)

noncomputable def nodeOk (x : DNode) (n : Int) : Bool := @decide (NodeOk x n) (Classical.propDecidable _)

theorem nodeOk_t {x : DNode} {n : Int} : nodeOk x n = true ↔ NodeOk x n := by
  unfold nodeOk
  exact @decide_eq_true_iff _ (Classical.propDecidable _)

theorem node_k1 {x : DNode} {n : Int} (h : x.xKind = 1) : NodeOk x n ↔ x.xN = 0 ∧ x.xS.size = 0 ∧ x.xA = 0 ∧ x.xB = 0 := by simp [NodeOk, h]

theorem node_k2 {x : DNode} {n : Int} (h : x.xKind = 2) : NodeOk x n ↔ 0 ≤ x.xN ∧ x.xN ≤ 1 ∧ x.xS.size = 0 ∧ x.xA = 0 ∧ x.xB = 0 := by simp [NodeOk, h]

theorem node_k3 {x : DNode} {n : Int} (h : x.xKind = 3) : NodeOk x n ↔ -1000000000 ≤ x.xN ∧ x.xN ≤ 1000000000 ∧ x.xS.size = 0 ∧ x.xA = 0 ∧ x.xB = 0 := by simp [NodeOk, h]

theorem node_k4 {x : DNode} {n : Int} (h : x.xKind = 4) : NodeOk x n ↔ x.xN = 0 ∧ nameI x.xS = 1 ∧ x.xA = 0 ∧ x.xB = 0 := by simp [NodeOk, h]

theorem node_k5 {x : DNode} {n : Int} (h : x.xKind = 5) : NodeOk x n ↔ x.xN = 0 ∧ x.xS.size = 0 ∧ 0 ≤ x.xA ∧ x.xA < n ∧ 0 ≤ x.xB ∧ x.xB < n := by simp [NodeOk, h]

theorem node_k6 {x : DNode} {n : Int} (h : x.xKind = 6) : NodeOk x n ↔ 0 ≤ x.xN ∧ x.xN ≤ 1000000000 ∧ x.xS.size = 0 ∧ 0 ≤ x.xA ∧ x.xA < n ∧ x.xB = 0 := by simp [NodeOk, h]

theorem node_k7 {x : DNode} {n : Int} (h : x.xKind = 7) : NodeOk x n ↔ x.xN = 0 ∧ x.xS.size = 0 ∧ 0 ≤ x.xA ∧ x.xA < n ∧ x.xB = 0 := by simp [NodeOk, h]

theorem node_k8 {x : DNode} {n : Int} (h : x.xKind = 8) : NodeOk x n ↔ 0 ≤ x.xN ∧ x.xN ≤ 99 ∧ x.xS.size = 0 ∧ x.xA = 0 ∧ x.xB = 0 := by simp [NodeOk, h]

theorem node_k9 {x : DNode} {n : Int} (h : x.xKind = 9) : NodeOk x n ↔ 0 ≤ x.xN ∧ x.xN ≤ 1000000000 ∧ x.xS.size = 0 ∧ x.xA = 0 ∧ x.xB = 0 := by simp [NodeOk, h]

theorem node_k0 {x : DNode} {n : Int} (h1 : x.xKind ≠ 1) (h2 : x.xKind ≠ 2) (h3 : x.xKind ≠ 3) (h4 : x.xKind ≠ 4) (h5 : x.xKind ≠ 5) (h6 : x.xKind ≠ 6) (h7 : x.xKind ≠ 7) (h8 : x.xKind ≠ 8) (h9 : x.xKind ≠ 9) : ¬ NodeOk x n := by simp [NodeOk, *]

set_option maxRecDepth 100000 in
set_option maxHeartbeats 1000000 in
theorem s_l2Node_ok (x : DNode) (n : Int) (ho : x.ok) (h0 : 0 ≤ n) (h1 : n ≤ 9223372036854775807) : FnV Tryz.prog 259 [.rdv true x.c, iV n] fun rs outs => rs = [bR (nodeOk x n)] ∧ outs = [] := by
  refine fn_ok (E := E5) τ_ok mixed Tryz.func259 (by rfl) (by rfl) false (by simp [Tryz.f259]) ?_
  obtain ⟨oK, oN, oS, oA, oB⟩ := ho
  conv => whnf
  refine (s_l1In_ok _ _ _).mono ?_
  rintro _ _ ⟨rfl, rfl⟩
  conv => whnf
  refine (s_l1In_ok _ _ _).mono ?_
  rintro _ _ ⟨rfl, rfl⟩
  conv => whnf
  rw [wrp_i64 (x := n - 1) (by omega) (by omega)]
  repeat' (first
    | (refine br_if (fun h => ?_) (fun h => ?_) <;> (try rw [h]) <;> (conv => whnf))
    | (refine (s_l1In_ok _ _ _).mono ?_; rintro _ _ ⟨rfl, rfl⟩; conv => whnf)
    | (refine (s_NameOk_ok _ oS).mono ?_; rintro _ _ ⟨rfl, rfl⟩; conv => whnf)
    | (refine ⟨eqTyNode, ?_⟩; conv => whnf)
    | fail)
  all_goals (
      refine bR_eq (Bool.eq_iff_iff.2 ?_)
      rw [nodeOk_t]
      simp only [eqVs, eqV, Bool.and_eq_true, eqI_t, eqI_f, emp_t, emp_f, eqStr_self, eqI_self, true_and, and_true, false_iff, true_iff, nameI_t, nameI_f, notB_t, notB_f, decide_eq_true_eq, decide_eq_false_iff_not, Bool.false_eq_true] at *
      first
      | (rw [node_k1 ‹_›]; omega) | (rw [node_k2 ‹_›]; omega) | (rw [node_k3 ‹_›]; omega) | (rw [node_k4 ‹_›]; omega) | (rw [node_k5 ‹_›]; omega) | (rw [node_k6 ‹_›]; omega) | (rw [node_k7 ‹_›]; omega) | (rw [node_k8 ‹_›]; omega) | (rw [node_k9 ‹_›]; omega)
      | exact node_k0 ‹_› ‹_› ‹_› ‹_› ‹_› ‹_› ‹_› ‹_› ‹_›)

set_option maxRecDepth 100000 in
set_option maxHeartbeats 1000000 in
theorem i_nodeOk_ok (x : DNode) (n : Int) (ho : x.ok) (h0 : 0 ≤ n) (h1 : n ≤ 9223372036854775807) : FnV Tryz.prog 276 [.rdv true x.c, iV n] fun rs outs => rs = [bR (nodeOk x n)] ∧ outs = [] := by
  refine fn_ok (E := E5) τ_ok mixed Tryz.func276 (by rfl) (by rfl) false (by simp [Tryz.f276]) ?_
  obtain ⟨oK, oN, oS, oA, oB⟩ := ho
  have hw : wrp .i64 (n - 1) = n - 1 := wrp_i64 (by omega) (by omega)
  conv => whnf
  refine ⟨.take 0 (.take 3 (.take 4 (.or 1 (.take 2 (.take 5 .done)) .nil))), by rfl, ?_⟩
  apply Exists.intro
  refine ⟨?_, ?_⟩
  · conv => whnf
    exact norm_wk (keep := [0, 1, 2, 4, 5, 6, 7]) (kb := [2]) (ρ := []) rfl
  conv => whnf
  refine ⟨.take 0 (.take 3 (.early 1 (.take 2 (.take 6 (.or 4 (.take 5 (.take 7 .done)) .nil))))), by rfl, ?_⟩
  apply Exists.intro
  refine ⟨?_, ?_⟩
  · conv => whnf
    repeat (refine ⟨rfl, ?_⟩; conv => whnf)
    exact norm_wk (keep := [0, 1, 2, 4, 5, 6, 7, 8, 9]) (kb := [2]) (ρ := []) rfl
  conv => whnf
  repeat' (first
    | (refine br_if (fun h => ?_) (fun h => ?_) <;> (try rw [h]) <;> (conv => whnf))
    | (refine (i_within_ok _ _ _).mono ?_; rintro _ _ ⟨rfl, rfl⟩; conv => whnf)
    | (refine (i_NameOk_ok _ oS).mono ?_; rintro _ _ ⟨rfl, rfl⟩; conv => whnf)
    | fail)
  all_goals try (
      refine bR_eq (Bool.eq_iff_iff.2 ?_)
      rw [nodeOk_t]
      simp only [eqVs, eqV, Bool.and_eq_true, eqI_t, eqI_f, emp_t, emp_f, eqStr_self, eqI_self, true_and, and_true, false_iff, true_iff, nameI_t, nameI_f, notB_t, notB_f, decide_eq_true_eq, decide_eq_false_iff_not, Bool.false_eq_true] at *
      first
      | (rw [node_k1 ‹_›]; omega) | (rw [node_k2 ‹_›]; omega) | (rw [node_k3 ‹_›]; omega) | (rw [node_k4 ‹_›]; omega) | (rw [node_k5 ‹_›]; omega) | (rw [node_k6 ‹_›]; omega) | (rw [node_k7 ‹_›]; omega) | (rw [node_k8 ‹_›]; omega) | (rw [node_k9 ‹_›]; omega)
      | exact node_k0 ‹_› ‹_› ‹_› ‹_› ‹_› ‹_› ‹_› ‹_› ‹_›)
  refine ⟨.take 0 (.take 2 (.take 3 (.take 5 (.take 7 (.take 8 (.early 1 (.early 6 (.or 4 (.or 9 (.take 10 (.take 11 .done)) .nil) .nil)))))))), by rfl, ?_⟩
  apply Exists.intro
  refine ⟨?_, ?_⟩
  · conv => whnf
    refine (i_within_ok _ _ _).mono ?_
    rintro _ _ ⟨rfl, rfl⟩
    conv => whnf
    repeat (refine ⟨rfl, ?_⟩; conv => whnf)
    refine (i_within_ok _ _ _).mono ?_
    rintro _ _ ⟨rfl, rfl⟩
    conv => whnf
    repeat (refine ⟨rfl, ?_⟩; conv => whnf)
    exact norm_wk (keep := [0, 1, 2, 4, 5, 6, 7, 8, 9]) (kb := [2]) (ρ := []) rfl
  conv => whnf
  refine (i_within_ok _ _ _).mono ?_
  rintro _ _ ⟨rfl, rfl⟩
  conv => whnf
  repeat' (first
    | (refine br_if (fun h => ?_) (fun h => ?_) <;> (try rw [h]) <;> (conv => whnf))
    | fail)
  all_goals (
      refine bR_eq (Bool.eq_iff_iff.2 ?_)
      rw [nodeOk_t]
      simp only [eqVs, eqV, Bool.and_eq_true, eqI_t, eqI_f, emp_t, emp_f, eqStr_self, eqI_self, true_and, and_true, false_iff, true_iff, nameI_t, nameI_f, notB_t, notB_f, decide_eq_true_eq, decide_eq_false_iff_not, Bool.false_eq_true] at *
      first
      | (rw [node_k1 ‹_›]; omega) | (rw [node_k2 ‹_›]; omega) | (rw [node_k3 ‹_›]; omega) | (rw [node_k4 ‹_›]; omega) | (rw [node_k5 ‹_›]; omega) | (rw [node_k6 ‹_›]; omega) | (rw [node_k7 ‹_›]; omega) | (rw [node_k8 ‹_›]; omega) | (rw [node_k9 ‹_›]; omega)
      | exact node_k0 ‹_› ‹_› ‹_› ‹_› ‹_› ‹_› ‹_› ‹_› ‹_›)

noncomputable def clB (p : Prop) : Bool := @decide p (Classical.propDecidable _)

theorem clB_t {p : Prop} : clB p = true ↔ p := by
  unfold clB
  exact @decide_eq_true_iff _ (Classical.propDecidable _)

theorem clB_f {p : Prop} : clB p = false ↔ ¬ p := by rw [Bool.eq_false_iff, Ne, clB_t]

noncomputable def poolOk (l : List DNode) : Bool := clB (l.length ≤ 3000 ∧ ∀ (i : Nat) (x : DNode), l[i]? = some x → NodeOk x i)

theorem poolOk_t {l : List DNode} : poolOk l = true ↔ l.length ≤ 3000 ∧ ∀ (i : Nat) (x : DNode), l[i]? = some x → NodeOk x i := by
  unfold poolOk
  exact clB_t

theorem poolOk_ff {l : List DNode} {i : Nat} {x : DNode} (h : l[i]? = some x) (h2 : nodeOk x i = false) : poolOk l = false := by
  rw [Bool.eq_false_iff, Ne, poolOk_t]
  rintro ⟨-, h3⟩
  have := nodeOk_t.2 (h3 i x h)
  rw [h2] at this
  cases this

@[reducible] def pV (p : DPool) : AV := .rdv true p.c

set_option maxRecDepth 100000 in
theorem s_PoolOk_ok (p : DPool) (hp : p.ok) : FnV Tryz.prog 198 [pV p] fun rs outs => rs = [bR (poolOk p.xNodes)] ∧ outs = [] := by
  refine fn_ok (E := E5) τ_ok mixed Tryz.func198 (by rfl) (by rfl) false (by simp [Tryz.f198]) ?_
  obtain ⟨hl, ho⟩ := hp
  conv => whnf
  refine ⟨fun n s => ∃ (k : Int), s = ⟨[(1, .bptr 1 0 0), (2, .vals false [.sc (.bool false)]), (3, .vals false [.sc (.int .i64 k)])], [(1, ⟨0, [.rd none 5 (p.xNodes.map DNode.c)]⟩)], []⟩ ∧ n = p.xNodes.length - k.toNat ∧ 0 ≤ k ∧ k ≤ p.xNodes.length ∧ ∀ (i : Nat) (x : DNode), i < k.toNat → p.xNodes[i]? = some x → NodeOk x i,
    ⟨_, _, norm_wk (keep := [1, 2, 3]) (kb := [1]) (ρ := []) rfl, ⟨0, rfl, rfl, by omega, by omega, fun i x h => absurd h (by simp)⟩⟩, ?_⟩
  rintro n _ ⟨k, rfl, rfl, hk, hK, hall⟩
  conv => whnf
  refine br_if (fun h2 => ?_) (fun h2 => ?_) <;> (try rw [h2]) <;> (conv => whnf)
  · rw [ltI_t] at h2
    try rw [List.length_map] at h2
    obtain ⟨x, hx⟩ : ∃ x, p.xNodes[k.toNat]? = some x := ⟨_, List.getElem?_eq_getElem (by omega)⟩
    have hg : (p.xNodes.map DNode.c)[k.toNat]? = some x.c := by rw [List.getElem?_map, hx]; rfl
    refine ⟨by omega, _, hg, ?_⟩
    conv => whnf
    refine (s_l2Node_ok _ _ (ho x (List.mem_of_getElem? hx)) hk (by omega)).mono ?_
    rintro _ _ ⟨rfl, rfl⟩
    conv => whnf
    rw [show nodeOk x k = nodeOk x (k.toNat : Int) by rw [Int.toNat_of_nonneg hk]]
    refine br_if (fun h3 => ?_) (fun h3 => ?_) <;> (try rw [h3]) <;> (conv => whnf)
    · rw [notB_t] at h3
      exact bR_eq (poolOk_ff hx h3).symm
    · rw [notB_f] at h3
      rw [wrp_i64 (x := k + 1) (by omega) (by omega)]
      refine ⟨p.xNodes.length - (k + 1).toNat, _, by omega, norm_wk (keep := [1, 2, 3]) (kb := [1]) (ρ := []) rfl, ⟨k + 1, rfl, rfl, by omega, by omega, ?_⟩⟩
      intro i y hi hy
      by_cases e : i = k.toNat
      · subst e
        rw [hx] at hy
        cases hy
        exact nodeOk_t.1 h3
      · exact hall i y (by omega) hy
  · rw [ltI_f] at h2
    try rw [List.length_map] at h2
    refine bR_eq (Bool.eq_iff_iff.2 ?_)
    rw [poolOk_t, leI_t, List.length_map]
    exact ⟨fun h => ⟨by omega, fun i y hy => hall i y (by have := (List.getElem?_eq_some_iff.1 hy).1; omega) hy⟩, fun h => by omega⟩

set_option maxRecDepth 100000 in
theorem i_PoolOk_ok (p : DPool) (hp : p.ok) : FnV Tryz.prog 211 [pV p] fun rs outs => rs = [bR (poolOk p.xNodes)] ∧ outs = [] := by
  refine fn_ok (E := E5) τ_ok mixed Tryz.func211 (by rfl) (by rfl) false (by simp [Tryz.f211]) ?_
  obtain ⟨hl, ho⟩ := hp
  conv => whnf
  refine ⟨fun n s => ∃ (k : Int), s = ⟨[(1, .bptr 1 0 0), (2, .vals false [.sc (.bool false)]), (6, .vals false [.rd none 5 (p.xNodes.map DNode.c)]), (7, .vals false [.sc (.int .i64 p.xNodes.length)]), (8, .vals false [.sc (.int .i64 k)])], [(1, ⟨0, [.rd none 5 (p.xNodes.map DNode.c)]⟩)], []⟩ ∧ n = p.xNodes.length - k.toNat ∧ 0 ≤ k ∧ k ≤ p.xNodes.length ∧ ∀ (i : Nat) (x : DNode), i < k.toNat → p.xNodes[i]? = some x → NodeOk x i,
    ⟨_, _, norm_wk (keep := [1, 2, 6, 7, 8]) (kb := [1]) (ρ := []) rfl, ⟨0, by rw [List.length_map], rfl, by omega, by omega, fun i x h => absurd h (by simp)⟩⟩, ?_⟩
  rintro n _ ⟨k, rfl, rfl, hk, hK, hall⟩
  conv => whnf
  refine br_if (fun h2 => ?_) (fun h2 => ?_) <;> (try rw [h2]) <;> (conv => whnf)
  · rw [ltI_t] at h2
    try rw [List.length_map] at h2
    obtain ⟨x, hx⟩ : ∃ x, p.xNodes[k.toNat]? = some x := ⟨_, List.getElem?_eq_getElem (by omega)⟩
    have hg : (p.xNodes.map DNode.c)[k.toNat]? = some x.c := by rw [List.getElem?_map, hx]; rfl
    refine ⟨by omega, _, hg, ?_⟩
    conv => whnf
    refine (i_nodeOk_ok _ _ (ho x (List.mem_of_getElem? hx)) hk (by omega)).mono ?_
    rintro _ _ ⟨rfl, rfl⟩
    conv => whnf
    rw [show nodeOk x k = nodeOk x (k.toNat : Int) by rw [Int.toNat_of_nonneg hk]]
    refine br_if (fun h3 => ?_) (fun h3 => ?_) <;> (try rw [h3]) <;> (conv => whnf)
    · rw [notB_t] at h3
      exact bR_eq (poolOk_ff hx h3).symm
    · rw [notB_f] at h3
      rw [wrp_i64 (x := k + 1) (by omega) (by omega)]
      refine ⟨p.xNodes.length - (k + 1).toNat, _, by omega, norm_wk (keep := [1, 2, 6, 7, 8]) (kb := [1]) (ρ := []) rfl, ⟨k + 1, rfl, rfl, by omega, by omega, ?_⟩⟩
      intro i y hi hy
      by_cases e : i = k.toNat
      · subst e
        rw [hx] at hy
        cases hy
        exact nodeOk_t.1 h3
      · exact hall i y (by omega) hy
  · rw [ltI_f] at h2
    try rw [List.length_map] at h2
    refine bR_eq (Bool.eq_iff_iff.2 ?_)
    rw [poolOk_t, leI_t, List.length_map]
    exact ⟨fun h => ⟨by omega, fun i y hy => hall i y (by have := (List.getElem?_eq_some_iff.1 hy).1; omega) hy⟩, fun h => by omega⟩

end Go.Proofs.YtifodjnbcnbcpaaGreat.V

set_option linter.unusedVariables false

set_option linter.unusedSimpArgs false

namespace Go.Proofs.YtifodjnbcnbcpaaGreat.V

open Go

def MdE6 (f : Nat) : List Mode :=
  match f with
  | 48 => [.rd, .rd, .rd]
  | 54 => [.rd, .rd, .rd]
  | 199 => [.rd, .rd]
  | 212 => [.rd, .rd]
  | 232 => [.rd]
  | 245 => [.rd]
  | 257 => [.rd, .clo]
  | 258 => [.rd, .mptr]
  | _ => []

def E6 : Env := ⟨τ, MdE6⟩

def fidx {α : Type} (p : α → Bool) : List α → Int → Int
  | [], _ => -1
  | h :: r, k => if p h = true then k else fidx p r (k + 1)

theorem fidx_step {α : Type} {p : α → Bool} {hs : List α} {k : Nat} {x : α} (hx : hs[k]? = some x) : fidx p (hs.drop k) k = if p x = true then (k : Int) else fidx p (hs.drop (k + 1)) ((k : Int) + 1) := by
  obtain ⟨hlt, e⟩ := List.getElem?_eq_some_iff.1 hx
  rw [List.drop_eq_getElem_cons hlt, e]
  rfl

theorem fidx_ge {α : Type} (p : α → Bool) : ∀ (l : List α) (k : Int), 0 ≤ k → (fidx p l k = -1 ∧ l.any p = false ∨ k ≤ fidx p l k ∧ fidx p l k < k + l.length ∧ l.any p = true ∧ ∃ x, l[(fidx p l k - k).toNat]? = some x ∧ p x = true)
  | [], k, _ => .inl ⟨rfl, rfl⟩
  | x :: r, k, hk => by
    unfold fidx
    split
    · rename_i h
      exact .inr ⟨Int.le_refl _, by simp only [List.length_cons]; omega, by simp [h], x, by simp, h⟩
    · rename_i h
      rcases fidx_ge p r (k + 1) (by omega) with ⟨h1, h2⟩ | ⟨h1, h2, h3, y, h4, h5⟩
      · exact .inl ⟨h1, by simp [h2, h]⟩
      · refine .inr ⟨by omega, by simp only [List.length_cons]; omega, by simp [h3], y, ?_, h5⟩
        rw [show (fidx p r (k + 1) - k).toNat = (fidx p r (k + 1) - (k + 1)).toNat + 1 by omega]
        exact h4

theorem fidx_any {α : Type} (p : α → Bool) (l : List α) : leI 0 (fidx p l 0) = l.any p := by
  rcases fidx_ge p l 0 (by omega) with ⟨h1, h2⟩ | ⟨h1, h2, h3, _⟩
  · rw [h1, h2]
    exact leI_f.2 (by decide)
  · rw [h3]
    exact leI_t.2 h1

@[reducible] def cV (c : DCode) : AV := .rdv true c.c

set_option maxRecDepth 100000 in
theorem i_DefOf1_ok (name : ByteArray) (x : DDef) : FnV Tryz.prog 258 [.rdv true x.c, .mptr none [.sc (.string name)]] fun rs outs => rs = [bR (eqStr x.xName name)] ∧ outs = [[.sc (.string name)]] := by
  refine fn_ok (E := E6) τ_ok mixed Tryz.func258 (by rfl) (by rfl) false (by simp [Tryz.f258]) ?_
  conv => whnf
  exact ⟨rfl, rfl⟩

set_option maxRecDepth 100000 in
theorem i_DefOf_ix (name : ByteArray) (xs : List DDef) (hl : xs.length ≤ 9223372036854775807) : FnV Tryz.prog 257 [.rdv false [.sl true 3 (xs.map (fun x : DDef => x.c))], .mptr (some 258) [.sc (.string name)]] fun rs outs => rs = [iR (fidx (fun x : DDef => eqStr x.xName name) xs 0)] ∧ outs = [[.sc (.string name)]] := by
  refine fn_ok (E := E6) τ_ok mixed Tryz.func257 (by rfl) (by rfl) false (by simp [Tryz.f257]) ?_
  conv => whnf
  rw [List.length_map]
  refine ⟨fun m s => ∃ (k : Int), s = ⟨[(0, .vals false [.rd none 3 (xs.map (fun x : DDef => x.c))]), (1, .clo 258 1000001 0), (4, .vals false [.sc (.int .i64 0)]), (7, .vals false [.sc (.int .i64 (xs.length : Nat))]), (8, .vals false [.sc (.int .i64 k)])], [(1000001, ⟨0, [.sc (.string name)]⟩)], []⟩ ∧ m = xs.length - k.toNat ∧ 0 ≤ k ∧ k ≤ xs.length ∧ fidx (fun x : DDef => eqStr x.xName name) (xs.drop k.toNat) k = fidx (fun x : DDef => eqStr x.xName name) xs 0,
    ⟨_, _, norm_wk (keep := [0, 1, 4, 7, 8]) (kb := [1000001]) (ρ := []) rfl, ⟨0, rfl, rfl, by omega, by omega, rfl⟩⟩, ?_⟩
  rintro m _ ⟨k, rfl, rfl, k0, k1, hk⟩
  conv => whnf
  refine br_if (fun h => ?_) (fun h => ?_) <;> (try rw [h]) <;> (conv => whnf)
  · rw [ltI_t] at h
    obtain ⟨x, hx⟩ : ∃ x, xs[k.toNat]? = some x := ⟨_, List.getElem?_eq_getElem (by omega)⟩
    have hss := fidx_step (p := (fun x : DDef => eqStr x.xName name)) hx
    rw [Int.toNat_of_nonneg k0] at hss
    rw [hss] at hk
    refine ⟨by omega, _, by rw [List.getElem?_map, hx]; rfl, ?_⟩
    conv => whnf
    refine (i_DefOf1_ok name x).mono ?_
    rintro _ _ ⟨rfl, rfl⟩
    conv => whnf
    refine br_if (fun h2 => ?_) (fun h2 => ?_) <;> (try rw [h2]) <;> (conv => whnf)
    · rw [if_pos h2] at hk
      rw [← hk]
      exact ⟨rfl, rfl⟩
    · rw [if_neg (by rw [h2]; decide)] at hk
      rw [wrp_i64 (x := k + 1) (by omega) (by omega)]
      have ek : (k + 1).toNat = k.toNat + 1 := by omega
      exact ⟨xs.length - (k + 1).toNat, _, by omega, norm_wk (keep := [0, 1, 4, 7, 8]) (kb := [1000001]) (ρ := []) rfl, ⟨k + 1, rfl, rfl, by omega, by omega, by rw [ek]; exact hk⟩⟩
  · rw [ltI_f] at h
    rw [List.drop_eq_nil_of_le (by omega)] at hk
    rw [← hk]
    exact ⟨rfl, rfl⟩

noncomputable def defOf (c : DCode) (name : ByteArray) : Int := fidx (fun x : DDef => eqStr x.xName name) c.xDefs 0

set_option maxRecDepth 100000 in
theorem i_DefOf_ok (c : DCode) (name : ByteArray) (hl : c.xDefs.length ≤ 9223372036854775807) : FnV Tryz.prog 190 [cV c, sV name] fun rs outs => rs = [iR (defOf c name)] ∧ outs = [] := by
  refine fn_ok (E := E6) τ_ok mixed Tryz.func190 (by rfl) (by rfl) false (by simp [Tryz.f190]) ?_
  conv => whnf
  refine (i_DefOf_ix name c.xDefs hl).mono ?_
  rintro _ _ ⟨rfl, rfl⟩
  conv => whnf
  exact ⟨rfl, rfl⟩

set_option maxRecDepth 100000 in
theorem s_DefOf_ok (c : DCode) (name : ByteArray) (hl : c.xDefs.length ≤ 9223372036854775807) : FnV Tryz.prog 188 [cV c, sV name] fun rs outs => rs = [iR (defOf c name)] ∧ outs = [] := by
  refine fn_ok (E := E6) τ_ok mixed Tryz.func188 (by rfl) (by rfl) false (by simp [Tryz.f188]) ?_
  conv => whnf
  refine ⟨fun m s => ∃ (k : Int), s = ⟨[(1, .vals false [.sc (.string name)]), (2, .bptr 2 0 0), (4, .vals false [.sc (.int .i64 0)]), (5, .vals false [.sc (.int .i64 k)])], [(2, ⟨0, c.x⟩)], []⟩ ∧ m = c.xDefs.length - k.toNat ∧ 0 ≤ k ∧ k ≤ c.xDefs.length ∧ fidx (fun x : DDef => eqStr x.xName name) (c.xDefs.drop k.toNat) k = defOf c name,
    ⟨_, _, norm_wk (keep := [1, 2, 4, 5]) (kb := [2]) (ρ := []) rfl, ⟨0, rfl, rfl, by omega, by omega, rfl⟩⟩, ?_⟩
  rintro m _ ⟨k, rfl, rfl, k0, k1, hk⟩
  conv => whnf
  refine br_if (fun h => ?_) (fun h => ?_) <;> (try rw [h]) <;> (conv => whnf)
  · rw [ltI_t, List.length_map] at h
    obtain ⟨x, hx⟩ : ∃ x, c.xDefs[k.toNat]? = some x := ⟨_, List.getElem?_eq_getElem (by omega)⟩
    have hss := fidx_step (p := fun x : DDef => eqStr x.xName name) hx
    rw [Int.toNat_of_nonneg k0] at hss
    rw [hss] at hk
    refine ⟨by omega, _, by rw [List.getElem?_map, hx]; rfl, ?_⟩
    conv => whnf
    refine br_if (fun h2 => ?_) (fun h2 => ?_) <;> (try rw [h2]) <;> (conv => whnf)
    · rw [if_pos h2] at hk
      rw [← hk]
      exact ⟨rfl, rfl⟩
    · rw [if_neg (by rw [h2]; decide)] at hk
      rw [wrp_i64 (x := k + 1) (by omega) (by omega)]
      have ek : (k + 1).toNat = k.toNat + 1 := by omega
      exact ⟨c.xDefs.length - (k + 1).toNat, _, by omega, norm_wk (keep := [1, 2, 4, 5]) (kb := [2]) (ρ := []) rfl, ⟨k + 1, rfl, rfl, by omega, by omega, by rw [ek]; exact hk⟩⟩
  · rw [ltI_f, List.length_map] at h
    rw [List.drop_eq_nil_of_le (by omega)] at hk
    rw [← hk]
    exact ⟨rfl, rfl⟩

set_option maxRecDepth 100000 in
theorem s_l2Has_ok (p : DPool) (v : Int) (hl : p.xNodes.length ≤ 9223372036854775807) : FnV Tryz.prog 199 [pV p, iV v] fun rs outs => rs = [bR (decide (0 ≤ v ∧ v < p.xNodes.length))] ∧ outs = [] := by
  refine fn_ok (E := E6) τ_ok mixed Tryz.func199 (by rfl) (by rfl) false (by simp [Tryz.f199]) ?_
  conv => whnf
  refine (s_l1In_ok _ _ _).mono ?_
  rintro _ _ ⟨rfl, rfl⟩
  conv => whnf
  rw [List.length_map, wrp_i64 (by omega) (by omega)]
  exact bR_eq (decide_eq_decide.2 (by omega))

set_option maxRecDepth 100000 in
theorem i_isNode_ok (p : DPool) (v : Int) (hl : p.xNodes.length ≤ 9223372036854775807) : FnV Tryz.prog 212 [pV p, iV v] fun rs outs => rs = [bR (decide (0 ≤ v ∧ v < p.xNodes.length))] ∧ outs = [] := by
  refine fn_ok (E := E6) τ_ok mixed Tryz.func212 (by rfl) (by rfl) false (by simp [Tryz.f212]) ?_
  conv => whnf
  refine (i_within_ok _ _ _).mono ?_
  rintro _ _ ⟨rfl, rfl⟩
  conv => whnf
  rw [List.length_map, wrp_i64 (by omega) (by omega)]
  exact bR_eq (decide_eq_decide.2 (by omega))

set_option maxRecDepth 100000 in
theorem i_isPlace_ok (c : DCode) (v : Int) (hl : c.xList.length ≤ 9223372036854775807) : FnV Tryz.prog 213 [cV c, iV v] fun rs outs => rs = [bR (decide (0 ≤ v ∧ v < c.xList.length))] ∧ outs = [] := by
  refine fn_ok (E := E6) τ_ok mixed Tryz.func213 (by rfl) (by rfl) false (by simp [Tryz.f213]) ?_
  conv => whnf
  refine (i_within_ok _ _ _).mono ?_
  rintro _ _ ⟨rfl, rfl⟩
  conv => whnf
  rw [List.length_map, wrp_i64 (by omega) (by omega)]
  exact bR_eq (decide_eq_decide.2 (by omega))

def InstrOk (nl np : Int) (x : DInstr) (i : Int) : Prop :=
  (x.xOp = 1 ∧ 0 ≤ x.xN ∧ x.xN < np ∧ x.xI = 0 ∧ x.xS.size = 0) ∨
  (x.xOp = 2 ∧ 0 ≤ x.xN ∧ x.xN ≤ 20 ∧ 0 ≤ x.xI ∧ x.xI ≤ 3 ∧ x.xS.size = 0) ∨
  (x.xOp = 3 ∧ x.xN = 0 ∧ x.xI = 0 ∧ nameI x.xS = 1) ∨
  (x.xOp = 4 ∧ i < x.xN ∧ x.xN ≤ nl ∧ x.xI = 0 ∧ x.xS.size = 0) ∨
  (x.xOp = 5 ∧ i < x.xN ∧ x.xN ≤ nl ∧ x.xI = 0 ∧ x.xS.size = 0) ∨
  (x.xOp = 6 ∧ i < x.xN ∧ x.xN < nl ∧ 0 ≤ x.xI ∧ x.xI ≤ 4 ∧ x.xS.size = 0) ∨
  (x.xOp = 7 ∧ x.xN = 0 ∧ 0 ≤ x.xI ∧ x.xI ≤ 4 ∧ x.xS.size = 0) ∨
  (x.xOp = 8 ∧ x.xN = 0 ∧ x.xI = 0 ∧ x.xS.size = 0) ∨
  (x.xOp = 9 ∧ x.xN = 0 ∧ x.xI = 0 ∧ x.xS.size = 0)

theorem instr_k1 {nl np : Int} {x : DInstr} {i : Int} (h : x.xOp = 1) : InstrOk nl np x i ↔ 0 ≤ x.xN ∧ x.xN < np ∧ x.xI = 0 ∧ x.xS.size = 0 := by simp [InstrOk, h]

theorem instr_k2 {nl np : Int} {x : DInstr} {i : Int} (h : x.xOp = 2) : InstrOk nl np x i ↔ 0 ≤ x.xN ∧ x.xN ≤ 20 ∧ 0 ≤ x.xI ∧ x.xI ≤ 3 ∧ x.xS.size = 0 := by simp [InstrOk, h]

theorem instr_k3 {nl np : Int} {x : DInstr} {i : Int} (h : x.xOp = 3) : InstrOk nl np x i ↔ x.xN = 0 ∧ x.xI = 0 ∧ nameI x.xS = 1 := by simp [InstrOk, h]

theorem instr_k4 {nl np : Int} {x : DInstr} {i : Int} (h : x.xOp = 4) : InstrOk nl np x i ↔ i < x.xN ∧ x.xN ≤ nl ∧ x.xI = 0 ∧ x.xS.size = 0 := by simp [InstrOk, h]

theorem instr_k5 {nl np : Int} {x : DInstr} {i : Int} (h : x.xOp = 5) : InstrOk nl np x i ↔ i < x.xN ∧ x.xN ≤ nl ∧ x.xI = 0 ∧ x.xS.size = 0 := by simp [InstrOk, h]

theorem instr_k6 {nl np : Int} {x : DInstr} {i : Int} (h : x.xOp = 6) : InstrOk nl np x i ↔ i < x.xN ∧ x.xN < nl ∧ 0 ≤ x.xI ∧ x.xI ≤ 4 ∧ x.xS.size = 0 := by simp [InstrOk, h]

theorem instr_k7 {nl np : Int} {x : DInstr} {i : Int} (h : x.xOp = 7) : InstrOk nl np x i ↔ x.xN = 0 ∧ 0 ≤ x.xI ∧ x.xI ≤ 4 ∧ x.xS.size = 0 := by simp [InstrOk, h]

theorem instr_k8 {nl np : Int} {x : DInstr} {i : Int} (h : x.xOp = 8) : InstrOk nl np x i ↔ x.xN = 0 ∧ x.xI = 0 ∧ x.xS.size = 0 := by simp [InstrOk, h]

theorem instr_k9 {nl np : Int} {x : DInstr} {i : Int} (h : x.xOp = 9) : InstrOk nl np x i ↔ x.xN = 0 ∧ x.xI = 0 ∧ x.xS.size = 0 := by simp [InstrOk, h]

theorem instr_k0 {nl np : Int} {x : DInstr} {i : Int} (h1 : x.xOp ≠ 1) (h2 : x.xOp ≠ 2) (h3 : x.xOp ≠ 3) (h4 : x.xOp ≠ 4) (h5 : x.xOp ≠ 5) (h6 : x.xOp ≠ 6) (h7 : x.xOp ≠ 7) (h8 : x.xOp ≠ 8) (h9 : x.xOp ≠ 9) : ¬ InstrOk nl np x i := by simp [InstrOk, *]

noncomputable def instrOk (c : DCode) (x : DInstr) (i : Int) : Bool := clB (InstrOk c.xList.length c.xPool.xNodes.length x i)

set_option maxRecDepth 100000 in
set_option maxHeartbeats 1000000 in
theorem s_l4Instr_ok (c : DCode) (ho : c.ok) (i : Int) (h0 : 0 ≤ i) (x : DInstr) (hx : c.xList[i.toNat]? = some x) : FnV Tryz.prog 231 [cV c, iV i] fun rs outs => rs = [bR (instrOk c x i)] ∧ outs = [] := by
  refine fn_ok (E := E6) τ_ok mixed Tryz.func231 (by rfl) (by rfl) false (by simp [Tryz.f231]) ?_
  obtain ⟨⟨hp, -⟩, ⟨hl, hI⟩, -⟩ := ho
  obtain ⟨oO, oN, oI, oS⟩ := hI x (List.mem_of_getElem? hx)
  have hi := (List.getElem?_eq_some_iff.1 hx).1
  conv => whnf
  refine ⟨by omega, _, by rw [List.getElem?_map, hx]; rfl, ?_⟩
  conv => whnf
  repeat' (first
    | (refine br_if (fun h => ?_) (fun h => ?_) <;> (try rw [h]) <;> (conv => whnf))
    | (refine (s_l1In_ok _ _ _).mono ?_; rintro _ _ ⟨rfl, rfl⟩; conv => whnf)
    | (refine (s_l2Has_ok c.xPool _ hp).mono ?_; rintro _ _ ⟨rfl, rfl⟩; conv => whnf)
    | (refine (s_NameOk_ok _ oS).mono ?_; rintro _ _ ⟨rfl, rfl⟩; conv => whnf)
    | (refine ⟨eqTyInstr, ?_⟩; conv => whnf)
    | fail)
  all_goals (
      refine bR_eq (Bool.eq_iff_iff.2 ?_)
      unfold instrOk
      rw [clB_t]
      simp only [eqVs, eqV, Bool.and_eq_true, Bool.and_eq_false_iff, Bool.true_and, Bool.and_true, eq_self, eqI_t, eqI_f, ltI_t, ltI_f, leI_t, leI_f, emp_t, emp_f, eqStr_self, eqI_self, true_and, and_true, false_iff, true_iff, nameI_t, nameI_f, notB_t, notB_f, decide_eq_true_eq, decide_eq_false_iff_not, Bool.false_eq_true, List.length_map] at *
      first
      | (rw [instr_k1 ‹_›] <;> omega) | (rw [instr_k2 ‹_›] <;> omega) | (rw [instr_k3 ‹_›] <;> omega) | (rw [instr_k4 ‹_›] <;> omega) | (rw [instr_k5 ‹_›] <;> omega) | (rw [instr_k6 ‹_›] <;> omega) | (rw [instr_k7 ‹_›] <;> omega) | (rw [instr_k8 ‹_›] <;> omega) | (rw [instr_k9 ‹_›] <;> omega)
      | exact instr_k0 ‹_› ‹_› ‹_› ‹_› ‹_› ‹_› ‹_› ‹_› ‹_›)

set_option maxRecDepth 100000 in
set_option maxHeartbeats 1000000 in
theorem i_instrOk_ok (c : DCode) (ho : c.ok) (i : Int) (h0 : 0 ≤ i) (x : DInstr) (hx : c.xList[i.toNat]? = some x) : FnV Tryz.prog 244 [cV c, iV i] fun rs outs => rs = [bR (instrOk c x i)] ∧ outs = [] := by
  refine fn_ok (E := E6) τ_ok mixed Tryz.func244 (by rfl) (by rfl) false (by simp [Tryz.f244]) ?_
  obtain ⟨⟨hp, -⟩, ⟨hl, hI⟩, -⟩ := ho
  obtain ⟨oO, oN, oI, oS⟩ := hI x (List.mem_of_getElem? hx)
  have hi := (List.getElem?_eq_some_iff.1 hx).1
  have w1 : wrp .i64 (i + 1) = i + 1 := wrp_i64 (by omega) (by omega)
  have w2 : wrp .i64 ((c.xList.length : Int) - 1) = c.xList.length - 1 := wrp_i64 (by omega) (by omega)
  conv => whnf
  refine ⟨by omega, _, by rw [List.getElem?_map, hx]; rfl, ?_⟩
  conv => whnf
  refine ⟨.calm 0 (.calm 1 (.calm 2 (.calm 3 (.calm 4 (.calm 5 (.calm 6 (.calm 7 (.calm 8 (.calm 9 (.calm 10 (.calm 11 .done))))))))))), by rfl, ?_⟩
  apply Exists.intro
  refine ⟨?_, ?_⟩
  · conv => whnf
    repeat (refine ⟨rfl, ?_⟩; conv => whnf)
    exact norm_wk (keep := [0, 1, 2, 4, 5, 6, 7, 8]) (kb := [2, 5]) (ρ := []) rfl
  conv => whnf
  repeat' (first
    | (refine br_if (fun h => ?_) (fun h => ?_) <;> (try rw [h]) <;> (conv => whnf))
    | (refine (i_within_ok _ _ _).mono ?_; rintro _ _ ⟨rfl, rfl⟩; conv => whnf)
    | (refine (i_isNode_ok c.xPool _ hp).mono ?_; rintro _ _ ⟨rfl, rfl⟩; conv => whnf)
    | (refine (i_NameOk_ok _ oS).mono ?_; rintro _ _ ⟨rfl, rfl⟩; conv => whnf)
    | fail)
  all_goals try (
      refine bR_eq (Bool.eq_iff_iff.2 ?_)
      unfold instrOk
      rw [clB_t]
      simp only [eqVs, eqV, Bool.and_eq_true, Bool.and_eq_false_iff, Bool.true_and, Bool.and_true, eq_self, eqI_t, eqI_f, ltI_t, ltI_f, leI_t, leI_f, emp_t, emp_f, eqStr_self, eqI_self, true_and, and_true, false_iff, true_iff, nameI_t, nameI_f, notB_t, notB_f, decide_eq_true_eq, decide_eq_false_iff_not, Bool.false_eq_true, List.length_map] at *
      first
      | (rw [instr_k1 ‹_›] <;> omega) | (rw [instr_k2 ‹_›] <;> omega) | (rw [instr_k3 ‹_›] <;> omega) | (rw [instr_k4 ‹_›] <;> omega) | (rw [instr_k5 ‹_›] <;> omega) | (rw [instr_k6 ‹_›] <;> omega) | (rw [instr_k7 ‹_›] <;> omega) | (rw [instr_k8 ‹_›] <;> omega) | (rw [instr_k9 ‹_›] <;> omega)
      | exact instr_k0 ‹_› ‹_› ‹_› ‹_› ‹_› ‹_› ‹_› ‹_› ‹_›)
  · refine ⟨.take 0 (.take 3 (.early 1 (.early 4 (.or 2 (.or 5 (.calm 6 (.calm 7 .done)) .nil) .nil)))), by rfl, ?_⟩
    apply Exists.intro
    refine ⟨?_, ?_⟩
    · conv => whnf
      repeat (first | (refine ⟨rfl, ?_⟩; conv => whnf) | (refine (i_within_ok _ _ _).mono ?_; rintro _ _ ⟨rfl, rfl⟩; conv => whnf))
      exact norm_wk (keep := [0, 1, 2, 4, 5, 6, 7, 8]) (kb := [2, 5]) (ρ := []) rfl
    conv => whnf
    repeat' (refine br_if (fun h => ?_) (fun h => ?_) <;> (try rw [h]) <;> (conv => whnf))
    all_goals (
        refine bR_eq (Bool.eq_iff_iff.2 ?_)
        unfold instrOk
        rw [clB_t]
        simp only [eqVs, eqV, Bool.and_eq_true, Bool.and_eq_false_iff, Bool.true_and, Bool.and_true, eq_self, eqI_t, eqI_f, ltI_t, ltI_f, leI_t, leI_f, emp_t, emp_f, eqStr_self, eqI_self, true_and, and_true, false_iff, true_iff, nameI_t, nameI_f, notB_t, notB_f, decide_eq_true_eq, decide_eq_false_iff_not, Bool.false_eq_true, List.length_map] at *
        first
        | (rw [instr_k1 ‹_›] <;> omega) | (rw [instr_k2 ‹_›] <;> omega) | (rw [instr_k3 ‹_›] <;> omega) | (rw [instr_k4 ‹_›] <;> omega) | (rw [instr_k5 ‹_›] <;> omega) | (rw [instr_k6 ‹_›] <;> omega) | (rw [instr_k7 ‹_›] <;> omega) | (rw [instr_k8 ‹_›] <;> omega) | (rw [instr_k9 ‹_›] <;> omega)
        | exact instr_k0 ‹_› ‹_› ‹_› ‹_› ‹_› ‹_› ‹_› ‹_› ‹_›)
  · refine ⟨.take 0 (.take 2 (.take 3 (.take 4 (.take 9 (.early 1 (.early 10 (.or 5 (.take 6 (.take 7 (.or 8 (.or 11 (.calm 12 (.calm 13 .done)) .nil) .nil))) .nil))))))), by rfl, ?_⟩
    apply Exists.intro
    refine ⟨?_, ?_⟩
    · conv => whnf
      repeat (first | (refine ⟨rfl, ?_⟩; conv => whnf) | (refine (i_within_ok _ _ _).mono ?_; rintro _ _ ⟨rfl, rfl⟩; conv => whnf))
      exact norm_wk (keep := [0, 1, 2, 4, 5, 6, 7, 8]) (kb := [2, 5]) (ρ := []) rfl
    conv => whnf
    repeat' (refine br_if (fun h => ?_) (fun h => ?_) <;> (try rw [h]) <;> (conv => whnf))
    all_goals (
        refine bR_eq (Bool.eq_iff_iff.2 ?_)
        unfold instrOk
        rw [clB_t]
        simp only [eqVs, eqV, Bool.and_eq_true, Bool.and_eq_false_iff, Bool.true_and, Bool.and_true, eq_self, eqI_t, eqI_f, ltI_t, ltI_f, leI_t, leI_f, emp_t, emp_f, eqStr_self, eqI_self, true_and, and_true, false_iff, true_iff, nameI_t, nameI_f, notB_t, notB_f, decide_eq_true_eq, decide_eq_false_iff_not, Bool.false_eq_true, List.length_map] at *
        first
        | (rw [instr_k1 ‹_›] <;> omega) | (rw [instr_k2 ‹_›] <;> omega) | (rw [instr_k3 ‹_›] <;> omega) | (rw [instr_k4 ‹_›] <;> omega) | (rw [instr_k5 ‹_›] <;> omega) | (rw [instr_k6 ‹_›] <;> omega) | (rw [instr_k7 ‹_›] <;> omega) | (rw [instr_k8 ‹_›] <;> omega) | (rw [instr_k9 ‹_›] <;> omega)
        | exact instr_k0 ‹_› ‹_› ‹_› ‹_› ‹_› ‹_› ‹_› ‹_› ‹_›)

end Go.Proofs.YtifodjnbcnbcpaaGreat.V

set_option linter.unusedVariables false

set_option linter.unusedSimpArgs false

namespace Go.Proofs.YtifodjnbcnbcpaaGreat.V

open Go

def MdE7 (f : Nat) : List Mode :=
  match f with
  | 48 => [.rd, .rd, .rd]
  | 54 => [.rd, .rd, .rd]
  | 188 => [.rd, .rd]
  | 190 => [.rd, .rd]
  | 198 => [.rd]
  | 211 => [.rd]
  | 231 => [.rd, .rd]
  | 232 => [.rd]
  | 244 => [.rd, .rd]
  | 245 => [.rd]
  | _ => []

def E7 : Env := ⟨τ, MdE7⟩

def CodeOk (c : DCode) : Prop :=
  poolOk c.xPool.xNodes = true ∧ c.xList.length ≤ 400 ∧ c.xDefs.length ≤ 20 ∧ (∀ (i : Nat) (x : DInstr), c.xList[i]? = some x → instrOk c x i = true) ∧
    ∀ (i : Nat) (d : DDef), c.xDefs[i]? = some d → nameOk d.xName = true ∧ defOf c d.xName = i ∧ 0 ≤ d.xAt ∧ d.xAt < c.xList.length ∧ 0 ≤ d.xArgs ∧ d.xArgs ≤ 4

noncomputable def codeOk (c : DCode) : Bool := clB (CodeOk c)

theorem codeOk_t {c : DCode} : codeOk c = true ↔ CodeOk c := clB_t

theorem codeOk_ff {c : DCode} (h : ¬ CodeOk c) : codeOk c = false := clB_f.2 h

set_option maxRecDepth 100000 in
set_option maxHeartbeats 1000000 in
theorem s_CodeOk_ok (c : DCode) (ho : c.ok) : FnV Tryz.prog 163 [cV c] fun rs outs => rs = [bR (codeOk c)] ∧ outs = [] := by
  refine fn_ok (E := E7) τ_ok mixed Tryz.func163 (by rfl) (by rfl) false (by simp [Tryz.f163]) ?_
  have hP := ho.1
  obtain ⟨hl, hI⟩ := ho.2.1
  obtain ⟨hd, hD⟩ := ho.2.2
  have w2 : wrp .i64 ((c.xList.length : Int) - 1) = c.xList.length - 1 := wrp_i64 (by omega) (by omega)
  conv => whnf
  refine (s_PoolOk_ok c.xPool hP).mono ?_
  rintro _ _ ⟨rfl, rfl⟩
  conv => whnf
  refine br_if (fun h1 => ?_) (fun h1 => ?_) <;> (try rw [h1]) <;> (conv => whnf)
  · exact bR_eq (codeOk_ff fun h => by rw [notB_t] at h1; rw [h.1] at h1; cases h1).symm
  rw [notB_f] at h1
  refine br_if (fun h2 => ?_) (fun h2 => ?_) <;> (try rw [h2]) <;> (conv => whnf)
  · exact bR_eq (codeOk_ff fun h => by rw [ltI_t, List.length_map] at h2; have := h.2.1; omega).symm
  rw [ltI_f, List.length_map] at h2
  refine br_if (fun h3 => ?_) (fun h3 => ?_) <;> (try rw [h3]) <;> (conv => whnf)
  · exact bR_eq (codeOk_ff fun h => by rw [ltI_t, List.length_map] at h3; have := h.2.2.1; omega).symm
  rw [ltI_f, List.length_map] at h3
  refine ⟨fun m s => ∃ (k : Int), s = ⟨[(1, .bptr 1 0 0), (2, .vals false [.sc (.bool false)]), (3, .vals false [.sc (.int .i64 k)])], [(1, ⟨0, c.x⟩)], []⟩ ∧ m = c.xList.length - k.toNat ∧ 0 ≤ k ∧ k ≤ c.xList.length ∧ ∀ (i : Nat) (x : DInstr), i < k.toNat → c.xList[i]? = some x → instrOk c x i = true,
    ⟨_, _, norm_wk (keep := [1, 2, 3]) (kb := [1]) (ρ := []) rfl, ⟨0, rfl, rfl, by omega, by omega, fun i x h => absurd h (by simp)⟩⟩, ?_⟩
  rintro m _ ⟨k, rfl, rfl, k0, k1, hk⟩
  conv => whnf
  refine br_if (fun h4 => ?_) (fun h4 => ?_) <;> (try rw [h4]) <;> (conv => whnf)
  · rw [ltI_t] at h4
    try rw [List.length_map] at h4
    obtain ⟨x, hx⟩ : ∃ x, c.xList[k.toNat]? = some x := ⟨_, List.getElem?_eq_getElem (by omega)⟩
    refine (s_l4Instr_ok c ho k k0 x hx).mono ?_
    rintro _ _ ⟨rfl, rfl⟩
    conv => whnf
    have ek : instrOk c x k = instrOk c x (k.toNat : Int) := by rw [Int.toNat_of_nonneg k0]
    refine br_if (fun h5 => ?_) (fun h5 => ?_) <;> (try rw [h5]) <;> (conv => whnf)
    · exact bR_eq (codeOk_ff fun h => by rw [notB_t, ek, h.2.2.2.1 _ x hx] at h5; cases h5).symm
    · rw [notB_f] at h5
      rw [wrp_i64 (x := k + 1) (by omega) (by omega)]
      refine ⟨c.xList.length - (k + 1).toNat, _, by omega, norm_wk (keep := [1, 2, 3]) (kb := [1]) (ρ := []) rfl, ⟨k + 1, rfl, rfl, by omega, by omega, ?_⟩⟩
      intro i y hi hy
      by_cases e : i = k.toNat
      · subst e
        rw [hx] at hy
        cases hy
        rw [← ek]
        exact h5
      · exact hk i y (by omega) hy
  rw [ltI_f] at h4
  try rw [List.length_map] at h4
  have hall : ∀ (i : Nat) (x : DInstr), c.xList[i]? = some x → instrOk c x i = true := fun i y hy => hk i y (by have := (List.getElem?_eq_some_iff.1 hy).1; omega) hy
  clear hk h4 k0 k1
  refine ⟨fun m s => ∃ (k : Int), s = ⟨[(1, .bptr 1 0 0), (2, .vals false [.sc (.bool false)]), (4, .vals false [.sc (.int .i64 k)])], [(1, ⟨0, c.x⟩)], []⟩ ∧ m = c.xDefs.length - k.toNat ∧ 0 ≤ k ∧ k ≤ c.xDefs.length ∧ ∀ (i : Nat) (d : DDef), i < k.toNat → c.xDefs[i]? = some d → nameOk d.xName = true ∧ defOf c d.xName = i ∧ 0 ≤ d.xAt ∧ d.xAt < c.xList.length ∧ 0 ≤ d.xArgs ∧ d.xArgs ≤ 4,
    ⟨_, _, norm_wk (keep := [1, 2, 4]) (kb := [1]) (ρ := []) rfl, ⟨0, rfl, rfl, by omega, by omega, fun i x h => absurd h (by simp)⟩⟩, ?_⟩
  rintro m _ ⟨k, rfl, rfl, k0, k1, hk⟩
  conv => whnf
  refine br_if (fun h4 => ?_) (fun h4 => ?_) <;> (try rw [h4]) <;> (conv => whnf)
  · rw [ltI_t] at h4
    try rw [List.length_map] at h4
    obtain ⟨x, hx⟩ : ∃ x, c.xDefs[k.toNat]? = some x := ⟨_, List.getElem?_eq_getElem (by omega)⟩
    obtain ⟨oS, oA, oR⟩ := hD x (List.mem_of_getElem? hx)
    refine ⟨by omega, _, by rw [List.getElem?_map, hx]; rfl, ?_⟩
    conv => whnf
    refine (s_NameOk_ok x.xName oS).mono ?_
    rintro _ _ ⟨rfl, rfl⟩
    conv => whnf
    refine br_if (fun h5 => ?_) (fun h5 => ?_) <;> (try rw [h5]) <;> (conv => whnf)
    · exact bR_eq (codeOk_ff fun h => by rw [notB_t, (h.2.2.2.2 _ x hx).1] at h5; cases h5).symm
    rw [notB_f] at h5
    refine (s_DefOf_ok c x.xName hd).mono ?_
    rintro _ _ ⟨rfl, rfl⟩
    conv => whnf
    refine br_if (fun h6 => ?_) (fun h6 => ?_) <;> (try rw [h6]) <;> (conv => whnf)
    · exact bR_eq (codeOk_ff fun h => by rw [notB_t, eqI_f] at h6; have := (h.2.2.2.2 _ x hx).2.1; omega).symm
    rw [notB_f, eqI_t] at h6
    refine (s_l1In_ok _ _ _).mono ?_
    rintro _ _ ⟨rfl, rfl⟩
    conv => whnf
    try rw [List.length_map]
    refine br_if (fun h7 => ?_) (fun h7 => ?_) <;> (try rw [h7]) <;> (conv => whnf)
    · exact bR_eq (codeOk_ff fun h => by rw [notB_t, decide_eq_false_iff_not] at h7; have := (h.2.2.2.2 _ x hx).2.2; omega).symm
    rw [notB_f, decide_eq_true_iff] at h7
    refine (s_l1In_ok _ _ _).mono ?_
    rintro _ _ ⟨rfl, rfl⟩
    conv => whnf
    refine br_if (fun h8 => ?_) (fun h8 => ?_) <;> (try rw [h8]) <;> (conv => whnf)
    · exact bR_eq (codeOk_ff fun h => by rw [notB_t, decide_eq_false_iff_not] at h8; have := (h.2.2.2.2 _ x hx).2.2; omega).symm
    rw [notB_f, decide_eq_true_iff] at h8
    rw [wrp_i64 (x := k + 1) (by omega) (by omega)]
    refine ⟨c.xDefs.length - (k + 1).toNat, _, by omega, norm_wk (keep := [1, 2, 4]) (kb := [1]) (ρ := []) rfl, ⟨k + 1, rfl, rfl, by omega, by omega, ?_⟩⟩
    intro i y hi hy
    by_cases e : i = k.toNat
    · subst e
      rw [hx] at hy
      cases hy
      exact ⟨h5, by omega, by omega, by omega, by omega, by omega⟩
    · exact hk i y (by omega) hy
  · rw [ltI_f] at h4
    try rw [List.length_map] at h4
    exact bR_eq (codeOk_t.2 ⟨h1, by omega, by omega, hall, fun i y hy => hk i y (by have := (List.getElem?_eq_some_iff.1 hy).1; omega) hy⟩).symm

set_option maxRecDepth 100000 in
set_option maxHeartbeats 1000000 in
theorem i_CodeOk_ok (c : DCode) (ho : c.ok) : FnV Tryz.prog 176 [cV c] fun rs outs => rs = [bR (codeOk c)] ∧ outs = [] := by
  refine fn_ok (E := E7) τ_ok mixed Tryz.func176 (by rfl) (by rfl) false (by simp [Tryz.f176]) ?_
  have hP := ho.1
  obtain ⟨hl, hI⟩ := ho.2.1
  obtain ⟨hd, hD⟩ := ho.2.2
  have w2 : wrp .i64 ((c.xList.length : Int) - 1) = c.xList.length - 1 := wrp_i64 (by omega) (by omega)
  conv => whnf
  refine (i_PoolOk_ok c.xPool hP).mono ?_
  rintro _ _ ⟨rfl, rfl⟩
  conv => whnf
  refine br_if (fun h1 => ?_) (fun h1 => ?_) <;> (try rw [h1]) <;> (conv => whnf)
  · exact bR_eq (codeOk_ff fun h => by rw [notB_t] at h1; rw [h.1] at h1; cases h1).symm
  rw [notB_f] at h1
  refine br_if (fun h2 => ?_) (fun h2 => ?_) <;> (try rw [h2]) <;> (conv => whnf)
  · exact bR_eq (codeOk_ff fun h => by rw [ltI_t, List.length_map] at h2; have := h.2.1; omega).symm
  rw [ltI_f, List.length_map] at h2
  refine br_if (fun h3 => ?_) (fun h3 => ?_) <;> (try rw [h3]) <;> (conv => whnf)
  · exact bR_eq (codeOk_ff fun h => by rw [ltI_t, List.length_map] at h3; have := h.2.2.1; omega).symm
  rw [ltI_f, List.length_map] at h3
  refine ⟨fun m s => ∃ (k : Int), s = ⟨[(1, .bptr 1 0 0), (2, .vals false [.sc (.bool false)]), (24, .vals false [.sc (.int .i64 c.xList.length)]), (25, .vals false [.sc (.int .i64 k)])], [(1, ⟨0, c.x⟩)], []⟩ ∧ m = c.xList.length - k.toNat ∧ 0 ≤ k ∧ k ≤ c.xList.length ∧ ∀ (i : Nat) (x : DInstr), i < k.toNat → c.xList[i]? = some x → instrOk c x i = true,
    ⟨_, _, norm_wk (keep := [1, 2, 24, 25]) (kb := [1]) (ρ := []) rfl, ⟨0, by rw [List.length_map], rfl, by omega, by omega, fun i x h => absurd h (by simp)⟩⟩, ?_⟩
  rintro m _ ⟨k, rfl, rfl, k0, k1, hk⟩
  conv => whnf
  refine br_if (fun h4 => ?_) (fun h4 => ?_) <;> (try rw [h4]) <;> (conv => whnf)
  · rw [ltI_t] at h4
    try rw [List.length_map] at h4
    obtain ⟨x, hx⟩ : ∃ x, c.xList[k.toNat]? = some x := ⟨_, List.getElem?_eq_getElem (by omega)⟩
    refine (i_instrOk_ok c ho k k0 x hx).mono ?_
    rintro _ _ ⟨rfl, rfl⟩
    conv => whnf
    have ek : instrOk c x k = instrOk c x (k.toNat : Int) := by rw [Int.toNat_of_nonneg k0]
    refine br_if (fun h5 => ?_) (fun h5 => ?_) <;> (try rw [h5]) <;> (conv => whnf)
    · exact bR_eq (codeOk_ff fun h => by rw [notB_t, ek, h.2.2.2.1 _ x hx] at h5; cases h5).symm
    · rw [notB_f] at h5
      rw [wrp_i64 (x := k + 1) (by omega) (by omega)]
      refine ⟨c.xList.length - (k + 1).toNat, _, by omega, norm_wk (keep := [1, 2, 24, 25]) (kb := [1]) (ρ := []) rfl, ⟨k + 1, rfl, rfl, by omega, by omega, ?_⟩⟩
      intro i y hi hy
      by_cases e : i = k.toNat
      · subst e
        rw [hx] at hy
        cases hy
        rw [← ek]
        exact h5
      · exact hk i y (by omega) hy
  rw [ltI_f] at h4
  try rw [List.length_map] at h4
  have hall : ∀ (i : Nat) (x : DInstr), c.xList[i]? = some x → instrOk c x i = true := fun i y hy => hk i y (by have := (List.getElem?_eq_some_iff.1 hy).1; omega) hy
  clear hk h4 k0 k1
  refine ⟨fun m s => ∃ (k : Int), s = ⟨[(1, .bptr 1 0 0), (2, .vals false [.sc (.bool false)]), (34, .vals false [.rd none 3 (c.xDefs.map DDef.c)]), (35, .vals false [.sc (.int .i64 c.xDefs.length)]), (36, .vals false [.sc (.int .i64 k)])], [(1, ⟨0, c.x⟩)], []⟩ ∧ m = c.xDefs.length - k.toNat ∧ 0 ≤ k ∧ k ≤ c.xDefs.length ∧ ∀ (i : Nat) (d : DDef), i < k.toNat → c.xDefs[i]? = some d → nameOk d.xName = true ∧ defOf c d.xName = i ∧ 0 ≤ d.xAt ∧ d.xAt < c.xList.length ∧ 0 ≤ d.xArgs ∧ d.xArgs ≤ 4,
    ⟨_, _, norm_wk (keep := [1, 2, 34, 35, 36]) (kb := [1]) (ρ := []) rfl, ⟨0, by rw [List.length_map], rfl, by omega, by omega, fun i x h => absurd h (by simp)⟩⟩, ?_⟩
  rintro m _ ⟨k, rfl, rfl, k0, k1, hk⟩
  conv => whnf
  refine br_if (fun h4 => ?_) (fun h4 => ?_) <;> (try rw [h4]) <;> (conv => whnf)
  · rw [ltI_t] at h4
    try rw [List.length_map] at h4
    obtain ⟨x, hx⟩ : ∃ x, c.xDefs[k.toNat]? = some x := ⟨_, List.getElem?_eq_getElem (by omega)⟩
    obtain ⟨oS, oA, oR⟩ := hD x (List.mem_of_getElem? hx)
    refine ⟨by omega, _, by rw [List.getElem?_map, hx]; rfl, ?_⟩
    conv => whnf
    refine (i_NameOk_ok x.xName oS).mono ?_
    rintro _ _ ⟨rfl, rfl⟩
    conv => whnf
    refine br_if (fun h5 => ?_) (fun h5 => ?_) <;> (try rw [h5]) <;> (conv => whnf)
    · exact bR_eq (codeOk_ff fun h => by rw [notB_t, (h.2.2.2.2 _ x hx).1] at h5; cases h5).symm
    rw [notB_f] at h5
    refine (i_DefOf_ok c x.xName hd).mono ?_
    rintro _ _ ⟨rfl, rfl⟩
    conv => whnf
    refine br_if (fun h6 => ?_) (fun h6 => ?_) <;> (try rw [h6]) <;> (conv => whnf)
    · exact bR_eq (codeOk_ff fun h => by rw [notB_t, eqI_f] at h6; have := (h.2.2.2.2 _ x hx).2.1; omega).symm
    rw [notB_f, eqI_t] at h6
    refine (i_within_ok _ _ _).mono ?_
    rintro _ _ ⟨rfl, rfl⟩
    conv => whnf
    try rw [List.length_map]
    refine br_if (fun h7 => ?_) (fun h7 => ?_) <;> (try rw [h7]) <;> (conv => whnf)
    · exact bR_eq (codeOk_ff fun h => by rw [notB_t, decide_eq_false_iff_not] at h7; have := (h.2.2.2.2 _ x hx).2.2; omega).symm
    rw [notB_f, decide_eq_true_iff] at h7
    refine (i_within_ok _ _ _).mono ?_
    rintro _ _ ⟨rfl, rfl⟩
    conv => whnf
    refine br_if (fun h8 => ?_) (fun h8 => ?_) <;> (try rw [h8]) <;> (conv => whnf)
    · exact bR_eq (codeOk_ff fun h => by rw [notB_t, decide_eq_false_iff_not] at h8; have := (h.2.2.2.2 _ x hx).2.2; omega).symm
    rw [notB_f, decide_eq_true_iff] at h8
    rw [wrp_i64 (x := k + 1) (by omega) (by omega)]
    refine ⟨c.xDefs.length - (k + 1).toNat, _, by omega, norm_wk (keep := [1, 2, 34, 35, 36]) (kb := [1]) (ρ := []) rfl, ⟨k + 1, rfl, rfl, by omega, by omega, ?_⟩⟩
    intro i y hi hy
    by_cases e : i = k.toNat
    · subst e
      rw [hx] at hy
      cases hy
      exact ⟨h5, by omega, by omega, by omega, by omega, by omega⟩
    · exact hk i y (by omega) hy
  · rw [ltI_f] at h4
    try rw [List.length_map] at h4
    exact bR_eq (codeOk_t.2 ⟨h1, by omega, by omega, hall, fun i y hy => hk i y (by have := (List.getElem?_eq_some_iff.1 hy).1; omega) hy⟩).symm

end Go.Proofs.YtifodjnbcnbcpaaGreat.V

set_option linter.unusedVariables false

set_option linter.unusedSimpArgs false

namespace Go.Proofs.YtifodjnbcnbcpaaGreat.V

open Go

def MdE8 (f : Nat) : List Mode :=
  match f with
  | 48 => [.rd, .rd, .rd]
  | 54 => [.rd, .rd, .rd]
  | 163 => [.rd]
  | 176 => [.rd]
  | 198 => [.rd]
  | 199 => [.rd, .rd]
  | 211 => [.rd]
  | 212 => [.rd, .rd]
  | 213 => [.rd, .rd]
  | _ => []

def E8 : Env := ⟨τ, MdE8⟩

def MState (nl np : Int) (m : DMachine) : Prop :=
  (m.xState = 0 ∧ 0 ≤ m.xAt ∧ m.xAt < nl ∧ m.xAsk = 0 ∧ m.xArg = 0) ∨ (m.xState = 1 ∧ 0 ≤ m.xAt ∧ m.xAt < nl ∧ 13 ≤ m.xAsk ∧ m.xAsk ≤ 19 ∧ m.xAsk ≠ 18 ∧ 0 ≤ m.xArg ∧ m.xArg < np) ∨ (m.xState = 2 ∧ m.xAt = 0 ∧ m.xAsk = 0 ∧ 0 ≤ m.xArg ∧ m.xArg < np) ∨ (m.xState = 3 ∧ m.xAt = 0 ∧ 1 ≤ m.xAsk ∧ m.xAsk ≤ 7 ∧ m.xArg = 0)

theorem mst_k0 {nl np : Int} {m : DMachine} (h : m.xState = 0) : MState nl np m ↔ 0 ≤ m.xAt ∧ m.xAt < nl ∧ m.xAsk = 0 ∧ m.xArg = 0 := by simp [MState, h]

theorem mst_k1 {nl np : Int} {m : DMachine} (h : m.xState = 1) : MState nl np m ↔ 0 ≤ m.xAt ∧ m.xAt < nl ∧ 13 ≤ m.xAsk ∧ m.xAsk ≤ 19 ∧ m.xAsk ≠ 18 ∧ 0 ≤ m.xArg ∧ m.xArg < np := by simp [MState, h]

theorem mst_k2 {nl np : Int} {m : DMachine} (h : m.xState = 2) : MState nl np m ↔ m.xAt = 0 ∧ m.xAsk = 0 ∧ 0 ≤ m.xArg ∧ m.xArg < np := by simp [MState, h]

theorem mst_k3 {nl np : Int} {m : DMachine} (h : m.xState = 3) : MState nl np m ↔ m.xAt = 0 ∧ 1 ≤ m.xAsk ∧ m.xAsk ≤ 7 ∧ m.xArg = 0 := by simp [MState, h]

theorem mst_ko {nl np : Int} {m : DMachine} (h0 : m.xState ≠ 0) (h1 : m.xState ≠ 1) (h2 : m.xState ≠ 2) (h3 : m.xState ≠ 3) : ¬ MState nl np m := by simp [MState, *]

def Has (p : DPool) (v : Int) : Prop := 0 ≤ v ∧ v < p.xNodes.length

def MachineOk (c : DCode) (m : DMachine) : Prop :=
  codeOk c = true ∧ poolOk m.xPool.xNodes = true ∧ Has m.xPool m.xS ∧ Has m.xPool m.xE ∧ Has m.xPool m.xD ∧ MState c.xList.length m.xPool.xNodes.length m

noncomputable def machineOk (c : DCode) (m : DMachine) : Bool := clB (MachineOk c m)

theorem machineOk_t {c : DCode} {m : DMachine} : machineOk c m = true ↔ MachineOk c m := clB_t

theorem machineOk_ff {c : DCode} {m : DMachine} (h : ¬ MachineOk c m) : machineOk c m = false := clB_f.2 h

@[reducible] def mV (m : DMachine) : AV := .rdv true m.c

set_option maxRecDepth 100000 in
set_option maxHeartbeats 1000000 in
theorem s_MachineOk_ok (c : DCode) (m : DMachine) (ho : c.ok) (hm : m.ok) : FnV Tryz.prog 145 [cV c, mV m] fun rs outs => rs = [bR (machineOk c m)] ∧ outs = [] := by
  refine fn_ok (E := E8) τ_ok mixed Tryz.func145 (by rfl) (by rfl) false (by simp [Tryz.f145]) ?_
  have hP := hm.1
  have hp := hm.1.1
  have hl := ho.2.1.1
  have w2 : wrp .i64 ((c.xList.length : Int) - 1) = c.xList.length - 1 := wrp_i64 (by omega) (by omega)
  conv => whnf
  refine (s_CodeOk_ok c ho).mono ?_
  rintro _ _ ⟨rfl, rfl⟩
  conv => whnf
  refine br_if (fun h1 => ?_) (fun h1 => ?_) <;> (try rw [h1]) <;> (conv => whnf)
  · exact bR_eq (machineOk_ff fun h => by rw [notB_t, h.1] at h1; cases h1).symm
  rw [notB_f] at h1
  refine (s_PoolOk_ok m.xPool hP).mono ?_
  rintro _ _ ⟨rfl, rfl⟩
  conv => whnf
  refine br_if (fun h2 => ?_) (fun h2 => ?_) <;> (try rw [h2]) <;> (conv => whnf)
  · exact bR_eq (machineOk_ff fun h => by rw [notB_t, h.2.1] at h2; cases h2).symm
  rw [notB_f] at h2
  refine (s_l2Has_ok m.xPool _ hp).mono ?_
  rintro _ _ ⟨rfl, rfl⟩
  conv => whnf
  refine br_if (fun h3 => ?_) (fun h3 => ?_) <;> (try rw [h3]) <;> (conv => whnf)
  · exact bR_eq (machineOk_ff fun h => by rw [notB_t, decide_eq_false_iff_not] at h3; exact h3 h.2.2.1).symm
  rw [notB_f, decide_eq_true_iff] at h3
  refine (s_l2Has_ok m.xPool _ hp).mono ?_
  rintro _ _ ⟨rfl, rfl⟩
  conv => whnf
  refine br_if (fun h4 => ?_) (fun h4 => ?_) <;> (try rw [h4]) <;> (conv => whnf)
  · exact bR_eq (machineOk_ff fun h => by rw [notB_t, decide_eq_false_iff_not] at h4; exact h4 h.2.2.2.1).symm
  rw [notB_f, decide_eq_true_iff] at h4
  refine (s_l2Has_ok m.xPool _ hp).mono ?_
  rintro _ _ ⟨rfl, rfl⟩
  conv => whnf
  refine br_if (fun h5 => ?_) (fun h5 => ?_) <;> (try rw [h5]) <;> (conv => whnf)
  · exact bR_eq (machineOk_ff fun h => by rw [notB_t, decide_eq_false_iff_not] at h5; exact h5 h.2.2.2.2.1).symm
  rw [notB_f, decide_eq_true_iff] at h5
  have e : machineOk c m = clB (MState c.xList.length m.xPool.xNodes.length m) := by
    rw [Bool.eq_iff_iff, machineOk_t, clB_t]
    exact ⟨fun h => h.2.2.2.2.2, fun h => ⟨h1, h2, h3, h4, h5, h⟩⟩
  rw [e]
  repeat' (first
    | (refine br_if (fun h => ?_) (fun h => ?_) <;> (try rw [h]) <;> (conv => whnf))
    | (refine (s_l1In_ok _ _ _).mono ?_; rintro _ _ ⟨rfl, rfl⟩; conv => whnf)
    | (refine (s_l2Has_ok m.xPool _ hp).mono ?_; rintro _ _ ⟨rfl, rfl⟩; conv => whnf)
    | fail)
  all_goals refine bR_eq (Bool.eq_iff_iff.2 ?_)
  all_goals rw [clB_t]
  all_goals clear hm hP ho
  all_goals simp only [eqI_t, eqI_f, ltI_t, ltI_f, leI_t, leI_f, true_and, and_true, false_iff, true_iff, notB_t, notB_f, decide_eq_true_eq, decide_eq_false_iff_not, Bool.false_eq_true, List.length_map] at *
  all_goals first
  | (rw [mst_k0 ‹_›] <;> omega) | (rw [mst_k1 ‹_›] <;> omega) | (rw [mst_k2 ‹_›] <;> omega) | (rw [mst_k3 ‹_›] <;> omega)
  | exact mst_ko ‹_› ‹_› ‹_› ‹_›

set_option maxRecDepth 100000 in
set_option maxHeartbeats 1000000 in
theorem i_MachineOk_ok (c : DCode) (m : DMachine) (ho : c.ok) (hm : m.ok) : FnV Tryz.prog 151 [cV c, mV m] fun rs outs => rs = [bR (machineOk c m)] ∧ outs = [] := by
  refine fn_ok (E := E8) τ_ok mixed Tryz.func151 (by rfl) (by rfl) false (by simp [Tryz.f151]) ?_
  have hP := hm.1
  have hp := hm.1.1
  have hl := ho.2.1.1
  have w2 : wrp .i64 ((c.xList.length : Int) - 1) = c.xList.length - 1 := wrp_i64 (by omega) (by omega)
  conv => whnf
  refine (i_CodeOk_ok c ho).mono ?_
  rintro _ _ ⟨rfl, rfl⟩
  conv => whnf
  refine br_if (fun h1 => ?_) (fun h1 => ?_) <;> (try rw [h1]) <;> (conv => whnf)
  · exact bR_eq (machineOk_ff fun h => by rw [notB_t, h.1] at h1; cases h1).symm
  rw [notB_f] at h1
  refine (i_PoolOk_ok m.xPool hP).mono ?_
  rintro _ _ ⟨rfl, rfl⟩
  conv => whnf
  refine br_if (fun h2 => ?_) (fun h2 => ?_) <;> (try rw [h2]) <;> (conv => whnf)
  · exact bR_eq (machineOk_ff fun h => by rw [notB_t, h.2.1] at h2; cases h2).symm
  rw [notB_f] at h2
  refine (i_isNode_ok m.xPool _ hp).mono ?_
  rintro _ _ ⟨rfl, rfl⟩
  conv => whnf
  refine br_if (fun h3 => ?_) (fun h3 => ?_) <;> (try rw [h3]) <;> (conv => whnf)
  · exact bR_eq (machineOk_ff fun h => by rw [notB_t, decide_eq_false_iff_not] at h3; exact h3 h.2.2.1).symm
  rw [notB_f, decide_eq_true_iff] at h3
  refine (i_isNode_ok m.xPool _ hp).mono ?_
  rintro _ _ ⟨rfl, rfl⟩
  conv => whnf
  refine br_if (fun h4 => ?_) (fun h4 => ?_) <;> (try rw [h4]) <;> (conv => whnf)
  · exact bR_eq (machineOk_ff fun h => by rw [notB_t, decide_eq_false_iff_not] at h4; exact h4 h.2.2.2.1).symm
  rw [notB_f, decide_eq_true_iff] at h4
  refine (i_isNode_ok m.xPool _ hp).mono ?_
  rintro _ _ ⟨rfl, rfl⟩
  conv => whnf
  refine br_if (fun h5 => ?_) (fun h5 => ?_) <;> (try rw [h5]) <;> (conv => whnf)
  · exact bR_eq (machineOk_ff fun h => by rw [notB_t, decide_eq_false_iff_not] at h5; exact h5 h.2.2.2.2.1).symm
  rw [notB_f, decide_eq_true_iff] at h5
  have e : machineOk c m = clB (MState c.xList.length m.xPool.xNodes.length m) := by
    rw [Bool.eq_iff_iff, machineOk_t, clB_t]
    exact ⟨fun h => h.2.2.2.2.2, fun h => ⟨h1, h2, h3, h4, h5, h⟩⟩
  rw [e]
  repeat' (first
    | (refine br_if (fun h => ?_) (fun h => ?_) <;> (try rw [h]) <;> (conv => whnf))
    | (refine (i_within_ok _ _ _).mono ?_; rintro _ _ ⟨rfl, rfl⟩; conv => whnf)
    | (refine (i_isNode_ok m.xPool _ hp).mono ?_; rintro _ _ ⟨rfl, rfl⟩; conv => whnf)
    | (refine (i_isPlace_ok c _ hl).mono ?_; rintro _ _ ⟨rfl, rfl⟩; conv => whnf)
    | fail)
  all_goals refine bR_eq (Bool.eq_iff_iff.2 ?_)
  all_goals rw [clB_t]
  all_goals clear hm hP ho
  all_goals simp only [eqI_t, eqI_f, ltI_t, ltI_f, leI_t, leI_f, true_and, and_true, false_iff, true_iff, notB_t, notB_f, decide_eq_true_eq, decide_eq_false_iff_not, Bool.false_eq_true, List.length_map] at *
  all_goals first
  | (rw [mst_k0 ‹_›] <;> omega) | (rw [mst_k1 ‹_›] <;> omega) | (rw [mst_k2 ‹_›] <;> omega) | (rw [mst_k3 ‹_›] <;> omega)
  | exact mst_ko ‹_› ‹_› ‹_› ‹_›

end Go.Proofs.YtifodjnbcnbcpaaGreat.V

set_option linter.unusedVariables false

set_option linter.unusedSimpArgs false

namespace Go.Proofs.YtifodjnbcnbcpaaGreat.V

open Go

def MdE10 (f : Nat) : List Mode :=
  match f with
  | _ => []

def E10 : Env := ⟨τ, MdE10⟩

@[reducible] def bbC (v : List Bool) : List (List C) := v.map fun b => [.sc (.bool b)]

@[reducible] def nnC (v : List Int) : List (List C) := v.map fun b => [.sc (.int .i64 b)]

@[reducible] def nnV (v : List Int) : AV := .rdv false [.sl true 1 (nnC v)]

@[reducible] def bbR (v : List Bool) : RV := ⟨false, [.own true 1 (bbC v)]⟩

def mkB (v : List Bool) (i : Int) : List Bool := v.set i.toNat true

def stepR (l : List DNode) (v : List Bool) (i : Nat) : List Bool :=
  match l[i]? with
  | none => v
  | some x => if v[i]? = some true then (if x.xKind = 5 then mkB (mkB v x.xA) x.xB else if x.xKind = 6 ∨ x.xKind = 7 then mkB v x.xA else v) else v

def reachD (l : List DNode) (v : List Bool) : Nat → List Bool
  | 0 => v
  | k + 1 => reachD l (stepR l v k) k

def reachL (l : List DNode) (roots : List Int) : List Bool := reachD l (roots.foldl mkB (List.replicate l.length false)) l.length

theorem mkB_len (v : List Bool) (i : Int) : (mkB v i).length = v.length := by simp [mkB]

theorem foldB_len (r : List Int) : ∀ v : List Bool, (r.foldl mkB v).length = v.length := by
  induction r with
  | nil => exact fun _ => rfl
  | cons x r ih => intro v; rw [List.foldl_cons, ih, mkB_len]

theorem stepR_len (l : List DNode) (v : List Bool) (i : Nat) : (stepR l v i).length = v.length := by
  unfold stepR
  split
  · rfl
  · split
    · split
      · rw [mkB_len, mkB_len]
      · split
        · rw [mkB_len]
        · rfl
    · rfl

theorem bbC_at {v : List Bool} {i : Int} (h0 : 0 ≤ i) (h1 : i < v.length) : ∃ b, v[i.toNat]? = some b ∧ (bbC v)[i.toNat]? = some [.sc (.bool b)] := by
  refine ⟨v[i.toNat], List.getElem?_eq_getElem (by omega), ?_⟩
  rw [List.getElem?_map, List.getElem?_eq_getElem (by omega)]
  rfl

theorem bbC_set (v : List Bool) (i : Int) : (bbC v).set i.toNat [.sc (.bool true)] = bbC (mkB v i) := by
  rw [mkB, bbC, bbC, List.map_set]

theorem reachD_step (l : List DNode) (v : List Bool) (k : Int) (h : 0 ≤ k) : reachD l v (k + 1).toNat = reachD l (stepR l v k.toNat) k.toNat := by
  rw [show (k + 1).toNat = k.toNat + 1 by omega]
  rfl

theorem step_off {l : List DNode} {v : List Bool} {i : Nat} {x : DNode} (hx : l[i]? = some x) (hv : v[i]? = some false) : stepR l v i = v := by
  simp [stepR, hx, hv]

theorem step_5 {l : List DNode} {v : List Bool} {i : Nat} {x : DNode} (hx : l[i]? = some x) (hv : v[i]? = some true) (hk : x.xKind = 5) : stepR l v i = mkB (mkB v x.xA) x.xB := by
  simp [stepR, hx, hv, hk]

theorem step_67 {l : List DNode} {v : List Bool} {i : Nat} {x : DNode} (hx : l[i]? = some x) (hv : v[i]? = some true) (hk : x.xKind = 6 ∨ x.xKind = 7) : stepR l v i = mkB v x.xA := by
  rcases hk with hk | hk <;> simp [stepR, hx, hv, hk]

theorem step_o {l : List DNode} {v : List Bool} {i : Nat} {x : DNode} (hx : l[i]? = some x) (h5 : x.xKind ≠ 5) (h6 : x.xKind ≠ 6) (h7 : x.xKind ≠ 7) : stepR l v i = v := by
  simp [stepR, hx, h5, h6, h7]

theorem kids_5 {l : List DNode} (hp : poolOk l = true) {i : Nat} {x : DNode} (hx : l[i]? = some x) (hk : x.xKind = 5) : (0 ≤ x.xA ∧ x.xA < i) ∧ 0 ≤ x.xB ∧ x.xB < i := by
  have := (node_k5 hk).1 ((poolOk_t.1 hp).2 i x hx)
  omega

theorem kids_67 {l : List DNode} (hp : poolOk l = true) {i : Nat} {x : DNode} (hx : l[i]? = some x) (hk : x.xKind = 6 ∨ x.xKind = 7) : 0 ≤ x.xA ∧ x.xA < i := by
  rcases hk with hk | hk
  · have := (node_k6 hk).1 ((poolOk_t.1 hp).2 i x hx)
    omega
  · have := (node_k7 hk).1 ((poolOk_t.1 hp).2 i x hx)
    omega

theorem reachD_len (l : List DNode) : ∀ (k : Nat) (v : List Bool), (reachD l v k).length = v.length
  | 0, _ => rfl
  | k + 1, v => by
    show (reachD l (stepR l v k) k).length = v.length
    rw [reachD_len l k, stepR_len]

theorem reachL_len (l : List DNode) (roots : List Int) : (reachL l roots).length = l.length := by
  rw [reachL, reachD_len, foldB_len, List.length_replicate]

set_option maxRecDepth 100000 in
set_option maxHeartbeats 1000000 in
theorem s_l7Reach_ok (p : DPool) (roots : List Int) (hl : p.xNodes.length ≤ 1000000) (hp : poolOk p.xNodes = true) (hr : roots.length ≤ 1000000) (hR : ∀ r ∈ roots, Has p r) :
    FnV Tryz.prog 323 [pV p, nnV roots] fun rs outs => rs = [bbR (reachL p.xNodes roots)] ∧ outs = [] := by
  refine fn_ok (E := E10) τ_ok mixed Tryz.func323 (by rfl) (by rfl) false (by simp [Tryz.f323]) ?_
  have hrep : List.replicate (((p.xNodes.map DNode.c).length : Int)).toNat (List.map zC d4.zero) = bbC (List.replicate p.xNodes.length false) := by
    rw [List.length_map, Int.toNat_natCast, bbC, List.map_replicate]
    rfl
  have hnl : (p.xNodes.map DNode.c).length = p.xNodes.length := List.length_map ..
  have hrl : (nnC roots).length = roots.length := List.length_map ..
  conv => whnf
  refine ⟨by omega, rfl, by rw [hnl]; simp only [d4]; omega, by omega, ?_⟩
  rw [hrep]
  conv => whnf
  refine ⟨fun m s => ∃ (k : Int), s = ⟨[(1, .vals false [.rd none 1 (nnC roots)]), (2, .bptr 2 0 0), (5, .vals false [.ref 100 0]), (6, .vals false [.sc (.int .i64 k)])], [(2, ⟨0, [.rd none 5 (p.xNodes.map DNode.c)]⟩)], [(100, ⟨true, 0, 0, true, 1, bbC ((roots.take k.toNat).foldl mkB (List.replicate p.xNodes.length false))⟩)]⟩ ∧ m = roots.length - k.toNat ∧ 0 ≤ k ∧ k ≤ roots.length,
    ⟨_, _, norm_wk (keep := [1, 2, 5, 6]) (kb := [2]) (ρ := [(12, some 100)]) rfl, ⟨0, rfl, rfl, by omega, by omega⟩⟩, ?_⟩
  rintro m _ ⟨k, rfl, rfl, k0, k1⟩
  conv => whnf
  refine br_if (fun h => ?_) (fun h => ?_) <;> (try rw [h]) <;> (conv => whnf)
  · rw [ltI_t] at h
    obtain ⟨r, hx⟩ : ∃ x, roots[k.toNat]? = some x := ⟨_, List.getElem?_eq_getElem (by omega)⟩
    refine ⟨by omega, _, by rw [List.getElem?_map, hx]; rfl, ?_⟩
    conv => whnf
    have hH := hR r (List.mem_of_getElem? hx)
    have hvl : (bbC ((roots.take k.toNat).foldl mkB (List.replicate p.xNodes.length false))).length = p.xNodes.length := by rw [bbC, List.length_map, foldB_len, List.length_replicate]
    refine ⟨hH.1, by rw [hvl]; exact hH.2, ?_⟩
    conv => whnf
    obtain ⟨b, -, hat⟩ := bbC_at (v := (roots.take k.toNat).foldl mkB (List.replicate p.xNodes.length false)) hH.1 (by rw [foldB_len, List.length_replicate]; exact hH.2)
    refine ⟨_, hat, ?_⟩
    conv => whnf
    rw [wrp_i64 (x := k + 1) (by omega) (by omega)]
    refine ⟨roots.length - (k + 1).toNat, _, by omega, norm_wk (keep := [1, 2, 5, 6]) (kb := [2]) (ρ := [(100, some 100)]) rfl, ⟨k + 1, ?_, rfl, by omega, by omega⟩⟩
    rw [show (k + 1).toNat = k.toNat + 1 by omega, List.take_add_one, hx, List.foldl_append]
    generalize (roots.take k.toNat).foldl mkB (List.replicate p.xNodes.length false) = v
    rw [show List.foldl mkB v (some r).toList = mkB v r from rfl, ← bbC_set]
    rfl
  rw [ltI_f] at h
  rw [List.take_of_length_le (by omega)]
  rw [hnl, wrp_i64 (by omega) (by omega)]
  refine ⟨fun m s => ∃ (k : Int) (v : List Bool), s = ⟨[(2, .bptr 2 0 0), (5, .vals false [.ref 100 0]), (7, .vals false [.sc (.int .i64 k)])], [(2, ⟨0, [.rd none 5 (p.xNodes.map DNode.c)]⟩)], [(100, ⟨true, 0, 0, true, 1, bbC v⟩)]⟩ ∧ m = (k + 1).toNat ∧ -1 ≤ k ∧ k < p.xNodes.length ∧ v.length = p.xNodes.length ∧ reachD p.xNodes v (k + 1).toNat = reachL p.xNodes roots,
    ⟨_, _, norm_wk (keep := [2, 5, 7]) (kb := [2]) (ρ := [(100, some 100)]) rfl, ⟨p.xNodes.length - 1, _, rfl, rfl, by omega, by omega, by rw [foldB_len, List.length_replicate], ?_⟩⟩, ?_⟩
  · rw [show ((p.xNodes.length : Int) - 1 + 1).toNat = p.xNodes.length by omega]
    rfl
  clear k0 k1 h k
  rintro m _ ⟨k, v, rfl, rfl, k0, k1, hv, hk⟩
  conv => whnf
  refine br_if (fun h => ?_) (fun h => ?_) <;> (try rw [h]) <;> (conv => whnf)
  · rw [leI_t] at h
    rw [reachD_step _ _ _ h] at hk
    obtain ⟨x, hx⟩ : ∃ x, p.xNodes[k.toNat]? = some x := ⟨_, List.getElem?_eq_getElem (by omega)⟩
    obtain ⟨b, hvb, hat⟩ := bbC_at (v := v) h (by omega)
    have hvl : (bbC v).length = p.xNodes.length := by rw [bbC, List.length_map, hv]
    refine ⟨h, _, by rw [List.getElem?_map, hx]; rfl, ?_⟩
    conv => whnf
    refine ⟨h, by rw [hvl]; omega, ?_⟩
    conv => whnf
    refine ⟨_, hat, ?_⟩
    conv => whnf
    have hm : ∀ j : Int, (bbC (mkB v j)).length = p.xNodes.length := fun j => by rw [bbC, List.length_map, mkB_len, hv]
    have fin : ∀ v' : List Bool, stepR p.xNodes v k.toNat = v' → v'.length = p.xNodes.length ∧ reachD p.xNodes v' ((k - 1) + 1).toNat = reachL p.xNodes roots := fun v' e => by
      rw [← e, stepR_len, show (k - 1 + 1).toNat = k.toNat by omega]
      exact ⟨hv, hk⟩
    have wk : wrp .i64 (k - 1) = k - 1 := wrp_i64 (by omega) (by omega)
    refine br_if (fun h2 => ?_) (fun h2 => ?_) <;> (try rw [h2]) <;> (conv => whnf)
    · rw [notB_t] at h2
      subst h2
      obtain ⟨f1, f2⟩ := fin v (step_off hx hvb)
      rw [wk]
      exact ⟨(k - 1 + 1).toNat, _, by omega, norm_wk (keep := [2, 5, 7]) (kb := [2]) (ρ := [(100, some 100)]) rfl, ⟨k - 1, v, rfl, rfl, by omega, by omega, f1, f2⟩⟩
    rw [notB_f] at h2
    subst h2
    refine br_if (fun h5 => ?_) (fun h5 => ?_) <;> (try rw [h5]) <;> (conv => whnf)
    · rw [eqI_t] at h5
      obtain ⟨⟨a0, a1⟩, b0, b1⟩ := kids_5 hp hx h5
      obtain ⟨ba, -, hata⟩ := bbC_at (v := v) a0 (by omega)
      obtain ⟨bb, -, hatb⟩ := bbC_at (v := mkB v x.xA) b0 (by rw [mkB_len]; omega)
      refine ⟨a0, by rw [hvl]; omega, ?_⟩
      conv => whnf
      refine ⟨_, hata, ?_⟩
      conv => whnf
      refine ⟨b0, ?_, ?_⟩
      · show x.xB < (((bbC v).set x.xA.toNat [.sc (.bool true)]).length : Int)
        rw [bbC_set, hm]
        omega
      conv => whnf
      refine ⟨_, (show ((bbC v).set x.xA.toNat [.sc (.bool true)])[x.xB.toNat]? = some _ from by rw [bbC_set]; exact hatb), ?_⟩
      conv => whnf
      obtain ⟨f1, f2⟩ := fin _ (step_5 hx hvb h5)
      rw [wk]
      exact ⟨(k - 1 + 1).toNat, _, by omega, norm_wk (keep := [2, 5, 7]) (kb := [2]) (ρ := [(100, some 100)]) rfl, ⟨k - 1, _, by rw [← bbC_set, ← bbC_set]; rfl, rfl, by omega, by omega, f1, f2⟩⟩
    rw [eqI_f] at h5
    have one : ∀ (h67 : x.xKind = 6 ∨ x.xKind = 7), True := fun _ => trivial
    refine br_if (fun h6 => ?_) (fun h6 => ?_) <;> (try rw [h6]) <;> (conv => whnf)
    · rw [eqI_t] at h6
      obtain ⟨a0, a1⟩ := kids_67 hp hx (.inl h6)
      obtain ⟨ba, -, hata⟩ := bbC_at (v := v) a0 (by omega)
      refine ⟨a0, by rw [hvl]; omega, ?_⟩
      conv => whnf
      refine ⟨_, hata, ?_⟩
      conv => whnf
      obtain ⟨f1, f2⟩ := fin _ (step_67 hx hvb (.inl h6))
      rw [wk]
      exact ⟨(k - 1 + 1).toNat, _, by omega, norm_wk (keep := [2, 5, 7]) (kb := [2]) (ρ := [(100, some 100)]) rfl, ⟨k - 1, _, by rw [← bbC_set]; rfl, rfl, by omega, by omega, f1, f2⟩⟩
    rw [eqI_f] at h6
    refine br_if (fun h7 => ?_) (fun h7 => ?_) <;> (try rw [h7]) <;> (conv => whnf)
    · rw [eqI_t] at h7
      obtain ⟨a0, a1⟩ := kids_67 hp hx (.inr h7)
      obtain ⟨ba, -, hata⟩ := bbC_at (v := v) a0 (by omega)
      refine ⟨a0, by rw [hvl]; omega, ?_⟩
      conv => whnf
      refine ⟨_, hata, ?_⟩
      conv => whnf
      obtain ⟨f1, f2⟩ := fin _ (step_67 hx hvb (.inr h7))
      rw [wk]
      exact ⟨(k - 1 + 1).toNat, _, by omega, norm_wk (keep := [2, 5, 7]) (kb := [2]) (ρ := [(100, some 100)]) rfl, ⟨k - 1, _, by rw [← bbC_set]; rfl, rfl, by omega, by omega, f1, f2⟩⟩
    rw [eqI_f] at h7
    obtain ⟨f1, f2⟩ := fin v (step_o hx h5 h6 h7)
    rw [wk]
    exact ⟨(k - 1 + 1).toNat, _, by omega, norm_wk (keep := [2, 5, 7]) (kb := [2]) (ρ := [(100, some 100)]) rfl, ⟨k - 1, v, rfl, rfl, by omega, by omega, f1, f2⟩⟩
  · rw [leI_f] at h
    rw [show (k + 1).toNat = 0 by omega] at hk
    replace hk : v = reachL p.xNodes roots := hk
    rw [← hk]
    exact ⟨rfl, rfl⟩

set_option maxRecDepth 100000 in
set_option maxHeartbeats 1000000 in
theorem i_reach_ok (p : DPool) (roots : List Int) (hl : p.xNodes.length ≤ 1000000) (hp : poolOk p.xNodes = true) (hr : roots.length ≤ 1000000) (hR : ∀ r ∈ roots, Has p r) :
    FnV Tryz.prog 366 [pV p, nnV roots] fun rs outs => rs = [bbR (reachL p.xNodes roots)] ∧ outs = [] := by
  refine fn_ok (E := E10) τ_ok mixed Tryz.func366 (by rfl) (by rfl) false (by simp [Tryz.f366]) ?_
  have hrep : List.replicate (((p.xNodes.map DNode.c).length : Int)).toNat (List.map zC d4.zero) = bbC (List.replicate p.xNodes.length false) := by
    rw [List.length_map, Int.toNat_natCast, bbC, List.map_replicate]
    rfl
  have hnl : (p.xNodes.map DNode.c).length = p.xNodes.length := List.length_map ..
  have hrl : (nnC roots).length = roots.length := List.length_map ..
  conv => whnf
  refine ⟨by omega, rfl, by rw [hnl]; simp only [d4]; omega, by omega, ?_⟩
  rw [hrep]
  conv => whnf
  refine ⟨fun m s => ∃ (k : Int), s = ⟨[(2, .bptr 2 0 0), (5, .vals false [.ref 100 0]), (14, .vals false [.rd none 1 (nnC roots)]), (15, .vals false [.sc (.int .i64 roots.length)]), (16, .vals false [.sc (.int .i64 k)])], [(2, ⟨0, [.rd none 5 (p.xNodes.map DNode.c)]⟩)], [(100, ⟨true, 0, 0, true, 1, bbC ((roots.take k.toNat).foldl mkB (List.replicate p.xNodes.length false))⟩)]⟩ ∧ m = roots.length - k.toNat ∧ 0 ≤ k ∧ k ≤ roots.length,
    ⟨_, _, norm_wk (keep := [2, 5, 14, 15, 16]) (kb := [2]) (ρ := [(13, some 100)]) rfl, ⟨0, by rw [hrl]; rfl, rfl, by omega, by omega⟩⟩, ?_⟩
  rintro m _ ⟨k, rfl, rfl, k0, k1⟩
  conv => whnf
  refine br_if (fun h => ?_) (fun h => ?_) <;> (try rw [h]) <;> (conv => whnf)
  · rw [ltI_t] at h
    obtain ⟨r, hx⟩ : ∃ x, roots[k.toNat]? = some x := ⟨_, List.getElem?_eq_getElem (by omega)⟩
    refine ⟨by omega, _, by rw [List.getElem?_map, hx]; rfl, ?_⟩
    conv => whnf
    have hH := hR r (List.mem_of_getElem? hx)
    have hvl : (bbC ((roots.take k.toNat).foldl mkB (List.replicate p.xNodes.length false))).length = p.xNodes.length := by rw [bbC, List.length_map, foldB_len, List.length_replicate]
    refine ⟨hH.1, by rw [hvl]; exact hH.2, ?_⟩
    conv => whnf
    obtain ⟨b, -, hat⟩ := bbC_at (v := (roots.take k.toNat).foldl mkB (List.replicate p.xNodes.length false)) hH.1 (by rw [foldB_len, List.length_replicate]; exact hH.2)
    refine ⟨_, hat, ?_⟩
    conv => whnf
    rw [wrp_i64 (x := k + 1) (by omega) (by omega)]
    refine ⟨roots.length - (k + 1).toNat, _, by omega, norm_wk (keep := [2, 5, 14, 15, 16]) (kb := [2]) (ρ := [(100, some 100)]) rfl, ⟨k + 1, ?_, rfl, by omega, by omega⟩⟩
    rw [show (k + 1).toNat = k.toNat + 1 by omega, List.take_add_one, hx, List.foldl_append]
    generalize (roots.take k.toNat).foldl mkB (List.replicate p.xNodes.length false) = v
    rw [show List.foldl mkB v (some r).toList = mkB v r from rfl, ← bbC_set]
    rfl
  rw [ltI_f] at h
  rw [List.take_of_length_le (by omega)]
  rw [hnl, wrp_i64 (by omega) (by omega)]
  refine ⟨fun m s => ∃ (k : Int) (v : List Bool), s = ⟨[(2, .bptr 2 0 0), (5, .vals false [.ref 100 0]), (8, .vals false [.sc (.int .i64 k)])], [(2, ⟨0, [.rd none 5 (p.xNodes.map DNode.c)]⟩)], [(100, ⟨true, 0, 0, true, 1, bbC v⟩)]⟩ ∧ m = (k + 1).toNat ∧ -1 ≤ k ∧ k < p.xNodes.length ∧ v.length = p.xNodes.length ∧ reachD p.xNodes v (k + 1).toNat = reachL p.xNodes roots,
    ⟨_, _, norm_wk (keep := [2, 5, 8]) (kb := [2]) (ρ := [(100, some 100)]) rfl, ⟨p.xNodes.length - 1, _, rfl, rfl, by omega, by omega, by rw [foldB_len, List.length_replicate], ?_⟩⟩, ?_⟩
  · rw [show ((p.xNodes.length : Int) - 1 + 1).toNat = p.xNodes.length by omega]
    rfl
  clear k0 k1 h k
  rintro m _ ⟨k, v, rfl, rfl, k0, k1, hv, hk⟩
  conv => whnf
  refine br_if (fun h => ?_) (fun h => ?_) <;> (try rw [h]) <;> (conv => whnf)
  · rw [leI_t] at h
    rw [reachD_step _ _ _ h] at hk
    obtain ⟨x, hx⟩ : ∃ x, p.xNodes[k.toNat]? = some x := ⟨_, List.getElem?_eq_getElem (by omega)⟩
    obtain ⟨b, hvb, hat⟩ := bbC_at (v := v) h (by omega)
    have hvl : (bbC v).length = p.xNodes.length := by rw [bbC, List.length_map, hv]
    refine ⟨h, by rw [hvl]; omega, ?_⟩
    conv => whnf
    refine ⟨_, hat, ?_⟩
    conv => whnf
    have hm : ∀ j : Int, (bbC (mkB v j)).length = p.xNodes.length := fun j => by rw [bbC, List.length_map, mkB_len, hv]
    have fin : ∀ v' : List Bool, stepR p.xNodes v k.toNat = v' → v'.length = p.xNodes.length ∧ reachD p.xNodes v' ((k - 1) + 1).toNat = reachL p.xNodes roots := fun v' e => by
      rw [← e, stepR_len, show (k - 1 + 1).toNat = k.toNat by omega]
      exact ⟨hv, hk⟩
    have wk : wrp .i64 (k - 1) = k - 1 := wrp_i64 (by omega) (by omega)
    refine br_if (fun h2 => ?_) (fun h2 => ?_) <;> (try rw [h2]) <;> (conv => whnf)
    · rw [notB_t] at h2
      subst h2
      obtain ⟨f1, f2⟩ := fin v (step_off hx hvb)
      rw [wk]
      exact ⟨(k - 1 + 1).toNat, _, by omega, norm_wk (keep := [2, 5, 8]) (kb := [2]) (ρ := [(100, some 100)]) rfl, ⟨k - 1, v, rfl, rfl, by omega, by omega, f1, f2⟩⟩
    rw [notB_f] at h2
    subst h2
    refine ⟨h, _, by rw [List.getElem?_map, hx]; rfl, ?_⟩
    conv => whnf
    refine br_if (fun h5 => ?_) (fun h5 => ?_) <;> (try rw [h5]) <;> (conv => whnf)
    · rw [eqI_t] at h5
      obtain ⟨⟨a0, a1⟩, b0, b1⟩ := kids_5 hp hx h5
      obtain ⟨ba, -, hata⟩ := bbC_at (v := v) a0 (by omega)
      obtain ⟨bb, -, hatb⟩ := bbC_at (v := mkB v x.xA) b0 (by rw [mkB_len]; omega)
      refine ⟨a0, by rw [hvl]; omega, ?_⟩
      conv => whnf
      refine ⟨_, hata, ?_⟩
      conv => whnf
      refine ⟨b0, ?_, ?_⟩
      · show x.xB < (((bbC v).set x.xA.toNat [.sc (.bool true)]).length : Int)
        rw [bbC_set, hm]
        omega
      conv => whnf
      refine ⟨_, (show ((bbC v).set x.xA.toNat [.sc (.bool true)])[x.xB.toNat]? = some _ from by rw [bbC_set]; exact hatb), ?_⟩
      conv => whnf
      obtain ⟨f1, f2⟩ := fin _ (step_5 hx hvb h5)
      rw [wk]
      exact ⟨(k - 1 + 1).toNat, _, by omega, norm_wk (keep := [2, 5, 8]) (kb := [2]) (ρ := [(100, some 100)]) rfl, ⟨k - 1, _, by rw [← bbC_set, ← bbC_set]; rfl, rfl, by omega, by omega, f1, f2⟩⟩
    rw [eqI_f] at h5
    have one : ∀ (h67 : x.xKind = 6 ∨ x.xKind = 7), True := fun _ => trivial
    refine br_if (fun h6 => ?_) (fun h6 => ?_) <;> (try rw [h6]) <;> (conv => whnf)
    · rw [eqI_t] at h6
      obtain ⟨a0, a1⟩ := kids_67 hp hx (.inl h6)
      obtain ⟨ba, -, hata⟩ := bbC_at (v := v) a0 (by omega)
      refine ⟨a0, by rw [hvl]; omega, ?_⟩
      conv => whnf
      refine ⟨_, hata, ?_⟩
      conv => whnf
      obtain ⟨f1, f2⟩ := fin _ (step_67 hx hvb (.inl h6))
      rw [wk]
      exact ⟨(k - 1 + 1).toNat, _, by omega, norm_wk (keep := [2, 5, 8]) (kb := [2]) (ρ := [(100, some 100)]) rfl, ⟨k - 1, _, by rw [← bbC_set]; rfl, rfl, by omega, by omega, f1, f2⟩⟩
    rw [eqI_f] at h6
    refine br_if (fun h7 => ?_) (fun h7 => ?_) <;> (try rw [h7]) <;> (conv => whnf)
    · rw [eqI_t] at h7
      obtain ⟨a0, a1⟩ := kids_67 hp hx (.inr h7)
      obtain ⟨ba, -, hata⟩ := bbC_at (v := v) a0 (by omega)
      refine ⟨a0, by rw [hvl]; omega, ?_⟩
      conv => whnf
      refine ⟨_, hata, ?_⟩
      conv => whnf
      obtain ⟨f1, f2⟩ := fin _ (step_67 hx hvb (.inr h7))
      rw [wk]
      exact ⟨(k - 1 + 1).toNat, _, by omega, norm_wk (keep := [2, 5, 8]) (kb := [2]) (ρ := [(100, some 100)]) rfl, ⟨k - 1, _, by rw [← bbC_set]; rfl, rfl, by omega, by omega, f1, f2⟩⟩
    rw [eqI_f] at h7
    obtain ⟨f1, f2⟩ := fin v (step_o hx h5 h6 h7)
    rw [wk]
    exact ⟨(k - 1 + 1).toNat, _, by omega, norm_wk (keep := [2, 5, 8]) (kb := [2]) (ρ := [(100, some 100)]) rfl, ⟨k - 1, v, rfl, rfl, by omega, by omega, f1, f2⟩⟩
  · rw [leI_f] at h
    rw [show (k + 1).toNat = 0 by omega] at hk
    replace hk : v = reachL p.xNodes roots := hk
    rw [← hk]
    exact ⟨rfl, rfl⟩

end Go.Proofs.YtifodjnbcnbcpaaGreat.V

set_option linter.unusedVariables false

set_option linter.unusedSimpArgs false

namespace Go.Proofs.YtifodjnbcnbcpaaGreat.V

open Go

def MdE11 (f : Nat) : List Mode :=
  match f with
  | _ => []

def E11 : Env := ⟨τ, MdE11⟩

@[reducible] def npC (l : List DNode) : List (List C) := l.map DNode.c

@[reducible] def ppV (l : List DNode) : AV := .mptr none [.sl true 5 (npC l)]

@[reducible] def nodV (x : DNode) : AV := .rdv true x.c

theorem flat_node (x : DNode) : Flat 5 [x.c] := by
  intro r hr
  rw [List.mem_singleton.1 hr]
  refine ⟨rfl, fun c hc => ?_⟩
  simp only [DNode.c, List.mem_cons, List.not_mem_nil, or_false] at hc
  rcases hc with rfl | rfl | rfl | rfl | rfl <;> exact ⟨_, rfl, rfl⟩

theorem npC_app (l : List DNode) (x : DNode) : npC l ++ [x.c] = npC (l ++ [x]) := by
  rw [npC, npC, List.map_append]
  rfl

set_option maxRecDepth 100000 in
theorem s_l2Add_ok (l : List DNode) (x : DNode) (hl : l.length ≤ 1000000) : FnV Tryz.prog 270 [ppV l, nodV x] fun rs outs => rs = [iR l.length] ∧ outs = [[.sl true 5 (npC (l ++ [x]))]] := by
  refine fn_ok (E := E11) τ_ok mixed Tryz.func270 (by rfl) (by rfl) false (by simp [Tryz.f270]) ?_
  conv => whnf
  have hsz : ∀ n : Nat, n = 1 → ((npC l).length + n) * d231.bytes ≤ 140737488355328 := fun n hn => by
    rw [hn, npC, List.length_map]
    simp only [d231]
    omega
  refine ⟨.take 0 (.take 1 (.take 2 (.take 3 (.or 4 (.or 5 (.or 6 (.or 7 (.take 8 (.take 9 (.or 10 .done .nil))) .nil) .nil) .nil) (.or 5 (.or 4 (.or 6 (.or 7 (.take 8 (.take 9 (.or 10 .done .nil))) .nil) .nil) (.or 6 (.or 4 (.or 7 (.take 8 (.take 9 (.or 10 .done .nil))) .nil) .nil) .nil)) .nil))))), by rfl, ?_⟩
  apply Exists.intro
  refine ⟨?_, ?_⟩
  · conv => whnf
    refine ⟨?_, ?_⟩
    · conv => whnf
      refine .inl ⟨flat_node x, ?_⟩
      conv => whnf
      refine ⟨hsz _ rfl, ?_⟩
      conv => whnf
      exact norm_wk (keep := [0, 4]) (kb := [1000000]) (ρ := [(12, some 12)]) rfl
    · conv => whnf
      refine ⟨?_, ?_⟩
      · conv => whnf
        refine .inl ⟨flat_node x, ?_⟩
        conv => whnf
        refine ⟨hsz _ rfl, ?_⟩
        conv => whnf
        exact norm_wk (keep := [0, 4]) (kb := [1000000]) (ρ := [(12, some 12)]) rfl
      · conv => whnf
        refine .inl ⟨flat_node x, ?_⟩
        conv => whnf
        refine ⟨hsz _ rfl, ?_⟩
        conv => whnf
        exact norm_wk (keep := [0, 4]) (kb := [1000000]) (ρ := [(12, some 12)]) rfl
  conv => whnf
  show [iR (wrp .i64 (((npC l ++ [x.c]).length : Int) - 1))] = _ ∧ [[C.sl true 5 (npC l ++ [x.c])]] = _
  rw [npC_app, npC, List.length_map, List.length_append, List.length_singleton, wrp_i64 (by omega) (by omega), show ((l.length + 1 : Nat) : Int) - 1 = l.length by omega]
  exact ⟨rfl, rfl⟩

set_option maxRecDepth 100000 in
theorem i_add_ok (l : List DNode) (x : DNode) (hl : l.length ≤ 1000000) : FnV Tryz.prog 287 [ppV l, nodV x] fun rs outs => rs = [iR l.length] ∧ outs = [[.sl true 5 (npC (l ++ [x]))]] := by
  refine fn_ok (E := E11) τ_ok mixed Tryz.func287 (by rfl) (by rfl) false (by simp [Tryz.f287]) ?_
  conv => whnf
  have hsz : ∀ n : Nat, n = 1 → ((npC l).length + n) * d231.bytes ≤ 140737488355328 := fun n hn => by
    rw [hn, npC, List.length_map]
    simp only [d231]
    omega
  refine ⟨.take 0 (.take 1 (.take 2 (.take 3 (.or 4 (.or 5 (.or 6 (.or 7 (.take 8 (.take 9 (.or 10 .done .nil))) .nil) .nil) .nil) (.or 5 (.or 4 (.or 6 (.or 7 (.take 8 (.take 9 (.or 10 .done .nil))) .nil) .nil) (.or 6 (.or 4 (.or 7 (.take 8 (.take 9 (.or 10 .done .nil))) .nil) .nil) .nil)) .nil))))), by rfl, ?_⟩
  apply Exists.intro
  refine ⟨?_, ?_⟩
  · conv => whnf
    refine ⟨?_, ?_⟩
    · conv => whnf
      refine .inl ⟨flat_node x, ?_⟩
      conv => whnf
      refine ⟨hsz _ rfl, ?_⟩
      conv => whnf
      exact norm_wk (keep := [0, 4]) (kb := [1000000]) (ρ := [(12, some 12)]) rfl
    · conv => whnf
      refine ⟨?_, ?_⟩
      · conv => whnf
        refine .inl ⟨flat_node x, ?_⟩
        conv => whnf
        refine ⟨hsz _ rfl, ?_⟩
        conv => whnf
        exact norm_wk (keep := [0, 4]) (kb := [1000000]) (ρ := [(12, some 12)]) rfl
      · conv => whnf
        refine .inl ⟨flat_node x, ?_⟩
        conv => whnf
        refine ⟨hsz _ rfl, ?_⟩
        conv => whnf
        exact norm_wk (keep := [0, 4]) (kb := [1000000]) (ρ := [(12, some 12)]) rfl
  conv => whnf
  show [iR (wrp .i64 (((npC l ++ [x.c]).length : Int) - 1))] = _ ∧ [[C.sl true 5 (npC l ++ [x.c])]] = _
  rw [npC_app, npC, List.length_map, List.length_append, List.length_singleton, wrp_i64 (by omega) (by omega), show ((l.length + 1 : Nat) : Int) - 1 = l.length by omega]
  exact ⟨rfl, rfl⟩

end Go.Proofs.YtifodjnbcnbcpaaGreat.V

set_option linter.unusedVariables false

set_option linter.unusedSimpArgs false

namespace Go.Proofs.YtifodjnbcnbcpaaGreat.V

open Go

def MdE12 (f : Nat) : List Mode :=
  match f with
  | 270 => [.pp [true], .rd]
  | 287 => [.pp [true], .rd]
  | 366 => [.rd, .rd]
  | _ => []

def E12 : Env := ⟨τ, MdE12⟩

def kid (l : List Int) (a : Int) : Int := (l[a.toNat]?).getD 0

def rmp (l : List Int) (x : DNode) : DNode :=
  if x.xKind = 5 then { x with xA := kid l x.xA, xB := kid l x.xB } else if x.xKind = 6 ∨ x.xKind = 7 then { x with xA := kid l x.xA } else x

def mvS (d : Int) (is : List Bool) (q pre : List DNode) : Nat → List DNode × List Int
  | 0 => (pre, [])
  | k + 1 => match q[k]? with
    | none => mvS d is q pre k
    | some x => if is[k]? = some true then ((mvS d is q pre k).1 ++ [rmp (mvS d is q pre k).2 x], (mvS d is q pre k).2 ++ [((mvS d is q pre k).1.length : Int)])
      else ((mvS d is q pre k).1, (mvS d is q pre k).2 ++ [d])

theorem mvS_yes {d : Int} {is : List Bool} {q pre : List DNode} {k : Nat} {x : DNode} (hx : q[k]? = some x) (h : is[k]? = some true) :
    mvS d is q pre (k + 1) = ((mvS d is q pre k).1 ++ [rmp (mvS d is q pre k).2 x], (mvS d is q pre k).2 ++ [((mvS d is q pre k).1.length : Int)]) := by
  simp only [mvS, hx, h, if_true]

theorem mvS_no {d : Int} {is : List Bool} {q pre : List DNode} {k : Nat} {x : DNode} (hx : q[k]? = some x) (h : is[k]? = some false) :
    mvS d is q pre (k + 1) = ((mvS d is q pre k).1, (mvS d is q pre k).2 ++ [d]) := by
  simp [mvS, hx, h]

theorem mvS_no' {d : Int} {is : List Bool} {q pre : List DNode} {k : Nat} {x : DNode} (hx : q[k]? = some x) (h : is[k]? ≠ some true) :
    mvS d is q pre (k + 1) = ((mvS d is q pre k).1, (mvS d is q pre k).2 ++ [d]) := by
  simp only [mvS, hx, if_neg h]

theorem mvS_len {d : Int} {is : List Bool} {q pre : List DNode} : ∀ {k : Nat}, k ≤ q.length → (mvS d is q pre k).2.length = k ∧ (mvS d is q pre k).1.length ≤ pre.length + k ∧ pre.length ≤ (mvS d is q pre k).1.length
  | 0, _ => ⟨rfl, Nat.le_refl _, Nat.le_refl _⟩
  | k + 1, h => by
    obtain ⟨h1, h2, h3⟩ := mvS_len (d := d) (is := is) (q := q) (pre := pre) (k := k) (by omega)
    have hq : q[k]? = some q[k] := List.getElem?_eq_getElem (by omega)
    by_cases hi : is[k]? = some true
    · rw [mvS_yes hq hi]
      simp only [List.length_append, List.length_singleton]
      omega
    · rw [mvS_no' hq hi]
      simp only [List.length_append, List.length_singleton]
      omega

def pad (n : Nat) (l : List Int) : List Int := l ++ List.replicate (n - l.length) 0

theorem pad_len {n : Nat} {l : List Int} (h : l.length ≤ n) : (pad n l).length = n := by simp [pad]; omega

theorem pad_set {n : Nat} {l : List Int} (h : l.length < n) (v : Int) : (pad n l).set l.length v = pad n (l ++ [v]) := by
  unfold pad
  rw [List.set_append_right _ _ (Nat.le_refl _), Nat.sub_self, show n - l.length = (n - (l ++ [v]).length) + 1 by simp; omega, List.replicate_succ, List.set_cons_zero, List.append_assoc]
  rfl

theorem pad_zero {n : Nat} {l : List Int} (h : l.length < n) : (pad n l)[l.length]? = some 0 := by
  unfold pad
  rw [List.getElem?_append_right (Nat.le_refl _), Nat.sub_self, List.getElem?_replicate]
  simp [show 0 < n - l.length by omega]

theorem pad_full {n : Nat} {l : List Int} (h : l.length = n) : pad n l = l := by simp [pad, h]

theorem pad_nil (n : Nat) : pad n [] = List.replicate n 0 := by simp [pad]

theorem pad_kid {n : Nat} {l : List Int} {a : Int} (h0 : 0 ≤ a) (h1 : a < l.length) : (nnC (pad n l))[a.toNat]? = some [.sc (.int .i64 (kid l a))] := by
  have : l[a.toNat]? = some l[a.toNat] := List.getElem?_eq_getElem (by omega)
  rw [List.getElem?_map, pad, List.getElem?_append_left (by omega), kid, this]
  rfl

theorem pad_snoc {n : Nat} {l : List Int} (h : l.length < n) : pad n (l ++ [0]) = pad n l := by
  rw [← pad_set h 0]
  apply List.ext_getElem?
  intro i
  rw [List.getElem?_set]
  split
  · rename_i e
    subst e
    rw [if_pos (by rw [pad_len (by omega)]; exact h), pad_zero h]
  · rfl

theorem pad_last {n : Nat} {l : List Int} (h : l.length < n) : (nnC (pad n l))[l.length]? = some [.sc (.int .i64 0)] := by
  rw [List.getElem?_map, pad_zero h]
  rfl

theorem rmp_5 {l : List Int} {x : DNode} (h : x.xKind = 5) : rmp l x = { x with xA := kid l x.xA, xB := kid l x.xB } := by simp [rmp, h]

theorem rmp_67 {l : List Int} {x : DNode} (h : x.xKind = 6 ∨ x.xKind = 7) : rmp l x = { x with xA := kid l x.xA } := by
  rcases h with h | h <;> simp [rmp, h]

theorem rmp_o {l : List Int} {x : DNode} (h5 : x.xKind ≠ 5) (h6 : x.xKind ≠ 6) (h7 : x.xKind ≠ 7) : rmp l x = x := by simp [rmp, h5, h6, h7]

theorem nnC_set (v : List Int) (i : Nat) (y : Int) : (nnC v).set i [.sc (.int .i64 y)] = nnC (v.set i y) := by rw [nnC, nnC, List.map_set]

theorem nnC_len (v : List Int) : (nnC v).length = v.length := List.length_map ..

theorem bbC_len (v : List Bool) : (bbC v).length = v.length := List.length_map ..

theorem npC_len (v : List DNode) : (npC v).length = v.length := List.length_map ..

@[reducible] def bbV (v : List Bool) : AV := .rdv false [.sl true 1 (bbC v)]

@[reducible] def nnR (v : List Int) : RV := ⟨false, [.own true 1 (nnC v)]⟩

set_option maxRecDepth 100000 in
set_option maxHeartbeats 1000000 in
theorem s_l7Into_ok (pre : List DNode) (q : DPool) (is : List Bool) (hpre : pre.length ≤ 400000) (hl : q.xNodes.length ≤ 400000) (hq : poolOk q.xNodes = true) (hi : is.length = q.xNodes.length) :
    FnV Tryz.prog 322 [ppV pre, pV q, bbV is] fun rs outs => rs = [nnR (mvS 0 is q.xNodes pre q.xNodes.length).2] ∧ outs = [[.sl true 5 (npC (mvS 0 is q.xNodes pre q.xNodes.length).1)]] := by
  refine fn_ok (E := E12) τ_ok mixed Tryz.func322 (by rfl) (by rfl) false (by simp [Tryz.f322]) ?_
  have hnl : (q.xNodes.map DNode.c).length = q.xNodes.length := List.length_map ..
  have hrep : List.replicate (((q.xNodes.map DNode.c).length : Int)).toNat (List.map zC d3.zero) = nnC (pad q.xNodes.length []) := by
    rw [List.length_map, Int.toNat_natCast, nnC, pad_nil, List.map_replicate]
    rfl
  conv => whnf
  refine ⟨by omega, rfl, by rw [hnl]; simp only [d3]; omega, by omega, ?_⟩
  rw [hrep]
  conv => whnf
  refine ⟨fun m s => ∃ (k : Int), s = ⟨[(0, .bptr 1000000 0 0), (2, .vals false [.rd none 1 (bbC is)]), (4, .bptr 4 0 0), (7, .vals false [.ref 100 0]), (8, .vals false [.sc (.int .i64 k)])],
      [(1000000, ⟨0, [.ref 200 0]⟩), (4, ⟨0, [.rd none 5 (npC q.xNodes)]⟩)],
      [(200, ⟨true, 0, 0, true, 5, npC (mvS 0 is q.xNodes pre k.toNat).1⟩), (100, ⟨true, 0, 0, true, 1, nnC (pad q.xNodes.length (mvS 0 is q.xNodes pre k.toNat).2)⟩)]⟩ ∧ m = q.xNodes.length - k.toNat ∧ 0 ≤ k ∧ k ≤ q.xNodes.length,
    ⟨_, _, norm_wk (keep := [0, 2, 4, 7, 8]) (kb := [1000000, 4]) (ρ := [(2000000, some 200), (13, some 100)]) rfl, ⟨0, rfl, rfl, by omega, by omega⟩⟩, ?_⟩
  rintro m _ ⟨k, rfl, rfl, k0, k1⟩
  conv => whnf
  refine br_if (fun h => ?_) (fun h => ?_) <;> (try rw [h]) <;> (conv => whnf)
  · rw [ltI_t] at h
    try rw [hnl] at h
    obtain ⟨x, hx⟩ : ∃ x, q.xNodes[k.toNat]? = some x := ⟨_, List.getElem?_eq_getElem (by omega)⟩
    obtain ⟨b, hvb, hat⟩ := bbC_at (v := is) k0 (by omega)
    obtain ⟨l1, l2, l3⟩ := mvS_len (d := 0) (is := is) (q := q.xNodes) (pre := pre) (k := k.toNat) (by omega)
    have wk : wrp .i64 (k + 1) = k + 1 := wrp_i64 (by omega) (by omega)
    have ek : (k + 1).toNat = k.toNat + 1 := by omega
    have setl : (nnC (pad q.xNodes.length (mvS 0 is q.xNodes pre k.toNat).2)).length = q.xNodes.length := by rw [nnC_len, pad_len (by omega)]
    have hk0 : (nnC (pad q.xNodes.length (mvS 0 is q.xNodes pre k.toNat).2))[k.toNat]? = some [.sc (.int .i64 0)] := by
      have := pad_last (n := q.xNodes.length) (l := (mvS 0 is q.xNodes pre k.toNat).2) (by omega)
      rwa [l1] at this
    have hset : ∀ y : Int, (nnC (pad q.xNodes.length (mvS 0 is q.xNodes pre k.toNat).2)).set k.toNat [.sc (.int .i64 y)] = nnC (pad q.xNodes.length ((mvS 0 is q.xNodes pre k.toNat).2 ++ [y])) := fun y => by
      rw [nnC_set, ← pad_set (by omega), l1]
    refine ⟨k0, _, hat, ?_⟩
    conv => whnf
    refine br_if (fun h2 => ?_) (fun h2 => ?_) <;> (try rw [h2]) <;> (conv => whnf)
    · rw [notB_t] at h2
      subst h2
      rw [wk]
      refine ⟨q.xNodes.length - (k + 1).toNat, _, by omega, norm_wk (keep := [0, 2, 4, 7, 8]) (kb := [1000000, 4]) (ρ := [(200, some 200), (100, some 100)]) rfl, ⟨k + 1, ?_, rfl, by omega, by omega⟩⟩
      rw [ek, mvS_no hx hvb, pad_snoc (by omega)]
      try rfl
    rw [notB_f] at h2
    subst h2
    refine ⟨k0, _, by rw [List.getElem?_map, hx]; rfl, ?_⟩
    conv => whnf
    refine br_if (fun h5 => ?_) (fun h5 => ?_) <;> (try rw [h5]) <;> (conv => whnf)
    · rw [eqI_t] at h5
      obtain ⟨⟨a0, a1⟩, b0, b1⟩ := kids_5 hq hx h5
      have hA := pad_kid (n := q.xNodes.length) (l := (mvS 0 is q.xNodes pre k.toNat).2) a0 (by omega)
      have hB := pad_kid (n := q.xNodes.length) (l := (mvS 0 is q.xNodes pre k.toNat).2) b0 (by omega)
      refine ⟨a0, by rw [setl]; omega, ?_⟩
      conv => whnf
      refine ⟨_, hA, ?_⟩
      conv => whnf
      refine ⟨b0, by rw [setl]; omega, ?_⟩
      conv => whnf
      refine ⟨_, hB, ?_⟩
      conv => whnf
      refine (s_l2Add_ok (mvS 0 is q.xNodes pre k.toNat).1 { x with xA := kid (mvS 0 is q.xNodes pre k.toNat).2 x.xA, xB := kid (mvS 0 is q.xNodes pre k.toNat).2 x.xB } (by omega)).mono ?_
      rintro _ _ ⟨rfl, rfl⟩
      conv => whnf
      refine ⟨k0, by rw [setl]; omega, ?_⟩
      conv => whnf
      refine ⟨_, hk0, ?_⟩
      conv => whnf
      rw [wk]
      refine ⟨q.xNodes.length - (k + 1).toNat, _, by omega, norm_wk (keep := [0, 2, 4, 7, 8]) (kb := [1000000, 4]) (ρ := [(200, some 200), (100, some 100)]) rfl, ⟨k + 1, ?_, rfl, by omega, by omega⟩⟩
      rw [ek, mvS_yes hx hvb, rmp_5 h5, ← hset _]
      try rfl
    rw [eqI_f] at h5
    refine br_if (fun h6 => ?_) (fun h6 => ?_) <;> (try rw [h6]) <;> (conv => whnf)
    · rw [eqI_t] at h6
      obtain ⟨a0, a1⟩ := kids_67 hq hx (.inl h6)
      have hA := pad_kid (n := q.xNodes.length) (l := (mvS 0 is q.xNodes pre k.toNat).2) a0 (by omega)
      refine ⟨a0, by rw [setl]; omega, ?_⟩
      conv => whnf
      refine ⟨_, hA, ?_⟩
      conv => whnf
      refine (s_l2Add_ok (mvS 0 is q.xNodes pre k.toNat).1 { x with xA := kid (mvS 0 is q.xNodes pre k.toNat).2 x.xA } (by omega)).mono ?_
      rintro _ _ ⟨rfl, rfl⟩
      conv => whnf
      refine ⟨k0, by rw [setl]; omega, ?_⟩
      conv => whnf
      refine ⟨_, hk0, ?_⟩
      conv => whnf
      rw [wk]
      refine ⟨q.xNodes.length - (k + 1).toNat, _, by omega, norm_wk (keep := [0, 2, 4, 7, 8]) (kb := [1000000, 4]) (ρ := [(200, some 200), (100, some 100)]) rfl, ⟨k + 1, ?_, rfl, by omega, by omega⟩⟩
      rw [ek, mvS_yes hx hvb, rmp_67 (.inl h6), ← hset _]
      try rfl
    rw [eqI_f] at h6
    refine br_if (fun h7 => ?_) (fun h7 => ?_) <;> (try rw [h7]) <;> (conv => whnf)
    · rw [eqI_t] at h7
      obtain ⟨a0, a1⟩ := kids_67 hq hx (.inr h7)
      have hA := pad_kid (n := q.xNodes.length) (l := (mvS 0 is q.xNodes pre k.toNat).2) a0 (by omega)
      refine ⟨a0, by rw [setl]; omega, ?_⟩
      conv => whnf
      refine ⟨_, hA, ?_⟩
      conv => whnf
      refine (s_l2Add_ok (mvS 0 is q.xNodes pre k.toNat).1 { x with xA := kid (mvS 0 is q.xNodes pre k.toNat).2 x.xA } (by omega)).mono ?_
      rintro _ _ ⟨rfl, rfl⟩
      conv => whnf
      refine ⟨k0, by rw [setl]; omega, ?_⟩
      conv => whnf
      refine ⟨_, hk0, ?_⟩
      conv => whnf
      rw [wk]
      refine ⟨q.xNodes.length - (k + 1).toNat, _, by omega, norm_wk (keep := [0, 2, 4, 7, 8]) (kb := [1000000, 4]) (ρ := [(200, some 200), (100, some 100)]) rfl, ⟨k + 1, ?_, rfl, by omega, by omega⟩⟩
      rw [ek, mvS_yes hx hvb, rmp_67 (.inr h7), ← hset _]
      try rfl
    rw [eqI_f] at h7
    refine (s_l2Add_ok (mvS 0 is q.xNodes pre k.toNat).1 x (by omega)).mono ?_
    rintro _ _ ⟨rfl, rfl⟩
    conv => whnf
    refine ⟨k0, by rw [setl]; omega, ?_⟩
    conv => whnf
    refine ⟨_, hk0, ?_⟩
    conv => whnf
    rw [wk]
    refine ⟨q.xNodes.length - (k + 1).toNat, _, by omega, norm_wk (keep := [0, 2, 4, 7, 8]) (kb := [1000000, 4]) (ρ := [(200, some 200), (100, some 100)]) rfl, ⟨k + 1, ?_, rfl, by omega, by omega⟩⟩
    rw [ek, mvS_yes hx hvb, rmp_o h5 h6 h7, ← hset _]
    try rfl
  · rw [ltI_f] at h
    try rw [hnl] at h
    have ek : k.toNat = q.xNodes.length := by omega
    rw [ek]
    obtain ⟨l1, l2, l3⟩ := mvS_len (d := 0) (is := is) (q := q.xNodes) (pre := pre) (k := q.xNodes.length) (by omega)
    rw [pad_full l1]
    exact ⟨rfl, rfl⟩

set_option maxRecDepth 100000 in
set_option maxHeartbeats 1000000 in
theorem i_moveIn_ok (pre : List DNode) (q : DPool) (roots : List Int) (hpre : pre.length ≤ 400000) (hl : q.xNodes.length ≤ 400000) (hq : poolOk q.xNodes = true) (hr : roots.length ≤ 1000000) (hR : ∀ r ∈ roots, Has q r) :
    FnV Tryz.prog 334 [ppV pre, pV q, nnV roots] fun rs outs => rs = [nnR (mvS (-1) (reachL q.xNodes roots) q.xNodes pre q.xNodes.length).2] ∧ outs = [[.sl true 5 (npC (mvS (-1) (reachL q.xNodes roots) q.xNodes pre q.xNodes.length).1)]] := by
  refine fn_ok (E := E12) τ_ok mixed Tryz.func334 (by rfl) (by rfl) false (by simp [Tryz.f334]) ?_
  have hnl : (q.xNodes.map DNode.c).length = q.xNodes.length := List.length_map ..
  have hrep : List.replicate (((q.xNodes.map DNode.c).length : Int)).toNat (List.map zC d3.zero) = nnC (pad q.xNodes.length []) := by
    rw [List.length_map, Int.toNat_natCast, nnC, pad_nil, List.map_replicate]
    rfl
  conv => whnf
  refine ⟨by omega, rfl, by rw [hnl]; simp only [d3]; omega, by omega, ?_⟩
  rw [hrep]
  conv => whnf
  refine (i_reach_ok q roots (by omega) hq hr hR).mono ?_
  rintro _ _ ⟨rfl, rfl⟩
  conv => whnf
  have hi : (reachL q.xNodes roots).length = q.xNodes.length := reachL_len _ _
  generalize reachL q.xNodes roots = is at *
  refine ⟨fun m s => ∃ (k : Int), s = ⟨[(0, .bptr 1000000 0 0), (4, .bptr 4 0 0), (7, .vals false [.ref 100 0]), (8, .vals false [.ref 300 0]), (19, .vals false [.rd none 5 (npC q.xNodes)]), (20, .vals false [.sc (.int .i64 q.xNodes.length)]), (21, .vals false [.sc (.int .i64 k)])],
      [(1000000, ⟨0, [.ref 200 0]⟩), (4, ⟨0, [.rd none 5 (npC q.xNodes)]⟩)],
      [(200, ⟨true, 0, 0, true, 5, npC (mvS (-1) is q.xNodes pre k.toNat).1⟩), (100, ⟨true, 0, 0, true, 1, nnC (pad q.xNodes.length (mvS (-1) is q.xNodes pre k.toNat).2)⟩), (300, ⟨true, 0, 0, true, 1, bbC is⟩)]⟩ ∧ m = q.xNodes.length - k.toNat ∧ 0 ≤ k ∧ k ≤ q.xNodes.length,
    ⟨_, _, norm_wk (keep := [0, 4, 7, 8, 19, 20, 21]) (kb := [1000000, 4]) (ρ := [(2000000, some 200), (14, some 100), (17, some 300)]) rfl, ⟨0, by rw [hnl]; rfl, rfl, by omega, by omega⟩⟩, ?_⟩
  rintro m _ ⟨k, rfl, rfl, k0, k1⟩
  conv => whnf
  refine br_if (fun h => ?_) (fun h => ?_) <;> (try rw [h]) <;> (conv => whnf)
  · rw [ltI_t] at h
    try rw [hnl] at h
    obtain ⟨x, hx⟩ : ∃ x, q.xNodes[k.toNat]? = some x := ⟨_, List.getElem?_eq_getElem (by omega)⟩
    obtain ⟨b, hvb, hat⟩ := bbC_at (v := is) k0 (by omega)
    obtain ⟨l1, l2, l3⟩ := mvS_len (d := (-1)) (is := is) (q := q.xNodes) (pre := pre) (k := k.toNat) (by omega)
    have wk : wrp .i64 (k + 1) = k + 1 := wrp_i64 (by omega) (by omega)
    have ek : (k + 1).toNat = k.toNat + 1 := by omega
    have setl : (nnC (pad q.xNodes.length (mvS (-1) is q.xNodes pre k.toNat).2)).length = q.xNodes.length := by rw [nnC_len, pad_len (by omega)]
    have hk0 : (nnC (pad q.xNodes.length (mvS (-1) is q.xNodes pre k.toNat).2))[k.toNat]? = some [.sc (.int .i64 0)] := by
      have := pad_last (n := q.xNodes.length) (l := (mvS (-1) is q.xNodes pre k.toNat).2) (by omega)
      rwa [l1] at this
    have hset : ∀ y : Int, ((nnC (pad q.xNodes.length (mvS (-1) is q.xNodes pre k.toNat).2)).set k.toNat [.sc (.int .i64 (-1))]).set k.toNat [.sc (.int .i64 y)] = nnC (pad q.xNodes.length ((mvS (-1) is q.xNodes pre k.toNat).2 ++ [y])) := fun y => by
      rw [List.set_set, nnC_set, ← pad_set (by omega), l1]
    have hset1 : (nnC (pad q.xNodes.length (mvS (-1) is q.xNodes pre k.toNat).2)).set k.toNat [.sc (.int .i64 (-1))] = nnC (pad q.xNodes.length ((mvS (-1) is q.xNodes pre k.toNat).2 ++ [-1])) := by
      rw [nnC_set, ← pad_set (by omega), l1]
    have hk1 : ((nnC (pad q.xNodes.length (mvS (-1) is q.xNodes pre k.toNat).2)).set k.toNat [.sc (.int .i64 (-1))])[k.toNat]? = some [.sc (.int .i64 (-1))] := by
      rw [List.getElem?_set, if_pos rfl, if_pos (by omega)]
    refine ⟨k0, _, by rw [List.getElem?_map, hx]; rfl, ?_⟩
    conv => whnf
    refine ⟨k0, by rw [setl]; omega, ?_⟩
    conv => whnf
    refine ⟨_, hk0, ?_⟩
    conv => whnf
    refine ⟨k0, by show k < ((bbC is).length : Int); rw [bbC_len]; omega, ?_⟩
    conv => whnf
    refine ⟨_, hat, ?_⟩
    conv => whnf
    refine br_if (fun h2 => ?_) (fun h2 => ?_) <;> (try rw [h2]) <;> (conv => whnf)
    · rw [notB_t] at h2
      subst h2
      rw [wk]
      refine ⟨q.xNodes.length - (k + 1).toNat, _, by omega, norm_wk (keep := [0, 4, 7, 8, 19, 20, 21]) (kb := [1000000, 4]) (ρ := [(200, some 200), (100, some 100), (300, some 300)]) rfl, ⟨k + 1, ?_, rfl, by omega, by omega⟩⟩
      rw [ek, mvS_no hx hvb, ← hset1]
      try rfl
    rw [notB_f] at h2
    subst h2
    have hM : ∀ {a : Int}, 0 ≤ a → a < k → ((nnC (pad q.xNodes.length (mvS (-1) is q.xNodes pre k.toNat).2)).set k.toNat [.sc (.int .i64 (-1))])[a.toNat]? = some [.sc (.int .i64 (kid (mvS (-1) is q.xNodes pre k.toNat).2 a))] := fun {a} h0 h1 => by
      rw [List.getElem?_set, if_neg (by omega)]
      exact pad_kid h0 (by omega)
    refine br_if (fun h5 => ?_) (fun h5 => ?_) <;> (try rw [h5]) <;> (conv => whnf)
    · rw [eqI_t] at h5
      obtain ⟨⟨a0, a1⟩, b0, b1⟩ := kids_5 hq hx h5
      have hA := hM a0 (by omega)
      have hB := hM b0 (by omega)
      refine ⟨.take 0 (.take 1 (.take 5 (.take 6 (.or 2 (.take 3 (.early 4 (.or 7 (.take 8 (.take 10 (.early 9 (.or 11 (.take 12 (.or 13 .done .nil)) .nil)))) .nil))) (.or 7 (.take 8 (.early 9 (.or 2 (.take 3 (.or 4 (.take 10 (.or 11 (.take 12 (.or 13 .done .nil)) .nil)) .nil)) .nil))) .nil))))), by rfl, ?_⟩
      apply Exists.intro
      refine ⟨?_, ?_⟩
      · conv => whnf
        refine ⟨?_, ?_⟩
        all_goals conv => whnf
        all_goals repeat (first | (refine ⟨rfl, ?_⟩; conv => whnf) | (refine ⟨_, hA, ?_⟩; conv => whnf) | (refine ⟨_, hB, ?_⟩; conv => whnf) | (refine ⟨a0, by show _ < (((nnC (pad q.xNodes.length (mvS (-1) is q.xNodes pre k.toNat).2)).set k.toNat [.sc (.int .i64 (-1))]).length : Int); rw [List.length_set, setl]; omega, ?_⟩; conv => whnf) | (refine ⟨b0, by show _ < (((nnC (pad q.xNodes.length (mvS (-1) is q.xNodes pre k.toNat).2)).set k.toNat [.sc (.int .i64 (-1))]).length : Int); rw [List.length_set, setl]; omega, ?_⟩; conv => whnf))
        all_goals exact norm_wk (keep := [0, 4, 7, 8, 9, 10, 19, 20, 21]) (kb := [1000000, 4, 10]) (ρ := [(200, some 200), (100, some 100), (300, some 300)]) rfl
      conv => whnf
      refine (i_add_ok (mvS (-1) is q.xNodes pre k.toNat).1 { x with xA := kid (mvS (-1) is q.xNodes pre k.toNat).2 x.xA, xB := kid (mvS (-1) is q.xNodes pre k.toNat).2 x.xB } (by omega)).mono ?_
      rintro _ _ ⟨rfl, rfl⟩
      conv => whnf
      refine ⟨k0, by show k < (((nnC (pad q.xNodes.length (mvS (-1) is q.xNodes pre k.toNat).2)).set k.toNat [.sc (.int .i64 (-1))]).length : Int); rw [List.length_set, setl]; omega, ?_⟩
      conv => whnf
      refine ⟨_, hk1, ?_⟩
      conv => whnf
      rw [wk]
      refine ⟨q.xNodes.length - (k + 1).toNat, _, by omega, norm_wk (keep := [0, 4, 7, 8, 19, 20, 21]) (kb := [1000000, 4]) (ρ := [(200, some 200), (100, some 100), (300, some 300)]) rfl, ⟨k + 1, ?_, rfl, by omega, by omega⟩⟩
      rw [ek, mvS_yes hx hvb, rmp_5 h5, ← hset _]
      try rfl
    rw [eqI_f] at h5
    refine br_if (fun h6 => ?_) (fun h6 => ?_) <;> (try rw [h6]) <;> (conv => whnf)
    · rw [eqI_t] at h6
      obtain ⟨a0, a1⟩ := kids_67 hq hx (.inl h6)
      have hA := hM a0 (by omega)
      refine ⟨a0, by show _ < (((nnC (pad q.xNodes.length (mvS (-1) is q.xNodes pre k.toNat).2)).set k.toNat [.sc (.int .i64 (-1))]).length : Int); rw [List.length_set, setl]; omega, ?_⟩
      conv => whnf
      refine ⟨_, hA, ?_⟩
      conv => whnf
      refine (i_add_ok (mvS (-1) is q.xNodes pre k.toNat).1 { x with xA := kid (mvS (-1) is q.xNodes pre k.toNat).2 x.xA } (by omega)).mono ?_
      rintro _ _ ⟨rfl, rfl⟩
      conv => whnf
      refine ⟨k0, by show k < (((nnC (pad q.xNodes.length (mvS (-1) is q.xNodes pre k.toNat).2)).set k.toNat [.sc (.int .i64 (-1))]).length : Int); rw [List.length_set, setl]; omega, ?_⟩
      conv => whnf
      refine ⟨_, hk1, ?_⟩
      conv => whnf
      rw [wk]
      refine ⟨q.xNodes.length - (k + 1).toNat, _, by omega, norm_wk (keep := [0, 4, 7, 8, 19, 20, 21]) (kb := [1000000, 4]) (ρ := [(200, some 200), (100, some 100), (300, some 300)]) rfl, ⟨k + 1, ?_, rfl, by omega, by omega⟩⟩
      rw [ek, mvS_yes hx hvb, rmp_67 (.inl h6), ← hset _]
      try rfl
    rw [eqI_f] at h6
    refine br_if (fun h7 => ?_) (fun h7 => ?_) <;> (try rw [h7]) <;> (conv => whnf)
    · rw [eqI_t] at h7
      obtain ⟨a0, a1⟩ := kids_67 hq hx (.inr h7)
      have hA := hM a0 (by omega)
      refine ⟨a0, by show _ < (((nnC (pad q.xNodes.length (mvS (-1) is q.xNodes pre k.toNat).2)).set k.toNat [.sc (.int .i64 (-1))]).length : Int); rw [List.length_set, setl]; omega, ?_⟩
      conv => whnf
      refine ⟨_, hA, ?_⟩
      conv => whnf
      refine (i_add_ok (mvS (-1) is q.xNodes pre k.toNat).1 { x with xA := kid (mvS (-1) is q.xNodes pre k.toNat).2 x.xA } (by omega)).mono ?_
      rintro _ _ ⟨rfl, rfl⟩
      conv => whnf
      refine ⟨k0, by show k < (((nnC (pad q.xNodes.length (mvS (-1) is q.xNodes pre k.toNat).2)).set k.toNat [.sc (.int .i64 (-1))]).length : Int); rw [List.length_set, setl]; omega, ?_⟩
      conv => whnf
      refine ⟨_, hk1, ?_⟩
      conv => whnf
      rw [wk]
      refine ⟨q.xNodes.length - (k + 1).toNat, _, by omega, norm_wk (keep := [0, 4, 7, 8, 19, 20, 21]) (kb := [1000000, 4]) (ρ := [(200, some 200), (100, some 100), (300, some 300)]) rfl, ⟨k + 1, ?_, rfl, by omega, by omega⟩⟩
      rw [ek, mvS_yes hx hvb, rmp_67 (.inr h7), ← hset _]
      try rfl
    rw [eqI_f] at h7
    refine (i_add_ok (mvS (-1) is q.xNodes pre k.toNat).1 x (by omega)).mono ?_
    rintro _ _ ⟨rfl, rfl⟩
    conv => whnf
    refine ⟨k0, by show k < (((nnC (pad q.xNodes.length (mvS (-1) is q.xNodes pre k.toNat).2)).set k.toNat [.sc (.int .i64 (-1))]).length : Int); rw [List.length_set, setl]; omega, ?_⟩
    conv => whnf
    refine ⟨_, hk1, ?_⟩
    conv => whnf
    rw [wk]
    refine ⟨q.xNodes.length - (k + 1).toNat, _, by omega, norm_wk (keep := [0, 4, 7, 8, 19, 20, 21]) (kb := [1000000, 4]) (ρ := [(200, some 200), (100, some 100), (300, some 300)]) rfl, ⟨k + 1, ?_, rfl, by omega, by omega⟩⟩
    rw [ek, mvS_yes hx hvb, rmp_o h5 h6 h7, ← hset _]
    try rfl
  · rw [ltI_f] at h
    try rw [hnl] at h
    have ek : k.toNat = q.xNodes.length := by omega
    rw [ek]
    obtain ⟨l1, l2, l3⟩ := mvS_len (d := (-1)) (is := is) (q := q.xNodes) (pre := pre) (k := q.xNodes.length) (by omega)
    rw [pad_full l1]
    exact ⟨rfl, rfl⟩

end Go.Proofs.YtifodjnbcnbcpaaGreat.V

set_option linter.unusedVariables false

set_option linter.unusedSimpArgs false

namespace Go.Proofs.YtifodjnbcnbcpaaGreat.V

open Go

theorem mkB_mono {v : List Bool} {i : Nat} {j : Int} (h : v[i]? = some true) : (mkB v j)[i]? = some true := by
  have hi := (List.getElem?_eq_some_iff.1 h).1
  rw [mkB, List.getElem?_set]
  split
  · rw [if_pos (by omega)]
  · exact h

theorem mkB_ne {v : List Bool} {i : Nat} {j : Int} (h : j.toNat ≠ i) : (mkB v j)[i]? = v[i]? := by
  rw [mkB, List.getElem?_set, if_neg h]

theorem mkB_at {v : List Bool} {j : Int} (h : j.toNat < v.length) : (mkB v j)[j.toNat]? = some true := by
  rw [mkB, List.getElem?_set, if_pos rfl, if_pos h]

def Kids (v : List Bool) (x : DNode) : Prop :=
  (x.xKind = 5 → v[x.xA.toNat]? = some true ∧ v[x.xB.toNat]? = some true) ∧ (x.xKind = 6 ∨ x.xKind = 7 → v[x.xA.toNat]? = some true)

theorem stepR_mono {l : List DNode} {v : List Bool} {i k : Nat} (h : v[i]? = some true) : (stepR l v k)[i]? = some true := by
  unfold stepR
  split
  · exact h
  · split
    · split
      · exact mkB_mono (mkB_mono h)
      · split
        · exact mkB_mono h
        · exact h
    · exact h

theorem stepR_ge {l : List DNode} (hp : poolOk l = true) {v : List Bool} {i k : Nat} (h : k ≤ i) : (stepR l v k)[i]? = v[i]? := by
  unfold stepR
  split
  · rfl
  · rename_i x hx
    split
    · split
      · rename_i h5
        have := kids_5 hp hx h5
        rw [mkB_ne (by omega), mkB_ne (by omega)]
      · split
        · rename_i h67
          have := kids_67 hp hx h67
          rw [mkB_ne (by omega)]
        · rfl
    · rfl

theorem stepR_kids {l : List DNode} (hp : poolOk l = true) {v : List Bool} (hv : v.length = l.length) {k : Nat} {x : DNode} (hx : l[k]? = some x) (h : v[k]? = some true) : Kids (stepR l v k) x := by
  have hk := (List.getElem?_eq_some_iff.1 hx).1
  refine ⟨fun h5 => ?_, fun h67 => ?_⟩
  · have := kids_5 hp hx h5
    rw [step_5 hx h h5]
    exact ⟨mkB_mono (mkB_at (by omega)), mkB_at (by rw [mkB_len]; omega)⟩
  · have := kids_67 hp hx h67
    rw [step_67 hx h h67]
    exact mkB_at (by omega)

theorem Kids.mono {v v' : List Bool} {x : DNode} (h : Kids v x) (hm : ∀ i : Nat, v[i]? = some true → v'[i]? = some true) : Kids v' x :=
  ⟨fun h5 => ⟨hm _ (h.1 h5).1, hm _ (h.1 h5).2⟩, fun h67 => hm _ (h.2 h67)⟩

theorem reachD_mono {l : List DNode} {i : Nat} : ∀ (k : Nat) {v : List Bool}, v[i]? = some true → (reachD l v k)[i]? = some true
  | 0, _, h => h
  | k + 1, v, h => reachD_mono k (stepR_mono h)

theorem reachD_kids {l : List DNode} (hp : poolOk l = true) : ∀ (k : Nat) {v : List Bool}, v.length = l.length → (∀ (i : Nat) (x : DNode), k ≤ i → l[i]? = some x → v[i]? = some true → Kids v x) →
    ∀ (i : Nat) (x : DNode), l[i]? = some x → (reachD l v k)[i]? = some true → Kids (reachD l v k) x
  | 0, v, _, h => fun i x hx hv => h i x (Nat.zero_le _) hx hv
  | k + 1, v, hv, h => by
    refine reachD_kids hp k (v := stepR l v k) (by rw [stepR_len, hv]) fun i x hi hx ht => ?_
    rw [stepR_ge hp hi] at ht
    rcases Nat.lt_or_ge k i with hlt | hge
    · exact (h i x hlt hx ht).mono fun i => stepR_mono
    · obtain rfl : i = k := by omega
      exact stepR_kids hp hv hx ht

theorem reachL_kids {l : List DNode} (hp : poolOk l = true) (roots : List Int) (i : Nat) (x : DNode) (hx : l[i]? = some x) (h : (reachL l roots)[i]? = some true) : Kids (reachL l roots) x :=
  reachD_kids hp _ (by rw [foldB_len, List.length_replicate]) (fun i x hi hx => by
    have := (List.getElem?_eq_some_iff.1 hx).1
    omega) i x hx h

theorem foldB_mono {i : Nat} : ∀ (r : List Int) {v : List Bool}, v[i]? = some true → (r.foldl mkB v)[i]? = some true
  | [], _, h => h
  | x :: r, v, h => foldB_mono r (mkB_mono h)

theorem foldB_mem : ∀ (r : List Int) {v : List Bool} {x : Int}, x ∈ r → x.toNat < v.length → (r.foldl mkB v)[x.toNat]? = some true
  | [], _, _, h, _ => by cases h
  | y :: r, v, x, h, hx => by
    rw [List.foldl_cons]
    cases h with
    | head => exact foldB_mono r (mkB_at hx)
    | tail _ h => exact foldB_mem r h (by rw [mkB_len]; exact hx)

theorem reachL_root {l : List DNode} {roots : List Int} {x : Int} (h : x ∈ roots) (h0 : 0 ≤ x) (h1 : x < l.length) : (reachL l roots)[x.toNat]? = some true :=
  reachD_mono _ (foldB_mem roots h (by rw [List.length_replicate]; omega))

def Closed (l : List DNode) (is : List Bool) : Prop := is.length = l.length ∧ ∀ (i : Nat) (x : DNode), l[i]? = some x → is[i]? = some true → Kids is x

theorem reach_closed {l : List DNode} (hp : poolOk l = true) (roots : List Int) : Closed l (reachL l roots) := ⟨reachL_len _ _, reachL_kids hp roots⟩

theorem getD_same {l l' : List Int} {i : Nat} (h : l[i]? = l'[i]?) : (l[i]?).getD 0 = (l'[i]?).getD 0 := by rw [h]

theorem mvS_eq {is : List Bool} {q pre : List DNode} (hq : poolOk q = true) (hc : Closed q is) (d d' : Int) : ∀ k : Nat, k ≤ q.length →
    (mvS d is q pre k).1 = (mvS d' is q pre k).1 ∧ ∀ i : Nat, i < k → is[i]? = some true → (mvS d is q pre k).2[i]? = (mvS d' is q pre k).2[i]?
  | 0, _ => ⟨rfl, fun i h => absurd h (by omega)⟩
  | k + 1, hk => by
    obtain ⟨h1, h2⟩ := mvS_eq hq hc d d' k (by omega)
    obtain ⟨l1, -, -⟩ := mvS_len (d := d) (is := is) (q := q) (pre := pre) (k := k) (by omega)
    obtain ⟨l2, -, -⟩ := mvS_len (d := d') (is := is) (q := q) (pre := pre) (k := k) (by omega)
    have hx : q[k]? = some q[k] := List.getElem?_eq_getElem (by omega)
    generalize q[k] = x at hx
    have old : ∀ (y y' : Int) (i : Nat), i < k → is[i]? = some true → ((mvS d is q pre k).2 ++ [y])[i]? = ((mvS d' is q pre k).2 ++ [y'])[i]? := fun y y' i hi ht => by
      rw [List.getElem?_append_left (by omega), List.getElem?_append_left (by omega)]
      exact h2 i hi ht
    by_cases ht : is[k]? = some true
    · rw [mvS_yes hx ht, mvS_yes hx ht, h1]
      have hkid : ∀ a : Int, 0 ≤ a → a < k → is[a.toNat]? = some true → kid (mvS d is q pre k).2 a = kid (mvS d' is q pre k).2 a := fun a h0 h3 h4 => getD_same (h2 _ (by omega) h4)
      have hr : rmp (mvS d is q pre k).2 x = rmp (mvS d' is q pre k).2 x := by
        obtain ⟨k5, k67⟩ := hc.2 k x hx ht
        by_cases h5 : x.xKind = 5
        · obtain ⟨⟨a0, a1⟩, b0, b1⟩ := kids_5 hq hx h5
          rw [rmp_5 h5, rmp_5 h5, hkid _ a0 a1 (k5 h5).1, hkid _ b0 b1 (k5 h5).2]
        · by_cases h6 : x.xKind = 6 ∨ x.xKind = 7
          · obtain ⟨a0, a1⟩ := kids_67 hq hx h6
            rw [rmp_67 h6, rmp_67 h6, hkid _ a0 a1 (k67 h6)]
          · rw [rmp_o h5 (fun h => h6 (.inl h)) (fun h => h6 (.inr h)), rmp_o h5 (fun h => h6 (.inl h)) (fun h => h6 (.inr h))]
      refine ⟨by rw [hr], fun i hi h => ?_⟩
      rcases Nat.lt_or_ge i k with hlt | hge
      · exact old _ _ i hlt h
      · obtain rfl : i = k := by omega
        rw [List.getElem?_append_right (by omega), List.getElem?_append_right (by omega), l1, l2]
    · rw [mvS_no' hx ht, mvS_no' hx ht]
      refine ⟨h1, fun i hi h => ?_⟩
      rcases Nat.lt_or_ge i k with hlt | hge
      · exact old _ _ i hlt h
      · obtain rfl : i = k := by omega
        exact absurd h ht

def NodesOk (l : List DNode) : Prop := ∀ (i : Nat) (x : DNode), l[i]? = some x → NodeOk x i

theorem nodesOk_snoc {l : List DNode} {x : DNode} (h : NodesOk l) (hx : NodeOk x l.length) : NodesOk (l ++ [x]) := fun i y hy => by
  rcases Nat.lt_trichotomy i l.length with hlt | rfl | hgt
  · rw [List.getElem?_append_left hlt] at hy
    exact h i y hy
  · rw [List.getElem?_append_right (Nat.le_refl _), Nat.sub_self] at hy
    cases hy
    exact hx
  · rw [List.getElem?_eq_none (by simp; omega)] at hy
    cases hy

theorem nodeOk_rmp {l : List Int} {x : DNode} {n m : Int} (h : NodeOk x n) (h5 : x.xKind = 5 → (0 ≤ kid l x.xA ∧ kid l x.xA < m) ∧ 0 ≤ kid l x.xB ∧ kid l x.xB < m) (h67 : x.xKind = 6 ∨ x.xKind = 7 → 0 ≤ kid l x.xA ∧ kid l x.xA < m) : NodeOk (rmp l x) m := by
  by_cases e5 : x.xKind = 5
  · rw [rmp_5 e5]
    refine (node_k5 ?_).2 ?_
    · exact e5
    have := h5 e5
    have := (node_k5 e5).1 h
    simp only
    omega
  by_cases e6 : x.xKind = 6
  · rw [rmp_67 (.inl e6)]
    refine (node_k6 ?_).2 ?_
    · exact e6
    have := h67 (.inl e6)
    have := (node_k6 e6).1 h
    simp only
    omega
  by_cases e7 : x.xKind = 7
  · rw [rmp_67 (.inr e7)]
    refine (node_k7 ?_).2 ?_
    · exact e7
    have := h67 (.inr e7)
    have := (node_k7 e7).1 h
    simp only
    omega
  rw [rmp_o e5 e6 e7]
  rcases h with h | h | h | h | h | h | h | h | h
  · exact .inl h
  · exact .inr (.inl h)
  · exact .inr (.inr (.inl h))
  · exact .inr (.inr (.inr (.inl h)))
  · exact absurd h.1 e5
  · exact absurd h.1 e6
  · exact absurd h.1 e7
  · exact .inr (.inr (.inr (.inr (.inr (.inr (.inr (.inl h)))))))
  · exact .inr (.inr (.inr (.inr (.inr (.inr (.inr (.inr h)))))))

theorem mvS_ok {is : List Bool} {q pre : List DNode} (hq : poolOk q = true) (hc : Closed q is) (hpre : NodesOk pre) : ∀ k : Nat, k ≤ q.length →
    NodesOk (mvS 0 is q pre k).1 ∧ ∀ i : Nat, i < k → is[i]? = some true → ∃ j : Int, (mvS 0 is q pre k).2[i]? = some j ∧ (pre.length : Int) ≤ j ∧ j < (mvS 0 is q pre k).1.length
  | 0, _ => ⟨hpre, fun i h => absurd h (by omega)⟩
  | k + 1, hk => by
    obtain ⟨h1, h2⟩ := mvS_ok hq hc hpre k (by omega)
    obtain ⟨l1, -, l3⟩ := mvS_len (d := 0) (is := is) (q := q) (pre := pre) (k := k) (by omega)
    have hx : q[k]? = some q[k] := List.getElem?_eq_getElem (by omega)
    generalize q[k] = x at hx
    by_cases ht : is[k]? = some true
    · rw [mvS_yes hx ht]
      have hkid : ∀ a : Int, 0 ≤ a → a < k → is[a.toNat]? = some true → 0 ≤ kid (mvS 0 is q pre k).2 a ∧ kid (mvS 0 is q pre k).2 a < (mvS 0 is q pre k).1.length := fun a h0 h3 h4 => by
        obtain ⟨j, e1, e2, e3⟩ := h2 _ (by omega) h4
        rw [kid, e1]
        simp only [Option.getD_some]
        omega
      obtain ⟨k5, k67⟩ := hc.2 k x hx ht
      refine ⟨nodesOk_snoc h1 (nodeOk_rmp ((poolOk_t.1 hq).2 k x hx) (fun h5 => ?_) (fun h67 => ?_)), fun i hi h => ?_⟩
      · obtain ⟨⟨a0, a1⟩, b0, b1⟩ := kids_5 hq hx h5
        exact ⟨hkid _ a0 a1 (k5 h5).1, hkid _ b0 b1 (k5 h5).2⟩
      · obtain ⟨a0, a1⟩ := kids_67 hq hx h67
        exact hkid _ a0 a1 (k67 h67)
      · simp only [List.length_append, List.length_singleton]
        rcases Nat.lt_or_ge i k with hlt | hge
        · obtain ⟨j, e1, e2, e3⟩ := h2 i hlt h
          exact ⟨j, by rw [List.getElem?_append_left (by omega)]; exact e1, e2, by omega⟩
        · obtain rfl : i = k := by omega
          refine ⟨((mvS 0 is q pre i).1.length : Int), by rw [List.getElem?_append_right (by omega), l1, Nat.sub_self]; rfl, by omega, by omega⟩
    · rw [mvS_no' hx ht]
      refine ⟨h1, fun i hi h => ?_⟩
      rcases Nat.lt_or_ge i k with hlt | hge
      · obtain ⟨j, e1, e2, e3⟩ := h2 i hlt h
        exact ⟨j, by rw [List.getElem?_append_left (by omega)]; exact e1, e2, e3⟩
      · obtain rfl : i = k := by omega
        exact absurd h ht

def keepN (l : List DNode) (roots : List Int) : List DNode := (mvS 0 (reachL l roots) l [] l.length).1

def keepR (l : List DNode) (roots : List Int) : List Int := roots.map (kid (mvS 0 (reachL l roots) l [] l.length).2)

theorem keep_len (l : List DNode) (roots : List Int) : (keepN l roots).length ≤ l.length := by
  have := (mvS_len (d := 0) (is := reachL l roots) (q := l) (pre := []) (k := l.length) (Nat.le_refl _)).2.1
  unfold keepN
  simpa using this

theorem keep_ok {l : List DNode} (hp : poolOk l = true) (roots : List Int) : poolOk (keepN l roots) = true := by
  have h := (mvS_ok (pre := []) hp (reach_closed hp roots) (fun i x h => by simp at h) l.length (Nat.le_refl _)).1
  exact poolOk_t.2 ⟨by have := keep_len l roots; have := (poolOk_t.1 hp).1; omega, h⟩

end Go.Proofs.YtifodjnbcnbcpaaGreat.V

set_option linter.unusedVariables false

set_option linter.unusedSimpArgs false

namespace Go.Proofs.YtifodjnbcnbcpaaGreat.V

open Go

def MdE14 (f : Nat) : List Mode :=
  match f with
  | 322 => [.pp [true], .rd, .rd]
  | 323 => [.rd, .rd]
  | 334 => [.pp [true], .rd, .rd]
  | _ => []

def E14 : Env := ⟨τ, MdE14⟩

@[reducible] def pR (l : List DNode) : RV := ⟨true, [.own true 5 (npC l)]⟩

theorem flat_int (v : Int) : Flat 1 [[.sc (.int .i64 v)]] := flat1 .i64 v

theorem nnC_app (l : List Int) (y : Int) : nnC l ++ [[.sc (.int .i64 y)]] = nnC (l ++ [y]) := by
  rw [nnC, nnC, List.map_append]
  rfl

theorem nnC_at {l : List Int} {a : Int} (h0 : 0 ≤ a) (h1 : a < l.length) : (nnC l)[a.toNat]? = some [.sc (.int .i64 (kid l a))] := by
  have : l[a.toNat]? = some l[a.toNat] := List.getElem?_eq_getElem (by omega)
  rw [List.getElem?_map, kid, this]
  rfl

theorem keepR_d {l : List DNode} (hp : poolOk l = true) (roots : List Int) (hR : ∀ r ∈ roots, 0 ≤ r ∧ r < l.length) (d : Int) :
    roots.map (kid (mvS d (reachL l roots) l [] l.length).2) = keepR l roots := by
  refine List.map_congr_left fun r hr => ?_
  obtain ⟨h0, h1⟩ := hR r hr
  exact getD_same ((mvS_eq (pre := []) hp (reach_closed hp roots) d 0 l.length (Nat.le_refl _)).2 _ (by omega) (reachL_root hr h0 h1))

theorem keepN_d {l : List DNode} (hp : poolOk l = true) (roots : List Int) (d : Int) : (mvS d (reachL l roots) l [] l.length).1 = keepN l roots :=
  (mvS_eq (pre := []) hp (reach_closed hp roots) d 0 l.length (Nat.le_refl _)).1

set_option maxRecDepth 100000 in
set_option maxHeartbeats 1000000 in
theorem i_keep_ok (p : DPool) (roots : List Int) (hl : p.xNodes.length ≤ 400000) (hp : poolOk p.xNodes = true) (hr : roots.length ≤ 100000) (hR : ∀ r ∈ roots, Has p r) :
    FnV Tryz.prog 279 [pV p, nnV roots] fun rs outs => rs = [pR (keepN p.xNodes roots), nnR (keepR p.xNodes roots)] ∧ outs = [] := by
  refine fn_ok (E := E14) τ_ok mixed Tryz.func279 (by rfl) (by rfl) false (by simp [Tryz.f279]) ?_
  have hrl := nnC_len roots
  conv => whnf
  refine (i_moveIn_ok [] p roots (by decide) hl hp (by omega) hR).mono ?_
  rintro _ _ ⟨rfl, rfl⟩
  conv => whnf
  have hN := keepN_d hp roots (-1)
  have hK := keepR_d hp roots hR (-1)
  obtain ⟨l1, -, -⟩ := mvS_len (d := (-1)) (is := reachL p.xNodes roots) (q := p.xNodes) (pre := []) (k := p.xNodes.length) (Nat.le_refl _)
  rw [hN]
  generalize (mvS (-1) (reachL p.xNodes roots) p.xNodes [] p.xNodes.length).2 = at' at *
  refine ⟨fun m s => ∃ (k : Int), s = ⟨[(4, .bptr 4 0 0), (6, .bptr 6 0 0), (7, .vals false [.ref 100 0]), (8, .vals false [.ref 300 0]), (16, .vals false [.rd none 1 (nnC roots)]), (17, .vals false [.sc (.int .i64 roots.length)]), (18, .vals false [.sc (.int .i64 k)])], [(4, ⟨0, [.nil 5]⟩), (6, ⟨0, [.ref 200 0]⟩)],
      [(200, ⟨true, 0, 0, true, 5, npC (keepN p.xNodes roots)⟩), (100, ⟨true, 0, 0, true, 1, nnC at'⟩), (300, ⟨true, 0, 0, true, 1, nnC ((roots.take k.toNat).map (kid at'))⟩)]⟩ ∧ m = roots.length - k.toNat ∧ 0 ≤ k ∧ k ≤ roots.length,
    ⟨_, _, norm_wk (keep := [4, 6, 7, 8, 16, 17, 18]) (kb := [4, 6]) (ρ := [(5006000, some 200), (14, some 100), (15, some 300)]) rfl, ⟨0, by rw [nnC_len]; rfl, rfl, by omega, by omega⟩⟩, ?_⟩
  rintro m _ ⟨k, rfl, rfl, k0, k1⟩
  conv => whnf
  refine br_if (fun h => ?_) (fun h => ?_) <;> (try rw [h]) <;> (conv => whnf)
  · rw [ltI_t] at h
    try rw [hrl] at h
    obtain ⟨x, hx⟩ : ∃ x, roots[k.toNat]? = some x := ⟨_, List.getElem?_eq_getElem (by omega)⟩
    obtain ⟨x0, x1⟩ := hR x (List.mem_of_getElem? hx)
    refine ⟨k0, _, by rw [List.getElem?_map, hx]; rfl, ?_⟩
    conv => whnf
    refine ⟨x0, by show x < ((nnC at').length : Int); rw [nnC_len]; omega, ?_⟩
    conv => whnf
    refine ⟨_, nnC_at x0 (by omega), ?_⟩
    conv => whnf
    refine .inl ⟨flat_int _, ?_⟩
    conv => whnf
    refine ⟨?_, ?_⟩
    · show ((nnC ((roots.take k.toNat).map (kid at'))).length + 1) * d3.bytes ≤ 140737488355328
      rw [nnC_len, List.length_map, List.length_take]
      simp only [d3]
      omega
    conv => whnf
    rw [wrp_i64 (x := k + 1) (by omega) (by omega)]
    refine ⟨roots.length - (k + 1).toNat, _, by omega, norm_wk (keep := [4, 6, 7, 8, 16, 17, 18]) (kb := [4, 6]) (ρ := [(200, some 200), (100, some 100), (28, some 300)]) rfl, ⟨k + 1, ?_, rfl, by omega, by omega⟩⟩
    rw [show (k + 1).toNat = k.toNat + 1 by omega, List.take_add_one, hx, List.map_append, show (some x).toList.map (kid at') = [kid at' x] from rfl, ← nnC_app]
    rfl
  · rw [ltI_f] at h
    try rw [hrl] at h
    rw [List.take_of_length_le (by omega), hK]
    exact ⟨rfl, rfl⟩

set_option maxRecDepth 100000 in
set_option maxHeartbeats 1000000 in
theorem s_l7Keep_ok (p : DPool) (roots : List Int) (hl : p.xNodes.length ≤ 400000) (hp : poolOk p.xNodes = true) (hr : roots.length ≤ 100000) (hR : ∀ r ∈ roots, Has p r) :
    FnV Tryz.prog 262 [pV p, nnV roots] fun rs outs => rs = [pR (keepN p.xNodes roots), nnR (keepR p.xNodes roots)] ∧ outs = [] := by
  refine fn_ok (E := E14) τ_ok mixed Tryz.func262 (by rfl) (by rfl) false (by simp [Tryz.f262]) ?_
  have hrl := nnC_len roots
  conv => whnf
  refine ⟨.take 2 (.or 0 (.or 1 (.or 3 (.or 4 (.take 5 .done) .nil) .nil) .nil) (.or 1 (.or 0 (.or 3 (.or 4 (.take 5 .done) .nil) .nil) (.or 3 (.or 0 (.or 4 (.take 5 .done) .nil) .nil) .nil)) .nil)), by rfl, ?_⟩
  apply Exists.intro
  refine ⟨?_, ?_⟩
  · conv => whnf
    repeat' (first
      | (refine (s_l7Reach_ok p roots (by omega) hp (by omega) hR).mono ?_; rintro _ _ ⟨rfl, rfl⟩; conv => whnf)
      | (refine (s_l7Into_ok [] p (reachL p.xNodes roots) (by decide) hl hp (reachL_len _ _)).mono ?_; rintro _ _ ⟨rfl, rfl⟩; conv => whnf)
      | exact norm_wk (keep := [1, 4, 6, 7]) (kb := [4, 6]) (ρ := [(5006000, some 200), (15, some 100)]) rfl
      | (refine ⟨?_, ?_⟩ <;> conv => whnf)
      | fail)
  conv => whnf
  have hN := keepN_d hp roots 0
  have hK := keepR_d hp roots hR 0
  obtain ⟨l1, -, -⟩ := mvS_len (d := 0) (is := reachL p.xNodes roots) (q := p.xNodes) (pre := []) (k := p.xNodes.length) (Nat.le_refl _)
  rw [hN]
  generalize (mvS 0 (reachL p.xNodes roots) p.xNodes [] p.xNodes.length).2 = at' at *
  refine ⟨fun m s => ∃ (k : Int), s = ⟨[(1, .vals false [.rd none 1 (nnC roots)]), (4, .bptr 4 0 0), (6, .bptr 6 0 0), (7, .vals false [.ref 100 0]), (8, .vals false [.ref 300 0]), (9, .vals false [.sc (.int .i64 k)])], [(4, ⟨0, [.nil 5]⟩), (6, ⟨0, [.ref 200 0]⟩)],
      [(200, ⟨true, 0, 0, true, 5, npC (keepN p.xNodes roots)⟩), (100, ⟨true, 0, 0, true, 1, nnC at'⟩), (300, ⟨true, 0, 0, true, 1, nnC ((roots.take k.toNat).map (kid at'))⟩)]⟩ ∧ m = roots.length - k.toNat ∧ 0 ≤ k ∧ k ≤ roots.length,
    ⟨_, _, norm_wk (keep := [1, 4, 6, 7, 8, 9]) (kb := [4, 6]) (ρ := [(200, some 200), (100, some 100), (16, some 300)]) rfl, ⟨0, rfl, rfl, by omega, by omega⟩⟩, ?_⟩
  rintro m _ ⟨k, rfl, rfl, k0, k1⟩
  conv => whnf
  refine br_if (fun h => ?_) (fun h => ?_) <;> (try rw [h]) <;> (conv => whnf)
  · rw [ltI_t] at h
    try rw [hrl] at h
    obtain ⟨x, hx⟩ : ∃ x, roots[k.toNat]? = some x := ⟨_, List.getElem?_eq_getElem (by omega)⟩
    obtain ⟨x0, x1⟩ := hR x (List.mem_of_getElem? hx)
    refine ⟨k0, _, by rw [List.getElem?_map, hx]; rfl, ?_⟩
    conv => whnf
    refine ⟨x0, by show x < ((nnC at').length : Int); rw [nnC_len]; omega, ?_⟩
    conv => whnf
    refine ⟨_, nnC_at x0 (by omega), ?_⟩
    conv => whnf
    refine .inl ⟨flat_int _, ?_⟩
    conv => whnf
    refine ⟨?_, ?_⟩
    · show ((nnC ((roots.take k.toNat).map (kid at'))).length + 1) * d3.bytes ≤ 140737488355328
      rw [nnC_len, List.length_map, List.length_take]
      simp only [d3]
      omega
    conv => whnf
    rw [wrp_i64 (x := k + 1) (by omega) (by omega)]
    refine ⟨roots.length - (k + 1).toNat, _, by omega, norm_wk (keep := [1, 4, 6, 7, 8, 9]) (kb := [4, 6]) (ρ := [(200, some 200), (100, some 100), (32, some 300)]) rfl, ⟨k + 1, ?_, rfl, by omega, by omega⟩⟩
    rw [show (k + 1).toNat = k.toNat + 1 by omega, List.take_add_one, hx, List.map_append, show (some x).toList.map (kid at') = [kid at' x] from rfl, ← nnC_app]
    rfl
  · rw [ltI_f] at h
    try rw [hrl] at h
    rw [List.take_of_length_le (by omega), hK]
    exact ⟨rfl, rfl⟩

end Go.Proofs.YtifodjnbcnbcpaaGreat.V

set_option linter.unusedVariables false

set_option linter.unusedSimpArgs false

namespace Go.Proofs.YtifodjnbcnbcpaaGreat.V

open Go

def MdE15 (f : Nat) : List Mode :=
  match f with
  | 324 => [.rd]
  | 325 => [.rd]
  | 343 => [.rd]
  | 344 => [.rd]
  | _ => []

def E15 : Env := ⟨τ, MdE15⟩

def nodeB (x : DNode) : List Int :=
  numI x.xKind ++ (if x.xKind = 2 ∨ x.xKind = 8 ∨ x.xKind = 9 then numI x.xN else if x.xKind = 3 then numI (x.xN + 1000000000) else if x.xKind = 4 then putText x.xS
    else if x.xKind = 5 then numI x.xA ++ numI x.xB else if x.xKind = 6 then numI x.xN ++ numI x.xA else if x.xKind = 7 then numI x.xA else [])

def packA (l : List DNode) : Nat → List Int
  | 0 => numI l.length
  | k + 1 => match l[k]? with
    | none => packA l k
    | some x => packA l k ++ nodeB x

def packL (l : List DNode) : List Int := packA l l.length

theorem packA_step {l : List DNode} {k : Nat} {x : DNode} (hx : l[k]? = some x) : packA l (k + 1) = packA l k ++ nodeB x := by simp only [packA, hx]

theorem nameI_size {s : ByteArray} (h : nameI s = 1) : s.size ≤ 12 := (nameOk_t.1 (nameI_t.2 h)).2.1

theorem putText12 {s : ByteArray} (h : s.size ≤ 12) : (putText s).length ≤ 22 := by
  have := numI_len (x := s.size) (by omega)
  simp only [putText, List.length_append, sb_len]
  omega

theorem nodeB_len {x : DNode} {n : Int} (h : NodeOk x n) (hn : n ≤ 1000000000) : (nodeB x).length ≤ 40 := by
  have h1 := numI_len (x := x.xKind)
  have h2 := numI_len (x := x.xN)
  have h3 := numI_len (x := x.xN + 1000000000)
  have h4 := numI_len (x := x.xA)
  have h5 := numI_len (x := x.xB)
  have b : x.xKind ≤ 9 ∧ x.xN ≤ 1000000000 ∧ x.xA ≤ 1000000000 ∧ x.xB ≤ 1000000000 := by
    rcases h with h | h | h | h | h | h | h | h | h <;> omega
  have hs : x.xKind = 4 → (putText x.xS).length ≤ 22 := fun e => putText12 (nameI_size ((node_k4 e).1 h).2.1)
  unfold nodeB
  rw [List.length_append]
  split
  · omega
  split
  · omega
  split
  · rename_i e; have := hs e; omega
  split
  · rw [List.length_append]; omega
  split
  · rw [List.length_append]; omega
  split
  · omega
  · simp only [List.length_nil]; omega

theorem packA_len {l : List DNode} (h : NodesOk l) (hl : l.length ≤ 400000) : ∀ k : Nat, k ≤ l.length → (packA l k).length ≤ 10 + 40 * k
  | 0, _ => by
    have := numI_len (x := l.length) (by omega)
    exact this
  | k + 1, hk => by
    have hx : l[k]? = some l[k] := List.getElem?_eq_getElem (by omega)
    rw [packA_step hx, List.length_append]
    have := packA_len h hl k (by omega)
    have := nodeB_len (h k _ hx) (by omega)
    omega

set_option maxRecDepth 100000 in
set_option maxHeartbeats 2000000 in
theorem i_pack_ok (p : DPool) (hp : NodesOk p.xNodes) (hl : p.xNodes.length ≤ 400000) : FnV Tryz.prog 292 [pV p] fun rs outs => rs = [oR (packL p.xNodes)] ∧ outs = [] := by
  refine fn_ok (E := E15) τ_ok mixed Tryz.func292 (by rfl) (by rfl) false (by simp [Tryz.f292]) ?_
  have hnl : (p.xNodes.map DNode.c).length = p.xNodes.length := List.length_map ..
  conv => whnf
  refine (i_PutNum_ok _ (by omega)).mono ?_
  rintro _ _ ⟨rfl, rfl⟩
  conv => whnf
  refine ⟨fun m s => ∃ (k : Int), s = ⟨[(3, .vals false [.ref 100 0]), (11, .vals false [.rd none 5 (npC p.xNodes)]), (12, .vals false [.sc (.int .i64 p.xNodes.length)]), (13, .vals false [.sc (.int .i64 k)])], [], [(100, ⟨true, 0, 0, true, 1, bts (packA p.xNodes k.toNat)⟩)]⟩ ∧ m = p.xNodes.length - k.toNat ∧ 0 ≤ k ∧ k ≤ p.xNodes.length,
    ⟨_, _, norm_wk (keep := [3, 11, 12, 13]) (kb := []) (ρ := [(9, some 100)]) rfl, ⟨0, by rw [hnl]; rfl, rfl, by omega, by omega⟩⟩, ?_⟩
  rintro m _ ⟨k, rfl, rfl, k0, k1⟩
  conv => whnf
  refine br_if (fun h => ?_) (fun h => ?_) <;> (try rw [h]) <;> (conv => whnf)
  · rw [ltI_t] at h
    try rw [hnl] at h
    obtain ⟨x, hx⟩ : ∃ x, p.xNodes[k.toNat]? = some x := ⟨_, List.getElem?_eq_getElem (by omega)⟩
    have hN := hp _ x hx
    have b : x.xKind ≤ 9 ∧ x.xN ≤ 1000000000 ∧ -1000000000 ≤ x.xN ∧ x.xA ≤ 1000000000 ∧ x.xB ≤ 1000000000 := by
      rcases hN with h | h | h | h | h | h | h | h | h <;> omega
    have hs : x.xKind = 4 → x.xS.size ≤ 12 := fun e => nameI_size ((node_k4 e).1 hN).2.1
    have q00 := packA_len hp hl k.toNat (by omega)
    have q1 := numI_len (x := x.xKind) (by omega)
    have q2 := numI_len (x := x.xN) (by omega)
    have wn : wrp .i64 (x.xN + 1000000000) = x.xN + 1000000000 := wrp_i64 (by omega) (by omega)
    have wk : wrp .i64 (k + 1) = k + 1 := wrp_i64 (by omega) (by omega)
    have q3 := numI_len (x := wrp .i64 (x.xN + 1000000000)) (by omega)
    have q4 := numI_len (x := x.xA) (by omega)
    have q5 := numI_len (x := x.xB) (by omega)
    refine ⟨k0, _, by rw [List.getElem?_map, hx]; rfl, ?_⟩
    conv => whnf
    have size : ∀ (acc y : List Int), acc.length ≤ 100000000 → y.length ≤ 30 → ((bts acc).length + (bts y).length) * d5.bytes ≤ 140737488355328 := fun acc y h1 h2 => by
      rw [bts_len, bts_len]
      simp only [d5]
      omega
    generalize ha : packA p.xNodes k.toNat = acc at *
    have q0 : acc.length ≤ 100000000 := by omega
    repeat' (first
      | (refine br_if (fun h => ?_) (fun h => ?_) <;> (try rw [h]) <;> (conv => whnf))
      | (refine (i_PutNum_ok _ (by omega)).mono ?_; rintro _ _ ⟨rfl, rfl⟩; conv => whnf)
      | (have q6 := putText12 (hs (eqI_t.1 ‹eqI x.xKind 4 = true›)); refine (i_PutText_ok _ (by have := hs (eqI_t.1 ‹eqI x.xKind 4 = true›); omega)).mono ?_; rintro _ _ ⟨rfl, rfl⟩; conv => whnf)
      | (refine .inl ⟨flat_bts _, ?_⟩; conv => whnf)
      | (refine ⟨by simp only [bts_len, List.length_append, d5]; omega, ?_⟩; conv => whnf)
      | fail)
    all_goals rw [wk]
    all_goals first
      | refine ⟨p.xNodes.length - (k + 1).toNat, _, by omega, norm_wk (keep := [3, 11, 12, 13]) (kb := []) (ρ := [(21, some 100)]) rfl, ⟨k + 1, ?_, rfl, by omega, by omega⟩⟩
      | refine ⟨p.xNodes.length - (k + 1).toNat, _, by omega, norm_wk (keep := [3, 11, 12, 13]) (kb := []) (ρ := [(32, some 100)]) rfl, ⟨k + 1, ?_, rfl, by omega, by omega⟩⟩
      | refine ⟨p.xNodes.length - (k + 1).toNat, _, by omega, norm_wk (keep := [3, 11, 12, 13]) (kb := []) (ρ := [(40, some 100)]) rfl, ⟨k + 1, ?_, rfl, by omega, by omega⟩⟩
      | refine ⟨p.xNodes.length - (k + 1).toNat, _, by omega, norm_wk (keep := [3, 11, 12, 13]) (kb := []) (ρ := [(47, some 100)]) rfl, ⟨k + 1, ?_, rfl, by omega, by omega⟩⟩
      | refine ⟨p.xNodes.length - (k + 1).toNat, _, by omega, norm_wk (keep := [3, 11, 12, 13]) (kb := []) (ρ := [(59, some 100)]) rfl, ⟨k + 1, ?_, rfl, by omega, by omega⟩⟩
      | refine ⟨p.xNodes.length - (k + 1).toNat, _, by omega, norm_wk (keep := [3, 11, 12, 13]) (kb := []) (ρ := [(71, some 100)]) rfl, ⟨k + 1, ?_, rfl, by omega, by omega⟩⟩
      | refine ⟨p.xNodes.length - (k + 1).toNat, _, by omega, norm_wk (keep := [3, 11, 12, 13]) (kb := []) (ρ := [(78, some 100)]) rfl, ⟨k + 1, ?_, rfl, by omega, by omega⟩⟩
    all_goals rw [show (k + 1).toNat = k.toNat + 1 by omega, packA_step hx, ha]
    all_goals simp only [eqI_t, eqI_f] at *
    all_goals try rw [wn]
    all_goals simp [nodeB, bts_append, *]
  · rw [ltI_f] at h
    try rw [hnl] at h
    rw [show k.toNat = p.xNodes.length by omega]
    exact ⟨rfl, rfl⟩

set_option maxRecDepth 100000 in
set_option maxHeartbeats 2000000 in
theorem s_pack_ok (p : DPool) (hp : NodesOk p.xNodes) (hl : p.xNodes.length ≤ 400000) : FnV Tryz.prog 263 [pV p] fun rs outs => rs = [oR (packL p.xNodes)] ∧ outs = [] := by
  refine fn_ok (E := E15) τ_ok mixed Tryz.func263 (by rfl) (by rfl) false (by simp [Tryz.f263]) ?_
  have hnl : (p.xNodes.map DNode.c).length = p.xNodes.length := List.length_map ..
  conv => whnf
  refine (s_PutNum_ok _ (by omega)).mono ?_
  rintro _ _ ⟨rfl, rfl⟩
  conv => whnf
  refine ⟨fun m s => ∃ (k : Int), s = ⟨[(1, .bptr 1 0 0), (3, .vals false [.ref 100 0]), (4, .vals false [.sc (.int .i64 k)])], [(1, ⟨0, [.rd none 5 (npC p.xNodes)]⟩)], [(100, ⟨true, 0, 0, true, 1, bts (packA p.xNodes k.toNat)⟩)]⟩ ∧ m = p.xNodes.length - k.toNat ∧ 0 ≤ k ∧ k ≤ p.xNodes.length,
    ⟨_, _, norm_wk (keep := [1, 3, 4]) (kb := [1]) (ρ := [(9, some 100)]) rfl, ⟨0, by rw [hnl]; rfl, rfl, by omega, by omega⟩⟩, ?_⟩
  rintro m _ ⟨k, rfl, rfl, k0, k1⟩
  conv => whnf
  refine br_if (fun h => ?_) (fun h => ?_) <;> (try rw [h]) <;> (conv => whnf)
  · rw [ltI_t] at h
    try rw [hnl] at h
    obtain ⟨x, hx⟩ : ∃ x, p.xNodes[k.toNat]? = some x := ⟨_, List.getElem?_eq_getElem (by omega)⟩
    have hN := hp _ x hx
    have b : x.xKind ≤ 9 ∧ x.xN ≤ 1000000000 ∧ -1000000000 ≤ x.xN ∧ x.xA ≤ 1000000000 ∧ x.xB ≤ 1000000000 := by
      rcases hN with h | h | h | h | h | h | h | h | h <;> omega
    have hs : x.xKind = 4 → x.xS.size ≤ 12 := fun e => nameI_size ((node_k4 e).1 hN).2.1
    have q00 := packA_len hp hl k.toNat (by omega)
    have q1 := numI_len (x := x.xKind) (by omega)
    have q2 := numI_len (x := x.xN) (by omega)
    have wn : wrp .i64 (x.xN + 1000000000) = x.xN + 1000000000 := wrp_i64 (by omega) (by omega)
    have wk : wrp .i64 (k + 1) = k + 1 := wrp_i64 (by omega) (by omega)
    have q3 := numI_len (x := wrp .i64 (x.xN + 1000000000)) (by omega)
    have q4 := numI_len (x := x.xA) (by omega)
    have q5 := numI_len (x := x.xB) (by omega)
    refine ⟨k0, _, by rw [List.getElem?_map, hx]; rfl, ?_⟩
    conv => whnf
    have size : ∀ (acc y : List Int), acc.length ≤ 100000000 → y.length ≤ 30 → ((bts acc).length + (bts y).length) * d5.bytes ≤ 140737488355328 := fun acc y h1 h2 => by
      rw [bts_len, bts_len]
      simp only [d5]
      omega
    generalize ha : packA p.xNodes k.toNat = acc at *
    have q0 : acc.length ≤ 100000000 := by omega
    repeat' (first
      | (refine br_if (fun h => ?_) (fun h => ?_) <;> (try rw [h]) <;> (conv => whnf))
      | (refine (s_PutNum_ok _ (by omega)).mono ?_; rintro _ _ ⟨rfl, rfl⟩; conv => whnf)
      | (have q6 := putText12 (hs (eqI_t.1 ‹eqI x.xKind 4 = true›)); refine (s_PutText_ok _ (by have := hs (eqI_t.1 ‹eqI x.xKind 4 = true›); omega)).mono ?_; rintro _ _ ⟨rfl, rfl⟩; conv => whnf)
      | (refine .inl ⟨flat_bts _, ?_⟩; conv => whnf)
      | (refine ⟨by simp only [bts_len, List.length_append, d5]; omega, ?_⟩; conv => whnf)
      | (refine ⟨.one (.take 0 (.take 1 (.take 5 (.early 2 (.early 6 (.or 3 (.or 4 (.or 7 (.or 8 (.take 9 .done) .nil) .nil) .nil) .nil)))))), by rfl, ?_⟩; conv => whnf)
      | (refine ⟨rfl, ?_⟩; conv => whnf)
      | fail)
    all_goals rw [wk]
    all_goals first
      | refine ⟨p.xNodes.length - (k + 1).toNat, _, by omega, norm_wk (keep := [1, 3, 4]) (kb := [1]) (ρ := [(26, some 100)]) rfl, ⟨k + 1, ?_, rfl, by omega, by omega⟩⟩
      | refine ⟨p.xNodes.length - (k + 1).toNat, _, by omega, norm_wk (keep := [1, 3, 4]) (kb := [1]) (ρ := [(37, some 100)]) rfl, ⟨k + 1, ?_, rfl, by omega, by omega⟩⟩
      | refine ⟨p.xNodes.length - (k + 1).toNat, _, by omega, norm_wk (keep := [1, 3, 4]) (kb := [1]) (ρ := [(45, some 100)]) rfl, ⟨k + 1, ?_, rfl, by omega, by omega⟩⟩
      | refine ⟨p.xNodes.length - (k + 1).toNat, _, by omega, norm_wk (keep := [1, 3, 4]) (kb := [1]) (ρ := [(52, some 100)]) rfl, ⟨k + 1, ?_, rfl, by omega, by omega⟩⟩
      | refine ⟨p.xNodes.length - (k + 1).toNat, _, by omega, norm_wk (keep := [1, 3, 4]) (kb := [1]) (ρ := [(63, some 100)]) rfl, ⟨k + 1, ?_, rfl, by omega, by omega⟩⟩
      | refine ⟨p.xNodes.length - (k + 1).toNat, _, by omega, norm_wk (keep := [1, 3, 4]) (kb := [1]) (ρ := [(74, some 100)]) rfl, ⟨k + 1, ?_, rfl, by omega, by omega⟩⟩
      | refine ⟨p.xNodes.length - (k + 1).toNat, _, by omega, norm_wk (keep := [1, 3, 4]) (kb := [1]) (ρ := [(81, some 100)]) rfl, ⟨k + 1, ?_, rfl, by omega, by omega⟩⟩
    all_goals rw [show (k + 1).toNat = k.toNat + 1 by omega, packA_step hx, ha]
    all_goals simp only [eqI_t, eqI_f] at *
    all_goals try rw [wn]
    all_goals simp [nodeB, bts_append, *]
  · rw [ltI_f] at h
    try rw [hnl] at h
    rw [show k.toNat = p.xNodes.length by omega]
    exact ⟨rfl, rfl⟩

end Go.Proofs.YtifodjnbcnbcpaaGreat.V

set_option linter.unusedVariables false

set_option linter.unusedSimpArgs false

namespace Go.Proofs.YtifodjnbcnbcpaaGreat.V

open Go

def MdE16 (f : Nat) : List Mode :=
  match f with
  | 198 => [.rd]
  | 199 => [.rd, .rd]
  | 211 => [.rd]
  | 212 => [.rd, .rd]
  | 262 => [.rd, .rd]
  | 263 => [.rd]
  | 279 => [.rd, .rd]
  | 292 => [.rd]
  | _ => []

def E16 : Env := ⟨τ, MdE16⟩

noncomputable def vpOk (l : List DNode) (v : Int) : Bool := clB (poolOk l = true ∧ 0 ≤ v ∧ v < l.length)

noncomputable def vpS (l : List DNode) (v : Int) : ByteArray := if vpOk l v = true then strOfNums (packL (keepN l [v])) else ⟨#[]⟩

theorem vp_no {l : List DNode} {v : Int} (h : ¬ (poolOk l = true ∧ 0 ≤ v ∧ v < l.length)) : [sR ⟨#[]⟩, bR false] = [sR (vpS l v), bR (vpOk l v)] ∧ ([] : List (List C)) = [] := by
  have e : vpOk l v = false := clB_f.2 h
  unfold vpS
  rw [e]
  exact ⟨rfl, rfl⟩

theorem vp_yes {l : List DNode} {v : Int} (h : poolOk l = true ∧ 0 ≤ v ∧ v < l.length) : [sR (strOfNums (packL (keepN l [v]))), bR true] = [sR (vpS l v), bR (vpOk l v)] ∧ ([] : List (List C)) = [] := by
  have e : vpOk l v = true := clB_t.2 h
  unfold vpS
  rw [e]
  exact ⟨rfl, rfl⟩

set_option maxRecDepth 100000 in
set_option maxHeartbeats 1000000 in
theorem s_ValuePack_ok (p : DPool) (v : Int) (ho : p.ok) : FnV Tryz.prog 201 [pV p, iV v] fun rs outs => rs = [sR (vpS p.xNodes v), bR (vpOk p.xNodes v)] ∧ outs = [] := by
  refine fn_ok (E := E16) τ_ok mixed Tryz.func201 (by rfl) (by rfl) false (by simp [Tryz.f201]) ?_
  have hl := ho.1
  conv => whnf
  refine (s_PoolOk_ok p ho).mono ?_
  rintro _ _ ⟨rfl, rfl⟩
  conv => whnf
  refine br_if (fun h1 => ?_) (fun h1 => ?_) <;> (try rw [h1]) <;> (conv => whnf)
  · exact vp_no fun h => by rw [notB_t, h.1] at h1; cases h1
  rw [notB_f] at h1
  have h3 := (poolOk_t.1 h1).1
  refine (s_l2Has_ok p v hl).mono ?_
  rintro _ _ ⟨rfl, rfl⟩
  conv => whnf
  refine br_if (fun h2 => ?_) (fun h2 => ?_) <;> (try rw [h2]) <;> (conv => whnf)
  · exact vp_no fun h => by rw [notB_t, decide_eq_false_iff_not] at h2; exact h2 h.2
  rw [notB_f, decide_eq_true_iff] at h2
  refine (s_l7Keep_ok p [v] (by omega) h1 (by simp) (fun r hr => by rw [List.mem_singleton.1 hr]; exact h2)).mono ?_
  rintro _ _ ⟨rfl, rfl⟩
  conv => whnf
  have hk := keep_len p.xNodes [v]
  have hok := keep_ok h1 [v]
  refine (s_pack_ok ⟨keepN p.xNodes [v]⟩ (poolOk_t.1 hok).2 (by show (keepN p.xNodes [v]).length ≤ 400000; omega)).mono ?_
  rintro _ _ ⟨rfl, rfl⟩
  conv => whnf
  refine ⟨packL (keepN p.xNodes [v]), by simp [bts], ?_⟩
  conv => whnf
  exact vp_yes ⟨h1, h2⟩

set_option maxRecDepth 100000 in
set_option maxHeartbeats 1000000 in
theorem i_ValuePack_ok (p : DPool) (v : Int) (ho : p.ok) : FnV Tryz.prog 227 [pV p, iV v] fun rs outs => rs = [sR (vpS p.xNodes v), bR (vpOk p.xNodes v)] ∧ outs = [] := by
  refine fn_ok (E := E16) τ_ok mixed Tryz.func227 (by rfl) (by rfl) false (by simp [Tryz.f227]) ?_
  have hl := ho.1
  conv => whnf
  refine (i_PoolOk_ok p ho).mono ?_
  rintro _ _ ⟨rfl, rfl⟩
  conv => whnf
  refine br_if (fun h1 => ?_) (fun h1 => ?_) <;> (try rw [h1]) <;> (conv => whnf)
  · exact vp_no fun h => by rw [notB_t, h.1] at h1; cases h1
  rw [notB_f] at h1
  have h3 := (poolOk_t.1 h1).1
  refine (i_isNode_ok p v hl).mono ?_
  rintro _ _ ⟨rfl, rfl⟩
  conv => whnf
  refine br_if (fun h2 => ?_) (fun h2 => ?_) <;> (try rw [h2]) <;> (conv => whnf)
  · exact vp_no fun h => by rw [notB_t, decide_eq_false_iff_not] at h2; exact h2 h.2
  rw [notB_f, decide_eq_true_iff] at h2
  refine (i_keep_ok p [v] (by omega) h1 (by simp) (fun r hr => by rw [List.mem_singleton.1 hr]; exact h2)).mono ?_
  rintro _ _ ⟨rfl, rfl⟩
  conv => whnf
  have hk := keep_len p.xNodes [v]
  have hok := keep_ok h1 [v]
  refine (i_pack_ok ⟨keepN p.xNodes [v]⟩ (poolOk_t.1 hok).2 (by show (keepN p.xNodes [v]).length ≤ 400000; omega)).mono ?_
  rintro _ _ ⟨rfl, rfl⟩
  conv => whnf
  refine ⟨packL (keepN p.xNodes [v]), by simp [bts], ?_⟩
  conv => whnf
  exact vp_yes ⟨h1, h2⟩

end Go.Proofs.YtifodjnbcnbcpaaGreat.V

set_option linter.unusedVariables false

set_option linter.unusedSimpArgs false

namespace Go.Proofs.YtifodjnbcnbcpaaGreat.V

open Go

def MdE17 (f : Nat) : List Mode :=
  match f with
  | 330 => [.mptr]
  | 359 => [.mptr]
  | _ => []

def E17 : Env := ⟨τ, MdE17⟩

def Pos (zs : List Int) (a : Int) : Prop := 0 ≤ a ∧ a ≤ zs.length

theorem posJ {zs : List Int} (hz : Bytes zs) (a : Int) : Pos zs (gJ zs a) := by
  have := g_cases zs a hz
  unfold Pos
  omega

theorem gX_r {zs : List Int} (hz : Bytes zs) (a : Int) : 0 ≤ gX zs a ∧ gX zs a ≤ 9223372036854775807 := by
  have := g_cases zs a hz
  omega

def nd0 (k : Int) : DNode := ⟨k, 0, ⟨#[]⟩, 0, 0⟩

noncomputable def ndP (zs : List Int) (a : Int) : Option (DNode × Int) :=
  if gB zs a = true then
    (if gX zs a = 2 ∨ gX zs a = 8 ∨ gX zs a = 9 then (if gB zs (gJ zs a) = true then some (⟨gX zs a, gX zs (gJ zs a), ⟨#[]⟩, 0, 0⟩, gJ zs (gJ zs a)) else none)
    else if gX zs a = 3 then (if gB zs (gJ zs a) = true then some (⟨gX zs a, gX zs (gJ zs a) - 1000000000, ⟨#[]⟩, 0, 0⟩, gJ zs (gJ zs a)) else none)
    else if gX zs a = 4 then (if tB zs (gJ zs a) = true then some (⟨gX zs a, 0, tS zs (gJ zs a), 0, 0⟩, tJ zs (gJ zs a)) else none)
    else if gX zs a = 5 then (if gB zs (gJ zs a) = true ∧ gB zs (gJ zs (gJ zs a)) = true then some (⟨gX zs a, 0, ⟨#[]⟩, gX zs (gJ zs a), gX zs (gJ zs (gJ zs a))⟩, gJ zs (gJ zs (gJ zs a))) else none)
    else if gX zs a = 6 then (if gB zs (gJ zs a) = true ∧ gB zs (gJ zs (gJ zs a)) = true then some (⟨gX zs a, gX zs (gJ zs a), ⟨#[]⟩, gX zs (gJ zs (gJ zs a)), 0⟩, gJ zs (gJ zs (gJ zs a))) else none)
    else if gX zs a = 7 then (if gB zs (gJ zs a) = true then some (⟨gX zs a, 0, ⟨#[]⟩, gX zs (gJ zs a), 0⟩, gJ zs (gJ zs a)) else none)
    else some (nd0 (gX zs a), gJ zs a))
  else none

def NdPost (zs : List Int) (a : Int) (ok : Bool) (x : DNode) (a' : Int) (ok' : Bool) : Prop :=
  x.ok ∧ Pos zs a' ∧ ((ok' = true ∧ ok = true ∧ ndP zs a = some (x, a')) ∨ (ok' = false ∧ (ok = false ∨ ndP zs a = none)))

theorem posT {zs : List Int} (hz : Bytes zs) (a : Int) : Pos zs (tJ zs a) := by
  unfold tJ
  split
  · rename_i h
    unfold tB at h
    simp only [Bool.and_eq_true, decide_eq_true_eq] at h
    have := gX_r hz a
    have := posJ hz a
    unfold Pos at *
    omega
  · unfold Pos
    omega

theorem rd_num {zs : List Int} {a : Int} (ok : Bool) (hz : Bytes zs) (hl : zs.length ≤ 1000000000) (hp : Pos zs a) :
    FnV Tryz.prog 330 [curV zs a ok] fun rs outs => (gB zs a = true ∧ rs = [iR (gX zs a)] ∧ outs = [curC zs (gJ zs a) ok]) ∨ (gB zs a = false ∧ rs = [iR 0] ∧ outs = [curC zs a false]) := by
  unfold Pos at hp
  exact i_rd_num_ok zs a ok hz hl (by omega) (by omega)

theorem rd_text {zs : List Int} {a : Int} (ok : Bool) (hz : Bytes zs) (hl : zs.length ≤ 1000000000) (hp : Pos zs a) :
    FnV Tryz.prog 359 [curV zs a ok] fun rs outs => (tB zs a = true ∧ rs = [sR (tS zs a)] ∧ outs = [curC zs (tJ zs a) ok]) ∨ (tB zs a = false ∧ rs = [sR ⟨#[]⟩] ∧ outs = [curC zs a false]) := by
  unfold Pos at hp
  exact i_rd_text_ok zs a ok hz hl (by omega) (by omega)

theorem strOfNums_size (l : List Int) : (strOfNums l).size = l.length := by
  show (l.map fun n : Int => UInt8.ofNat n.toNat).toArray.size = l.length
  simp

theorem tS_size (zs : List Int) (a : Int) : (tS zs a).size ≤ zs.length := by
  unfold tS
  split
  · rw [strOfNums_size, List.length_drop, List.length_take]
    omega
  · exact Nat.zero_le _

set_option maxRecDepth 100000 in
set_option maxHeartbeats 4000000 in
theorem i_node_ok (zs : List Int) (a : Int) (ok : Bool) (hz : Bytes zs) (hl : zs.length ≤ 1000000000) (hp : Pos zs a) :
    FnV Tryz.prog 331 [curV zs a ok] fun rs outs => ∃ x a' ok', rs = [x.r] ∧ outs = [curC zs a' ok'] ∧ NdPost zs a ok x a' ok' := by
  refine fn_ok (E := E17) τ_ok mixed Tryz.func331 (by rfl) (by rfl) false (by simp [Tryz.f331]) ?_
  conv => whnf
  have pJ : ∀ b, Pos zs (gJ zs b) := posJ hz
  have pT : ∀ b, Pos zs (tJ zs b) := posT hz
  have gr : ∀ b, 0 ≤ gX zs b ∧ gX zs b ≤ 9223372036854775807 := gX_r hz
  have ts : ∀ b, (tS zs b).size ≤ 9223372036854775807 := fun b => by have := tS_size zs b; omega
  have w1 : ∀ b, wrp .i64 (gX zs b - 1000000000) = gX zs b - 1000000000 := fun b => by have := gr b; exact wrp_i64 (by omega) (by omega)
  have w2 : wrp .i64 (0 - 1000000000) = -1000000000 := wrp_i64 (by decide) (by decide)
  repeat' (first
    | (refine br_if (fun h => ?_) (fun h => ?_) <;> (try rw [h]) <;> (conv => whnf))
    | (refine (rd_num _ hz hl (by first | exact hp | exact pJ _ | exact pT _)).mono ?_; rintro _ _ (⟨h, rfl, rfl⟩ | ⟨h, rfl, rfl⟩) <;> (conv => whnf))
    | (refine (rd_text _ hz hl (by first | exact hp | exact pJ _ | exact pT _)).mono ?_; rintro _ _ (⟨h, rfl, rfl⟩ | ⟨h, rfl, rfl⟩) <;> (conv => whnf))
    | fail)
  all_goals simp only [eqI_t, eqI_f, w1, w2] at *
  all_goals refine ⟨⟨_, _, _, _, _⟩, _, _, rfl, rfl, ⟨⟨?_, ?_, ?_, ?_, ?_⟩, ?_, ?_⟩⟩
  all_goals first
    | exact hp
    | exact pJ _
    | exact pT _
    | exact ts _
    | exact Nat.zero_le _
    | (have := gr; simp only; constructor <;> first | omega | (have := gr (gJ zs a); omega) | (have := gr a; omega) | (have := gr (gJ zs (gJ zs a)); omega))
    | skip
  all_goals first
    | (exfalso; omega)
    | (refine .inr ⟨rfl, .inr ?_⟩; simp [ndP, nd0, *]; done)
    | (cases ok
       · exact .inr ⟨rfl, .inl rfl⟩
       · refine .inl ⟨rfl, rfl, ?_⟩
         simp [ndP, nd0, *]
         done)

end Go.Proofs.YtifodjnbcnbcpaaGreat.V

set_option linter.unusedVariables false

set_option linter.unusedSimpArgs false

namespace Go.Proofs.YtifodjnbcnbcpaaGreat.V

open Go

def MdE18 (f : Nat) : List Mode :=
  match f with
  | 330 => [.mptr]
  | 331 => [.mptr]
  | _ => []

def E18 : Env := ⟨τ, MdE18⟩

noncomputable def ndsS (zs : List Int) (a : Int) : Nat → Option (List DNode × Int)
  | 0 => some ([], a)
  | k + 1 => match ndsS zs a k with
    | none => none
    | some (l, b) => match ndP zs b with
      | none => none
      | some (x, b') => some (l ++ [x], b')

theorem ndsS_none {zs : List Int} {a : Int} {k : Nat} (h : ndsS zs a k = none) : ∀ n : Nat, k ≤ n → ndsS zs a n = none
  | 0, hn => by obtain rfl : k = 0 := by omega
                exact h
  | n + 1, hn => by
    rcases Nat.lt_or_ge n k with h1 | h1
    · obtain rfl : k = n + 1 := by omega
      exact h
    · simp only [ndsS, ndsS_none h n h1]

theorem ndsS_step {zs : List Int} {a b b' : Int} {k : Nat} {l : List DNode} {x : DNode} (h : ndsS zs a k = some (l, b)) (hx : ndP zs b = some (x, b')) : ndsS zs a (k + 1) = some (l ++ [x], b') := by
  simp only [ndsS, h, hx]

theorem ndsS_fail {zs : List Int} {a b : Int} {k : Nat} {l : List DNode} (h : ndsS zs a k = some (l, b)) (hx : ndP zs b = none) : ndsS zs a (k + 1) = none := by
  simp only [ndsS, h, hx]

noncomputable def poolP (zs : List Int) (a : Int) : Option (List DNode × Int) :=
  if gB zs a = true ∧ gX zs a ≤ 3000 then ndsS zs (gJ zs a) (gX zs a).toNat else none

def PlPost (zs : List Int) (a : Int) (ok : Bool) (l : List DNode) (a' : Int) (ok' : Bool) : Prop :=
  (∀ x ∈ l, x.ok) ∧ l.length ≤ 3001 ∧ Pos zs a' ∧
    ((ok' = true ∧ ok = true ∧ poolP zs a = some (l, a')) ∨ (ok' = true ∧ ok = true ∧ l.length = 3001 ∧ poolP zs a = none) ∨ (ok' = false ∧ (ok = false ∨ poolP zs a = none)))

def PlInv (zs : List Int) (a : Int) (ok : Bool) (cnt : Int) (k : Int) (l : List DNode) (b : Int) (okb : Bool) : Prop :=
  (∀ x ∈ l, x.ok) ∧ (l.length : Int) = k ∧ k ≤ 3001 ∧ 0 ≤ k ∧ (k = 0 ∨ k ≤ cnt) ∧ Pos zs b ∧
    ((okb = true ∧ ok = true ∧ gB zs a = true ∧ cnt = gX zs a ∧ ndsS zs (gJ zs a) k.toNat = some (l, b)) ∨ (okb = false ∧ (ok = false ∨ gB zs a = false ∨ (cnt = gX zs a ∧ k ≤ cnt ∧ ndsS zs (gJ zs a) k.toNat = none) ∨ poolP zs a = none)))

theorem pl_start {zs : List Int} (hz : Bytes zs) {a : Int} {ok : Bool} (h : gB zs a = true) : PlInv zs a ok (gX zs a) 0 [] (gJ zs a) ok :=
  ⟨fun x hx => (by cases hx), rfl, by omega, by omega, .inl rfl, posJ hz a, by cases ok; exact .inr ⟨rfl, .inl rfl⟩; exact .inl ⟨rfl, rfl, h, rfl, rfl⟩⟩

theorem pl_start0 {zs : List Int} {a : Int} {ok : Bool} (hp : Pos zs a) (h : gB zs a = false) : PlInv zs a ok 0 0 [] a false :=
  ⟨fun x hx => (by cases hx), rfl, by omega, by omega, .inl rfl, hp, .inr ⟨rfl, .inr (.inl h)⟩⟩

theorem pl_step {zs : List Int} {a : Int} {ok : Bool} {cnt k : Int} {l : List DNode} {b b' : Int} {ok' : Bool} {x : DNode} (h : PlInv zs a ok cnt k l b true) (hk : k < cnt) (h3 : k ≤ 3000) (hx : NdPost zs b true x b' ok') : PlInv zs a ok cnt (k + 1) (l ++ [x]) b' ok' := by
  obtain ⟨h1, h2, h4, h5, h6, h7, h8⟩ := h
  obtain ⟨x1, x2, x3⟩ := hx
  refine ⟨fun y hy => ?_, by rw [List.length_append, List.length_singleton]; omega, by omega, by omega, .inr (by omega), x2, ?_⟩
  · rw [List.mem_append, List.mem_singleton] at hy
    rcases hy with hy | rfl
    · exact h1 y hy
    · exact x1
  · have ek : (k + 1).toNat = k.toNat + 1 := by omega
    rcases h8 with ⟨_, e2, e3, e4, e5⟩ | ⟨e1, _⟩
    · rcases x3 with ⟨f1, _, f3⟩ | ⟨f1, f2⟩
      · exact .inl ⟨f1, e2, e3, e4, by rw [ek]; exact ndsS_step e5 f3⟩
      · rcases f2 with f2 | f2
        · cases f2
        · exact .inr ⟨f1, .inr (.inr (.inl ⟨e4, by omega, by rw [ek]; exact ndsS_fail e5 f2⟩))⟩
    · cases e1

theorem pl_end {zs : List Int} {a : Int} {ok : Bool} {cnt k : Int} {l : List DNode} {b : Int} {okb : Bool} (h : PlInv zs a ok cnt k l b okb) (hc : 0 ≤ cnt) (he : cnt ≤ k ∨ okb = false ∨ 3000 < k) : PlPost zs a ok l b okb := by
  obtain ⟨h1, h2, h4, h5, h6, h7, h8⟩ := h
  refine ⟨h1, by omega, h7, ?_⟩
  rcases h8 with ⟨e1, e2, e3, e4, e5⟩ | ⟨e1, e2⟩
  · by_cases hb : 3000 < k
    · refine .inr (.inl ⟨e1, e2, by omega, ?_⟩)
      unfold poolP
      rw [if_neg (by omega)]
    · have : cnt ≤ k := by
        rcases he with he | he | he
        · exact he
        · rw [he] at e1; cases e1
        · omega
      refine .inl ⟨e1, e2, ?_⟩
      unfold poolP
      rw [if_pos ⟨e3, by omega⟩, ← e4, show cnt.toNat = k.toNat by omega]
      exact e5
  · refine .inr (.inr ⟨e1, ?_⟩)
    rcases e2 with e2 | e2 | ⟨e2, e3, e4⟩ | e2
    · exact .inl e2
    · right
      unfold poolP
      rw [if_neg (by rw [e2]; simp)]
    · right
      unfold poolP
      split
      · exact ndsS_none e4 _ (by omega)
      · rfl
    · exact .inr e2

set_option maxRecDepth 100000 in
set_option maxHeartbeats 4000000 in
theorem i_nodes_ok (zs : List Int) (a : Int) (ok : Bool) (hz : Bytes zs) (hl : zs.length ≤ 1000000000) (hp : Pos zs a) :
    FnV Tryz.prog 277 [curV zs a ok] fun rs outs => ∃ l a' ok', rs = [pR l] ∧ outs = [curC zs a' ok'] ∧ PlPost zs a ok l a' ok' := by
  refine fn_ok (E := E18) τ_ok mixed Tryz.func277 (by rfl) (by rfl) false (by simp [Tryz.f277]) ?_
  conv => whnf
  refine (rd_num _ hz hl hp).mono ?_
  have key : ∃ cnt b okb, 0 ≤ cnt ∧ cnt ≤ 9223372036854775807 ∧ PlInv zs a ok cnt 0 [] b okb ∧ ∀ rs outs, ((gB zs a = true ∧ rs = [iR (gX zs a)] ∧ outs = [curC zs (gJ zs a) ok]) ∨ (gB zs a = false ∧ rs = [iR 0] ∧ outs = [curC zs a false])) → rs = [iR cnt] ∧ outs = [curC zs b okb] := by
    cases h : gB zs a with
    | true =>
      have := gX_r hz a
      refine ⟨gX zs a, gJ zs a, ok, by omega, by omega, pl_start hz h, ?_⟩
      rintro _ _ (⟨_, rfl, rfl⟩ | ⟨h, _⟩)
      · exact ⟨rfl, rfl⟩
      · cases h
    | false =>
      refine ⟨0, a, false, by omega, by omega, pl_start0 hp h, ?_⟩
      rintro _ _ (⟨h, _⟩ | ⟨_, rfl, rfl⟩)
      · cases h
      · exact ⟨rfl, rfl⟩
  obtain ⟨cnt, b0, okb0, c0, c1, hI, hk⟩ := key
  intro rs outs hh
  obtain ⟨rfl, rfl⟩ := hk rs outs hh
  clear hh hk
  conv => whnf
  refine ⟨fun m s => ∃ (k : Int) (l : List DNode) (b : Int) (okb : Bool), PlInv zs a ok cnt k l b okb ∧ m = (3002 - k).toNat ∧
      ((l = [] ∧ s = ⟨[(0, .bptr 1000000 0 0), (2, .bptr 2 0 0), (3, .bptr 3 0 0), (4, .vals false [.sc (.int .i64 cnt)]), (5, .vals false [.sc (.int .i64 k)])],
        [(1000000, ⟨0, [.rd none 1 (bts zs), .sc (.int .i64 b), .sc (.bool okb)]⟩), (2, ⟨0, [.nil 5]⟩), (3, ⟨0, [.nil 5]⟩)], []⟩) ∨
       s = ⟨[(0, .bptr 1000000 0 0), (2, .bptr 2 0 0), (3, .bptr 3 0 0), (4, .vals false [.sc (.int .i64 cnt)]), (5, .vals false [.sc (.int .i64 k)])],
        [(1000000, ⟨0, [.rd none 1 (bts zs), .sc (.int .i64 b), .sc (.bool okb)]⟩), (2, ⟨0, [.nil 5]⟩), (3, ⟨0, [.ref 200 0]⟩)], [(200, ⟨true, 0, 0, true, 5, npC l⟩)]⟩),
    ⟨_, _, norm_wk (keep := [0, 2, 3, 4, 5]) (kb := [1000000, 2, 3]) (ρ := []) rfl, ⟨0, [], b0, okb0, hI, rfl, .inl ⟨rfl, rfl⟩⟩⟩, ?_⟩
  rintro m _ ⟨k, l, b, okb, hI, rfl, hs⟩
  have hk0 := hI.2.2.1
  have hk1 := hI.2.2.2.1
  have hll := hI.2.1
  have hpb := hI.2.2.2.2.2.1
  have hsz : ∀ n : Nat, n = 1 → ((npC l).length + n) * d231.bytes ≤ 140737488355328 := fun n hn => by
    rw [hn, npC_len]
    simp only [d231]
    omega
  rcases hs with ⟨rfl, rfl⟩ | rfl
  all_goals conv => whnf
  all_goals
    refine br_if (fun h1 => ?_) (fun h1 => ?_) <;> (try rw [h1]) <;> (conv => whnf)
  case' inr.refine_2 | inl.refine_2 =>
    rw [ltI_f] at h1
    exact ⟨_, _, _, rfl, rfl, pl_end hI c0 (.inl h1)⟩
  all_goals
    rw [ltI_t] at h1
    cases okb
  case' inl.refine_1.false | inr.refine_1.false =>
    conv => whnf
    exact ⟨_, _, _, rfl, rfl, pl_end hI c0 (.inr (.inl rfl))⟩
  all_goals conv => whnf
  all_goals
    refine br_if (fun h3 => ?_) (fun h3 => ?_) <;> (try rw [h3]) <;> (conv => whnf)
  case' inl.refine_1.true.refine_2 | inr.refine_1.true.refine_2 =>
    rw [leI_f] at h3
    exact ⟨_, _, _, rfl, rfl, pl_end hI c0 (.inr (.inr h3))⟩
  all_goals
    rw [leI_t] at h3
    refine (i_node_ok zs b true hz hl hpb).mono ?_
    rintro _ _ ⟨x, b', ok', rfl, rfl, hx⟩
    conv => whnf
    refine .inl ⟨flat_node x, ?_⟩
    conv => whnf
  all_goals
    refine ⟨hsz _ rfl, ?_⟩
    conv => whnf
    rw [wrp_i64 (x := k + 1) (by omega) (by omega)]
    refine ⟨(3002 - (k + 1)).toNat, _, by omega, norm_wk (keep := [0, 2, 3, 4, 5]) (kb := [1000000, 2, 3]) (ρ := [(31, some 200)]) rfl, ⟨k + 1, _, b', ok', pl_step hI h1 h3 hx, rfl, .inr ?_⟩⟩
    rw [← npC_app]
    rfl

end Go.Proofs.YtifodjnbcnbcpaaGreat.V

set_option linter.unusedVariables false

set_option linter.unusedSimpArgs false

namespace Go.Proofs.YtifodjnbcnbcpaaGreat.V

open Go

def MdE19 (f : Nat) : List Mode :=
  match f with
  | 198 => [.rd]
  | 260 => [.mptr]
  | 261 => [.rd, .rd]
  | _ => []

def E19 : Env := ⟨τ, MdE19⟩

theorem s_num {zs : List Int} {a : Int} (ok : Bool) (hz : Bytes zs) (hl : zs.length ≤ 1000000000) (hp : Pos zs a) :
    FnV Tryz.prog 260 [curV zs a ok] fun rs outs => ((gB zs a && ok) = true ∧ rs = [iR (gX zs a)] ∧ outs = [curC zs (gJ zs a) ok]) ∨ ((gB zs a && ok) = false ∧ rs = [iR 0] ∧ outs = [curC zs a false]) := by
  unfold Pos at hp
  exact s_l8Num_ok zs a ok hz hl (by omega) (by omega)

theorem s_num_t {zs : List Int} {a : Int} (hz : Bytes zs) (hl : zs.length ≤ 1000000000) (hp : Pos zs a) :
    FnV Tryz.prog 260 [curV zs a true] fun rs outs => (gB zs a = true ∧ rs = [iR (gX zs a)] ∧ outs = [curC zs (gJ zs a) true]) ∨ (gB zs a = false ∧ rs = [iR 0] ∧ outs = [curC zs a false]) := by
  refine (s_num true hz hl hp).mono ?_
  rintro _ _ (⟨h, rfl, rfl⟩ | ⟨h, rfl, rfl⟩)
  · rw [Bool.and_true] at h
    exact .inl ⟨h, rfl, rfl⟩
  · rw [Bool.and_true] at h
    exact .inr ⟨h, rfl, rfl⟩

theorem s_num_f {zs : List Int} {a : Int} (hz : Bytes zs) (hl : zs.length ≤ 1000000000) (hp : Pos zs a) :
    FnV Tryz.prog 260 [curV zs a false] fun rs outs => rs = [iR 0] ∧ outs = [curC zs a false] := by
  refine (s_num false hz hl hp).mono ?_
  rintro _ _ (⟨h, rfl, rfl⟩ | ⟨h, rfl, rfl⟩)
  · rw [Bool.and_false] at h
    cases h
  · exact ⟨rfl, rfl⟩

theorem s_text {zs : List Int} {a : Int} (hz : Bytes zs) (hl : zs.length ≤ 1000000000) (hp : Pos zs a) :
    FnV Tryz.prog 261 [bV zs, iV a] fun rs outs => rs = [sR (tS zs a), iR (tJ zs a), bR (tB zs a)] ∧ outs = [] := by
  unfold Pos at hp
  exact s_GetText_ok zs a hz hl (by omega) (by omega)

theorem flat5 (a b d e : Int) (c : ByteArray) : Flat 5 [[.sc (.int .i64 a), .sc (.int .i64 b), .sc (.string c), .sc (.int .i64 d), .sc (.int .i64 e)]] := flat_node ⟨a, b, c, d, e⟩

noncomputable def allP (zs : List Int) (a : Int) : Option (List DNode) :=
  match poolP zs a with
  | some (l, b) => if b = zs.length ∧ poolOk l = true then some l else none
  | none => none

theorem end_f {zs : List Int} {a b : Int} {ok : Bool} {l : List DNode} (h : PlPost zs a ok l b false) : ok = false ∨ allP zs a = none := by
  obtain ⟨-, -, -, h⟩ := h
  rcases h with ⟨h, _⟩ | ⟨h, _⟩ | ⟨_, h | h⟩
  · cases h
  · cases h
  · exact .inl h
  · right
    unfold allP
    rw [h]

theorem end_t {zs : List Int} {a b : Int} {ok : Bool} {l : List DNode} (h : PlPost zs a ok l b true) (c : Bool) (hc : c = true ↔ b = zs.length ∧ poolOk l = true) :
    (c = true ∧ ok = true ∧ allP zs a = some l) ∨ (c = false ∧ (ok = false ∨ allP zs a = none)) := by
  obtain ⟨-, -, -, h⟩ := h
  rcases h with ⟨_, h1, h2⟩ | ⟨_, h1, h2, h3⟩ | ⟨h, _⟩
  · cases c with
    | true => exact .inl ⟨rfl, h1, by unfold allP; rw [h2]; simp only; rw [if_pos (hc.1 rfl)]⟩
    | false => exact .inr ⟨rfl, .inr (by unfold allP; rw [h2]; simp only; rw [if_neg (fun h => by cases hc.2 h)])⟩
  · refine .inr ⟨?_, .inr (by unfold allP; rw [h3])⟩
    cases c with
    | true =>
      have := (poolOk_t.1 (hc.1 rfl).2).1
      omega
    | false => rfl
  · cases h

set_option maxRecDepth 100000 in
set_option maxHeartbeats 8000000 in
theorem s_l8Read_ok (zs : List Int) (a : Int) (ok : Bool) (hz : Bytes zs) (hl : zs.length ≤ 1000000000) (hp : Pos zs a) :
    FnV Tryz.prog 200 [curV zs a ok] fun rs outs => ∃ l a' ok', rs = [pR l] ∧ outs = [curC zs a' ok'] ∧ (∀ x ∈ l, x.ok) ∧ l.length ≤ 3001 ∧ Pos zs a' ∧
      ((ok' = true ∧ ok = true ∧ allP zs a = some l) ∨ (ok' = false ∧ (ok = false ∨ allP zs a = none))) := by
  refine fn_ok (E := E19) τ_ok mixed Tryz.func200 (by rfl) (by rfl) false (by simp [Tryz.f200]) ?_
  conv => whnf
  have pJ : ∀ b, Pos zs (gJ zs b) := posJ hz
  have pT : ∀ b, Pos zs (tJ zs b) := posT hz
  have gr : ∀ b, 0 ≤ gX zs b ∧ gX zs b ≤ 9223372036854775807 := gX_r hz
  have ts : ∀ b, (tS zs b).size ≤ 9223372036854775807 := fun b => by have := tS_size zs b; omega
  have w1 : ∀ b, wrp .i64 (gX zs b - 1000000000) = gX zs b - 1000000000 := fun b => by have := gr b; exact wrp_i64 (by omega) (by omega)
  have w2 : wrp .i64 (0 - 1000000000) = -1000000000 := wrp_i64 (by decide) (by decide)
  refine (s_num _ hz hl hp).mono ?_
  have key : ∃ cnt b okb, 0 ≤ cnt ∧ cnt ≤ 9223372036854775807 ∧ PlInv zs a ok cnt 0 [] b okb ∧ (3000 < cnt → poolP zs a = none) ∧ ∀ rs outs, (((gB zs a && ok) = true ∧ rs = [iR (gX zs a)] ∧ outs = [curC zs (gJ zs a) ok]) ∨ ((gB zs a && ok) = false ∧ rs = [iR 0] ∧ outs = [curC zs a false])) → rs = [iR cnt] ∧ outs = [curC zs b okb] := by
    cases h : gB zs a with
    | true =>
      have := gX_r hz a
      cases ok with
      | true =>
        refine ⟨gX zs a, gJ zs a, true, by omega, by omega, pl_start hz h, fun h3 => by unfold poolP; rw [if_neg (by omega)], ?_⟩
        rintro _ _ (⟨_, rfl, rfl⟩ | ⟨h, _⟩)
        · exact ⟨rfl, rfl⟩
        · cases h
      | false =>
        refine ⟨0, a, false, by omega, by omega, ⟨fun x hx => (by cases hx), rfl, by omega, by omega, .inl rfl, hp, .inr ⟨rfl, .inl rfl⟩⟩, fun h3 => by omega, ?_⟩
        rintro _ _ (⟨h, _⟩ | ⟨_, rfl, rfl⟩)
        · cases h
        · exact ⟨rfl, rfl⟩
    | false =>
      refine ⟨0, a, false, by omega, by omega, pl_start0 hp h, fun h3 => by omega, ?_⟩
      rintro _ _ (⟨h, _⟩ | ⟨_, rfl, rfl⟩)
      · cases h
      · exact ⟨rfl, rfl⟩
  obtain ⟨cnt, b0, okb0, c0, c1, hI, hc, hk⟩ := key
  intro rs outs hh
  obtain ⟨rfl, rfl⟩ := hk rs outs hh
  clear hh hk
  conv => whnf
  have pre : ∃ okb1 : Bool, PlInv zs a ok cnt 0 [] b0 okb1 ∧ (okb1 = true → cnt ≤ 3000) ∧ okb1 = (if 3000 < cnt then false else okb0) := by
    by_cases h3 : 3000 < cnt
    · exact ⟨false, ⟨hI.1, hI.2.1, hI.2.2.1, hI.2.2.2.1, hI.2.2.2.2.1, hI.2.2.2.2.2.1, .inr ⟨rfl, .inr (.inr (.inr (hc h3)))⟩⟩, fun h => (by cases h), by rw [if_pos h3]⟩
    · exact ⟨okb0, hI, fun _ => by omega, by rw [if_neg h3]⟩
  obtain ⟨okb1, hI1, hc1, e1⟩ := pre
  refine br_if (fun h => ?_) (fun h => ?_) <;> (try rw [h]) <;> (conv => whnf)
  · rw [ltI_t] at h
    rw [if_pos h] at e1
    subst e1
    clear h hI hc
    refine ⟨fun m s => ∃ (k : Int) (l : List DNode) (b : Int) (okb : Bool), PlInv zs a ok cnt k l b okb ∧ (okb = true → cnt ≤ 3000) ∧ m = (3002 - k).toNat ∧
        ((l = [] ∧ s = ⟨[(0, .bptr 1000000 0 0), (2, .bptr 2 0 0), (3, .bptr 3 0 0), (4, .vals false [.sc (.int .i64 cnt)]), (5, .vals false [.sc (.int .i64 k)])],
          [(1000000, ⟨0, [.rd none 1 (bts zs), .sc (.int .i64 b), .sc (.bool okb)]⟩), (2, ⟨0, [.nil 5]⟩), (3, ⟨0, [.nil 5]⟩)], []⟩) ∨
         s = ⟨[(0, .bptr 1000000 0 0), (2, .bptr 2 0 0), (3, .bptr 3 0 0), (4, .vals false [.sc (.int .i64 cnt)]), (5, .vals false [.sc (.int .i64 k)])],
          [(1000000, ⟨0, [.rd none 1 (bts zs), .sc (.int .i64 b), .sc (.bool okb)]⟩), (2, ⟨0, [.nil 5]⟩), (3, ⟨0, [.ref 200 0]⟩)], [(200, ⟨true, 0, 0, true, 5, npC l⟩)]⟩),
      ⟨_, _, norm_wk (keep := [0, 2, 3, 4, 5]) (kb := [1000000, 2, 3]) (ρ := []) rfl, ⟨0, [], b0, _, hI1, hc1, rfl, .inl ⟨rfl, rfl⟩⟩⟩, ?_⟩
    clear hI1 hc1
    rintro m _ ⟨k, l, b, okb, hI, hct, rfl, hs⟩
    have hk0 := hI.2.2.1
    have hk1 := hI.2.2.2.1
    have hll := hI.2.1
    have hpb := hI.2.2.2.2.2.1
    have hsz : ∀ n : Nat, n = 1 → ((npC l).length + n) * d231.bytes ≤ 140737488355328 := fun n hn => by
      rw [hn, npC_len]
      simp only [d231]
      omega
    rcases hs with ⟨rfl, rfl⟩ | rfl
    · conv => whnf
      refine br_if (fun h1 => ?_) (fun h1 => ?_) <;> (try rw [h1]) <;> (conv => whnf)
      · rw [ltI_t] at h1
        cases okb
        · conv => whnf
          have hE := pl_end hI c0 (.inr (.inl rfl))
          obtain ⟨q1, q2, q3, -⟩ := id hE
          refine ⟨.one (.take 0 (.take 1 (.take 2 (.take 3 (.or 4 (.take 5 (.take 6 (.take 7 (.take 8 (.take 10 (.take 11 (.take 12 (.early 9 (.or 13 (.take 14 (.take 15 (.take 16 (.take 17 (.or 18 (.or 19 (.take 20 (.take 21 (.take 22 (.or 23 .done .nil)))) .nil) .nil))))) .nil))))))))) .nil))))), by rfl, ?_⟩
          conv => whnf
          repeat (refine ⟨rfl, ?_⟩; conv => whnf)
          exact ⟨_, _, _, rfl, rfl, q1, q2, q3, .inr ⟨rfl, end_f hE⟩⟩
        · conv => whnf
          have c3 := hct rfl
          refine (s_num_t hz hl hpb).mono ?_
          rintro _ _ (⟨hb, rfl, rfl⟩ | ⟨hb, rfl, rfl⟩) <;> (conv => whnf)
          repeat' (first
            | (refine br_if (fun h => ?_) (fun h => ?_) <;> (try rw [h]) <;> (conv => whnf))
            | (refine (s_num_t hz hl (by first | exact hpb | exact pJ _ | exact pT _)).mono ?_; rintro _ _ (⟨h, rfl, rfl⟩ | ⟨h, rfl, rfl⟩) <;> (conv => whnf))
            | (refine (s_num_f hz hl (by first | exact hpb | exact pJ _ | exact pT _)).mono ?_; rintro _ _ ⟨rfl, rfl⟩; conv => whnf)
            | (refine ⟨.one (.take 0 (.take 1 (.take 2 (.take 4 (.take 5 (.take 6 (.early 7 (.or 3 (.or 8 (.calm 9 (.calm 10 (.calm 11 (.calm 12 (.calm 13 (.calm 14 (.calm 15 .done))))))) .nil) .nil)))))))), by rfl, ?_⟩; conv => whnf)
            | (refine ⟨rfl, ?_⟩; conv => whnf)
            | (refine (s_text hz hl (by first | exact hpb | exact pJ _ | exact pT _)).mono ?_; rintro _ _ ⟨rfl, rfl⟩; conv => whnf)
            | (refine .inl ⟨flat5 _ _ _ _ _, ?_⟩; conv => whnf)
            | (refine ⟨hsz _ rfl, ?_⟩; conv => whnf)
            | fail)
          all_goals rw [wrp_i64 (x := k + 1) (by omega) (by omega)]
          all_goals refine ⟨(3002 - (k + 1)).toNat, _, by omega, norm_wk (keep := [0, 2, 3, 4, 5]) (kb := [1000000, 2, 3]) (ρ := [(103, some 200)]) rfl, ⟨k + 1, [] ++ [⟨_, _, _, _, _⟩], _, _, pl_step hI h1 (by omega) ?_, fun _ => c3, rfl, .inr (by rw [← npC_app]; rfl)⟩⟩
          all_goals simp only [eqI_t, eqI_f, w1, w2] at *
          all_goals refine ⟨⟨?_, ?_, ?_, ?_, ?_⟩, ?_, ?_⟩
          all_goals first
            | exact hpb
            | exact pJ _
            | exact pT _
            | exact ts _
            | exact Nat.zero_le _
            | (have := gr; simp only; constructor <;> first | omega | (have := gr (gJ zs b); omega) | (have := gr b; omega) | (have := gr (gJ zs (gJ zs b)); omega))
            | skip
          all_goals first
            | (exfalso; omega)
            | (refine .inr ⟨rfl, .inr ?_⟩; simp [ndP, nd0, *]; done)
            | (refine .inl ⟨rfl, rfl, ?_⟩; simp [ndP, nd0, *]; done)
            | (rcases hb2 : tB zs (gJ zs b) with _ | _
               · exact .inr ⟨rfl, .inr (by simp [ndP, *])⟩
               · exact .inl ⟨rfl, rfl, by simp [ndP, *]⟩)
      · rw [ltI_f] at h1
        cases okb
        · have hE := pl_end hI c0 (.inl h1)
          obtain ⟨q1, q2, q3, -⟩ := id hE
          refine ⟨.one (.take 0 (.take 1 (.take 2 (.take 3 (.or 4 (.take 5 (.take 6 (.take 7 (.take 8 (.take 10 (.take 11 (.take 12 (.early 9 (.or 13 (.take 14 (.take 15 (.take 16 (.take 17 (.or 18 (.or 19 (.take 20 (.take 21 (.take 22 (.or 23 .done .nil)))) .nil) .nil))))) .nil))))))))) .nil))))), by rfl, ?_⟩
          conv => whnf
          repeat (refine ⟨rfl, ?_⟩; conv => whnf)
          exact ⟨_, _, _, rfl, rfl, q1, q2, q3, .inr ⟨rfl, end_f hE⟩⟩
        · have hE := pl_end hI c0 (.inl h1)
          obtain ⟨q1, q2, q3, -⟩ := id hE
          refine ⟨.one (.take 0 (.take 1 (.take 2 (.take 3 (.or 4 (.take 5 (.take 6 (.take 7 (.take 8 (.take 10 (.take 11 (.take 12 (.early 9 (.or 13 (.take 14 (.take 15 (.take 16 (.take 17 (.or 18 (.or 19 (.take 20 (.take 21 (.take 22 (.or 23 .done .nil)))) .nil) .nil))))) .nil))))))))) .nil))))), by rfl, ?_⟩
          conv => whnf
          repeat (refine ⟨rfl, ?_⟩; conv => whnf)
          refine br_if (fun h9 => ?_) (fun h9 => ?_) <;> (try rw [h9]) <;> (conv => whnf)
          · repeat (refine ⟨rfl, ?_⟩; conv => whnf)
            refine (s_PoolOk_ok ⟨[]⟩ ⟨by show ([] : List DNode).length ≤ _; omega, q1⟩).mono ?_
            rintro _ _ ⟨rfl, rfl⟩
            conv => whnf
            repeat (refine ⟨rfl, ?_⟩; conv => whnf)
            rw [eqI_t, bts_len] at h9
            exact ⟨_, _, _, rfl, rfl, q1, q2, q3, end_t hE _ ⟨fun h => ⟨h9, h⟩, fun h => h.2⟩⟩
          · repeat (refine ⟨rfl, ?_⟩; conv => whnf)
            rw [eqI_f, bts_len] at h9
            exact ⟨_, _, _, rfl, rfl, q1, q2, q3, end_t hE false ⟨fun h => (by cases h), fun h => absurd h.1 h9⟩⟩
    · conv => whnf
      refine br_if (fun h1 => ?_) (fun h1 => ?_) <;> (try rw [h1]) <;> (conv => whnf)
      · rw [ltI_t] at h1
        cases okb
        · conv => whnf
          have hE := pl_end hI c0 (.inr (.inl rfl))
          obtain ⟨q1, q2, q3, -⟩ := id hE
          refine ⟨.one (.take 0 (.take 1 (.take 2 (.take 3 (.or 4 (.take 5 (.take 6 (.take 7 (.take 8 (.take 10 (.take 11 (.take 12 (.early 9 (.or 13 (.take 14 (.take 15 (.take 16 (.take 17 (.or 18 (.or 19 (.take 20 (.take 21 (.take 22 (.or 23 .done .nil)))) .nil) .nil))))) .nil))))))))) .nil))))), by rfl, ?_⟩
          conv => whnf
          repeat (refine ⟨rfl, ?_⟩; conv => whnf)
          exact ⟨_, _, _, rfl, rfl, q1, q2, q3, .inr ⟨rfl, end_f hE⟩⟩
        · conv => whnf
          have c3 := hct rfl
          refine (s_num_t hz hl hpb).mono ?_
          rintro _ _ (⟨hb, rfl, rfl⟩ | ⟨hb, rfl, rfl⟩) <;> (conv => whnf)
          repeat' (first
            | (refine br_if (fun h => ?_) (fun h => ?_) <;> (try rw [h]) <;> (conv => whnf))
            | (refine (s_num_t hz hl (by first | exact hpb | exact pJ _ | exact pT _)).mono ?_; rintro _ _ (⟨h, rfl, rfl⟩ | ⟨h, rfl, rfl⟩) <;> (conv => whnf))
            | (refine (s_num_f hz hl (by first | exact hpb | exact pJ _ | exact pT _)).mono ?_; rintro _ _ ⟨rfl, rfl⟩; conv => whnf)
            | (refine ⟨.one (.take 0 (.take 1 (.take 2 (.take 4 (.take 5 (.take 6 (.early 7 (.or 3 (.or 8 (.calm 9 (.calm 10 (.calm 11 (.calm 12 (.calm 13 (.calm 14 (.calm 15 .done))))))) .nil) .nil)))))))), by rfl, ?_⟩; conv => whnf)
            | (refine ⟨rfl, ?_⟩; conv => whnf)
            | (refine (s_text hz hl (by first | exact hpb | exact pJ _ | exact pT _)).mono ?_; rintro _ _ ⟨rfl, rfl⟩; conv => whnf)
            | (refine .inl ⟨flat5 _ _ _ _ _, ?_⟩; conv => whnf)
            | (refine ⟨hsz _ rfl, ?_⟩; conv => whnf)
            | fail)
          all_goals rw [wrp_i64 (x := k + 1) (by omega) (by omega)]
          all_goals refine ⟨(3002 - (k + 1)).toNat, _, by omega, norm_wk (keep := [0, 2, 3, 4, 5]) (kb := [1000000, 2, 3]) (ρ := [(103, some 200)]) rfl, ⟨k + 1, l ++ [⟨_, _, _, _, _⟩], _, _, pl_step hI h1 (by omega) ?_, fun _ => c3, rfl, .inr (by rw [← npC_app]; rfl)⟩⟩
          all_goals simp only [eqI_t, eqI_f, w1, w2] at *
          all_goals refine ⟨⟨?_, ?_, ?_, ?_, ?_⟩, ?_, ?_⟩
          all_goals first
            | exact hpb
            | exact pJ _
            | exact pT _
            | exact ts _
            | exact Nat.zero_le _
            | (have := gr; simp only; constructor <;> first | omega | (have := gr (gJ zs b); omega) | (have := gr b; omega) | (have := gr (gJ zs (gJ zs b)); omega))
            | skip
          all_goals first
            | (exfalso; omega)
            | (refine .inr ⟨rfl, .inr ?_⟩; simp [ndP, nd0, *]; done)
            | (refine .inl ⟨rfl, rfl, ?_⟩; simp [ndP, nd0, *]; done)
            | (rcases hb2 : tB zs (gJ zs b) with _ | _
               · exact .inr ⟨rfl, .inr (by simp [ndP, *])⟩
               · exact .inl ⟨rfl, rfl, by simp [ndP, *]⟩)
      · rw [ltI_f] at h1
        cases okb
        · have hE := pl_end hI c0 (.inl h1)
          obtain ⟨q1, q2, q3, -⟩ := id hE
          refine ⟨.one (.take 0 (.take 1 (.take 2 (.take 3 (.or 4 (.take 5 (.take 6 (.take 7 (.take 8 (.take 10 (.take 11 (.take 12 (.early 9 (.or 13 (.take 14 (.take 15 (.take 16 (.take 17 (.or 18 (.or 19 (.take 20 (.take 21 (.take 22 (.or 23 .done .nil)))) .nil) .nil))))) .nil))))))))) .nil))))), by rfl, ?_⟩
          conv => whnf
          repeat (refine ⟨rfl, ?_⟩; conv => whnf)
          exact ⟨_, _, _, rfl, rfl, q1, q2, q3, .inr ⟨rfl, end_f hE⟩⟩
        · have hE := pl_end hI c0 (.inl h1)
          obtain ⟨q1, q2, q3, -⟩ := id hE
          refine ⟨.one (.take 0 (.take 1 (.take 2 (.take 3 (.or 4 (.take 5 (.take 6 (.take 7 (.take 8 (.take 10 (.take 11 (.take 12 (.early 9 (.or 13 (.take 14 (.take 15 (.take 16 (.take 17 (.or 18 (.or 19 (.take 20 (.take 21 (.take 22 (.or 23 .done .nil)))) .nil) .nil))))) .nil))))))))) .nil))))), by rfl, ?_⟩
          conv => whnf
          repeat (refine ⟨rfl, ?_⟩; conv => whnf)
          refine br_if (fun h9 => ?_) (fun h9 => ?_) <;> (try rw [h9]) <;> (conv => whnf)
          · repeat (refine ⟨rfl, ?_⟩; conv => whnf)
            refine (s_PoolOk_ok ⟨l⟩ ⟨by show (l : List DNode).length ≤ _; omega, q1⟩).mono ?_
            rintro _ _ ⟨rfl, rfl⟩
            conv => whnf
            repeat (refine ⟨rfl, ?_⟩; conv => whnf)
            rw [eqI_t, bts_len] at h9
            exact ⟨_, _, _, rfl, rfl, q1, q2, q3, end_t hE _ ⟨fun h => ⟨h9, h⟩, fun h => h.2⟩⟩
          · repeat (refine ⟨rfl, ?_⟩; conv => whnf)
            rw [eqI_f, bts_len] at h9
            exact ⟨_, _, _, rfl, rfl, q1, q2, q3, end_t hE false ⟨fun h => (by cases h), fun h => absurd h.1 h9⟩⟩
  · rw [ltI_f] at h
    rw [if_neg (by omega)] at e1
    subst e1
    clear h hI hc
    refine ⟨fun m s => ∃ (k : Int) (l : List DNode) (b : Int) (okb : Bool), PlInv zs a ok cnt k l b okb ∧ (okb = true → cnt ≤ 3000) ∧ m = (3002 - k).toNat ∧
        ((l = [] ∧ s = ⟨[(0, .bptr 1000000 0 0), (2, .bptr 2 0 0), (3, .bptr 3 0 0), (4, .vals false [.sc (.int .i64 cnt)]), (5, .vals false [.sc (.int .i64 k)])],
          [(1000000, ⟨0, [.rd none 1 (bts zs), .sc (.int .i64 b), .sc (.bool okb)]⟩), (2, ⟨0, [.nil 5]⟩), (3, ⟨0, [.nil 5]⟩)], []⟩) ∨
         s = ⟨[(0, .bptr 1000000 0 0), (2, .bptr 2 0 0), (3, .bptr 3 0 0), (4, .vals false [.sc (.int .i64 cnt)]), (5, .vals false [.sc (.int .i64 k)])],
          [(1000000, ⟨0, [.rd none 1 (bts zs), .sc (.int .i64 b), .sc (.bool okb)]⟩), (2, ⟨0, [.nil 5]⟩), (3, ⟨0, [.ref 200 0]⟩)], [(200, ⟨true, 0, 0, true, 5, npC l⟩)]⟩),
      ⟨_, _, norm_wk (keep := [0, 2, 3, 4, 5]) (kb := [1000000, 2, 3]) (ρ := []) rfl, ⟨0, [], b0, _, hI1, hc1, rfl, .inl ⟨rfl, rfl⟩⟩⟩, ?_⟩
    clear hI1 hc1
    rintro m _ ⟨k, l, b, okb, hI, hct, rfl, hs⟩
    have hk0 := hI.2.2.1
    have hk1 := hI.2.2.2.1
    have hll := hI.2.1
    have hpb := hI.2.2.2.2.2.1
    have hsz : ∀ n : Nat, n = 1 → ((npC l).length + n) * d231.bytes ≤ 140737488355328 := fun n hn => by
      rw [hn, npC_len]
      simp only [d231]
      omega
    rcases hs with ⟨rfl, rfl⟩ | rfl
    · conv => whnf
      refine br_if (fun h1 => ?_) (fun h1 => ?_) <;> (try rw [h1]) <;> (conv => whnf)
      · rw [ltI_t] at h1
        cases okb
        · conv => whnf
          have hE := pl_end hI c0 (.inr (.inl rfl))
          obtain ⟨q1, q2, q3, -⟩ := id hE
          refine ⟨.one (.take 0 (.take 1 (.take 2 (.take 3 (.or 4 (.take 5 (.take 6 (.take 7 (.take 8 (.take 10 (.take 11 (.take 12 (.early 9 (.or 13 (.take 14 (.take 15 (.take 16 (.take 17 (.or 18 (.or 19 (.take 20 (.take 21 (.take 22 (.or 23 .done .nil)))) .nil) .nil))))) .nil))))))))) .nil))))), by rfl, ?_⟩
          conv => whnf
          repeat (refine ⟨rfl, ?_⟩; conv => whnf)
          exact ⟨_, _, _, rfl, rfl, q1, q2, q3, .inr ⟨rfl, end_f hE⟩⟩
        · conv => whnf
          have c3 := hct rfl
          refine (s_num_t hz hl hpb).mono ?_
          rintro _ _ (⟨hb, rfl, rfl⟩ | ⟨hb, rfl, rfl⟩) <;> (conv => whnf)
          repeat' (first
            | (refine br_if (fun h => ?_) (fun h => ?_) <;> (try rw [h]) <;> (conv => whnf))
            | (refine (s_num_t hz hl (by first | exact hpb | exact pJ _ | exact pT _)).mono ?_; rintro _ _ (⟨h, rfl, rfl⟩ | ⟨h, rfl, rfl⟩) <;> (conv => whnf))
            | (refine (s_num_f hz hl (by first | exact hpb | exact pJ _ | exact pT _)).mono ?_; rintro _ _ ⟨rfl, rfl⟩; conv => whnf)
            | (refine ⟨.one (.take 0 (.take 1 (.take 2 (.take 4 (.take 5 (.take 6 (.early 7 (.or 3 (.or 8 (.calm 9 (.calm 10 (.calm 11 (.calm 12 (.calm 13 (.calm 14 (.calm 15 .done))))))) .nil) .nil)))))))), by rfl, ?_⟩; conv => whnf)
            | (refine ⟨rfl, ?_⟩; conv => whnf)
            | (refine (s_text hz hl (by first | exact hpb | exact pJ _ | exact pT _)).mono ?_; rintro _ _ ⟨rfl, rfl⟩; conv => whnf)
            | (refine .inl ⟨flat5 _ _ _ _ _, ?_⟩; conv => whnf)
            | (refine ⟨hsz _ rfl, ?_⟩; conv => whnf)
            | fail)
          all_goals rw [wrp_i64 (x := k + 1) (by omega) (by omega)]
          all_goals refine ⟨(3002 - (k + 1)).toNat, _, by omega, norm_wk (keep := [0, 2, 3, 4, 5]) (kb := [1000000, 2, 3]) (ρ := [(103, some 200)]) rfl, ⟨k + 1, [] ++ [⟨_, _, _, _, _⟩], _, _, pl_step hI h1 (by omega) ?_, fun _ => c3, rfl, .inr (by rw [← npC_app]; rfl)⟩⟩
          all_goals simp only [eqI_t, eqI_f, w1, w2] at *
          all_goals refine ⟨⟨?_, ?_, ?_, ?_, ?_⟩, ?_, ?_⟩
          all_goals first
            | exact hpb
            | exact pJ _
            | exact pT _
            | exact ts _
            | exact Nat.zero_le _
            | (have := gr; simp only; constructor <;> first | omega | (have := gr (gJ zs b); omega) | (have := gr b; omega) | (have := gr (gJ zs (gJ zs b)); omega))
            | skip
          all_goals first
            | (exfalso; omega)
            | (refine .inr ⟨rfl, .inr ?_⟩; simp [ndP, nd0, *]; done)
            | (refine .inl ⟨rfl, rfl, ?_⟩; simp [ndP, nd0, *]; done)
            | (rcases hb2 : tB zs (gJ zs b) with _ | _
               · exact .inr ⟨rfl, .inr (by simp [ndP, *])⟩
               · exact .inl ⟨rfl, rfl, by simp [ndP, *]⟩)
      · rw [ltI_f] at h1
        cases okb
        · have hE := pl_end hI c0 (.inl h1)
          obtain ⟨q1, q2, q3, -⟩ := id hE
          refine ⟨.one (.take 0 (.take 1 (.take 2 (.take 3 (.or 4 (.take 5 (.take 6 (.take 7 (.take 8 (.take 10 (.take 11 (.take 12 (.early 9 (.or 13 (.take 14 (.take 15 (.take 16 (.take 17 (.or 18 (.or 19 (.take 20 (.take 21 (.take 22 (.or 23 .done .nil)))) .nil) .nil))))) .nil))))))))) .nil))))), by rfl, ?_⟩
          conv => whnf
          repeat (refine ⟨rfl, ?_⟩; conv => whnf)
          exact ⟨_, _, _, rfl, rfl, q1, q2, q3, .inr ⟨rfl, end_f hE⟩⟩
        · have hE := pl_end hI c0 (.inl h1)
          obtain ⟨q1, q2, q3, -⟩ := id hE
          refine ⟨.one (.take 0 (.take 1 (.take 2 (.take 3 (.or 4 (.take 5 (.take 6 (.take 7 (.take 8 (.take 10 (.take 11 (.take 12 (.early 9 (.or 13 (.take 14 (.take 15 (.take 16 (.take 17 (.or 18 (.or 19 (.take 20 (.take 21 (.take 22 (.or 23 .done .nil)))) .nil) .nil))))) .nil))))))))) .nil))))), by rfl, ?_⟩
          conv => whnf
          repeat (refine ⟨rfl, ?_⟩; conv => whnf)
          refine br_if (fun h9 => ?_) (fun h9 => ?_) <;> (try rw [h9]) <;> (conv => whnf)
          · repeat (refine ⟨rfl, ?_⟩; conv => whnf)
            refine (s_PoolOk_ok ⟨[]⟩ ⟨by show ([] : List DNode).length ≤ _; omega, q1⟩).mono ?_
            rintro _ _ ⟨rfl, rfl⟩
            conv => whnf
            repeat (refine ⟨rfl, ?_⟩; conv => whnf)
            rw [eqI_t, bts_len] at h9
            exact ⟨_, _, _, rfl, rfl, q1, q2, q3, end_t hE _ ⟨fun h => ⟨h9, h⟩, fun h => h.2⟩⟩
          · repeat (refine ⟨rfl, ?_⟩; conv => whnf)
            rw [eqI_f, bts_len] at h9
            exact ⟨_, _, _, rfl, rfl, q1, q2, q3, end_t hE false ⟨fun h => (by cases h), fun h => absurd h.1 h9⟩⟩
    · conv => whnf
      refine br_if (fun h1 => ?_) (fun h1 => ?_) <;> (try rw [h1]) <;> (conv => whnf)
      · rw [ltI_t] at h1
        cases okb
        · conv => whnf
          have hE := pl_end hI c0 (.inr (.inl rfl))
          obtain ⟨q1, q2, q3, -⟩ := id hE
          refine ⟨.one (.take 0 (.take 1 (.take 2 (.take 3 (.or 4 (.take 5 (.take 6 (.take 7 (.take 8 (.take 10 (.take 11 (.take 12 (.early 9 (.or 13 (.take 14 (.take 15 (.take 16 (.take 17 (.or 18 (.or 19 (.take 20 (.take 21 (.take 22 (.or 23 .done .nil)))) .nil) .nil))))) .nil))))))))) .nil))))), by rfl, ?_⟩
          conv => whnf
          repeat (refine ⟨rfl, ?_⟩; conv => whnf)
          exact ⟨_, _, _, rfl, rfl, q1, q2, q3, .inr ⟨rfl, end_f hE⟩⟩
        · conv => whnf
          have c3 := hct rfl
          refine (s_num_t hz hl hpb).mono ?_
          rintro _ _ (⟨hb, rfl, rfl⟩ | ⟨hb, rfl, rfl⟩) <;> (conv => whnf)
          repeat' (first
            | (refine br_if (fun h => ?_) (fun h => ?_) <;> (try rw [h]) <;> (conv => whnf))
            | (refine (s_num_t hz hl (by first | exact hpb | exact pJ _ | exact pT _)).mono ?_; rintro _ _ (⟨h, rfl, rfl⟩ | ⟨h, rfl, rfl⟩) <;> (conv => whnf))
            | (refine (s_num_f hz hl (by first | exact hpb | exact pJ _ | exact pT _)).mono ?_; rintro _ _ ⟨rfl, rfl⟩; conv => whnf)
            | (refine ⟨.one (.take 0 (.take 1 (.take 2 (.take 4 (.take 5 (.take 6 (.early 7 (.or 3 (.or 8 (.calm 9 (.calm 10 (.calm 11 (.calm 12 (.calm 13 (.calm 14 (.calm 15 .done))))))) .nil) .nil)))))))), by rfl, ?_⟩; conv => whnf)
            | (refine ⟨rfl, ?_⟩; conv => whnf)
            | (refine (s_text hz hl (by first | exact hpb | exact pJ _ | exact pT _)).mono ?_; rintro _ _ ⟨rfl, rfl⟩; conv => whnf)
            | (refine .inl ⟨flat5 _ _ _ _ _, ?_⟩; conv => whnf)
            | (refine ⟨hsz _ rfl, ?_⟩; conv => whnf)
            | fail)
          all_goals rw [wrp_i64 (x := k + 1) (by omega) (by omega)]
          all_goals refine ⟨(3002 - (k + 1)).toNat, _, by omega, norm_wk (keep := [0, 2, 3, 4, 5]) (kb := [1000000, 2, 3]) (ρ := [(103, some 200)]) rfl, ⟨k + 1, l ++ [⟨_, _, _, _, _⟩], _, _, pl_step hI h1 (by omega) ?_, fun _ => c3, rfl, .inr (by rw [← npC_app]; rfl)⟩⟩
          all_goals simp only [eqI_t, eqI_f, w1, w2] at *
          all_goals refine ⟨⟨?_, ?_, ?_, ?_, ?_⟩, ?_, ?_⟩
          all_goals first
            | exact hpb
            | exact pJ _
            | exact pT _
            | exact ts _
            | exact Nat.zero_le _
            | (have := gr; simp only; constructor <;> first | omega | (have := gr (gJ zs b); omega) | (have := gr b; omega) | (have := gr (gJ zs (gJ zs b)); omega))
            | skip
          all_goals first
            | (exfalso; omega)
            | (refine .inr ⟨rfl, .inr ?_⟩; simp [ndP, nd0, *]; done)
            | (refine .inl ⟨rfl, rfl, ?_⟩; simp [ndP, nd0, *]; done)
            | (rcases hb2 : tB zs (gJ zs b) with _ | _
               · exact .inr ⟨rfl, .inr (by simp [ndP, *])⟩
               · exact .inl ⟨rfl, rfl, by simp [ndP, *]⟩)
      · rw [ltI_f] at h1
        cases okb
        · have hE := pl_end hI c0 (.inl h1)
          obtain ⟨q1, q2, q3, -⟩ := id hE
          refine ⟨.one (.take 0 (.take 1 (.take 2 (.take 3 (.or 4 (.take 5 (.take 6 (.take 7 (.take 8 (.take 10 (.take 11 (.take 12 (.early 9 (.or 13 (.take 14 (.take 15 (.take 16 (.take 17 (.or 18 (.or 19 (.take 20 (.take 21 (.take 22 (.or 23 .done .nil)))) .nil) .nil))))) .nil))))))))) .nil))))), by rfl, ?_⟩
          conv => whnf
          repeat (refine ⟨rfl, ?_⟩; conv => whnf)
          exact ⟨_, _, _, rfl, rfl, q1, q2, q3, .inr ⟨rfl, end_f hE⟩⟩
        · have hE := pl_end hI c0 (.inl h1)
          obtain ⟨q1, q2, q3, -⟩ := id hE
          refine ⟨.one (.take 0 (.take 1 (.take 2 (.take 3 (.or 4 (.take 5 (.take 6 (.take 7 (.take 8 (.take 10 (.take 11 (.take 12 (.early 9 (.or 13 (.take 14 (.take 15 (.take 16 (.take 17 (.or 18 (.or 19 (.take 20 (.take 21 (.take 22 (.or 23 .done .nil)))) .nil) .nil))))) .nil))))))))) .nil))))), by rfl, ?_⟩
          conv => whnf
          repeat (refine ⟨rfl, ?_⟩; conv => whnf)
          refine br_if (fun h9 => ?_) (fun h9 => ?_) <;> (try rw [h9]) <;> (conv => whnf)
          · repeat (refine ⟨rfl, ?_⟩; conv => whnf)
            refine (s_PoolOk_ok ⟨l⟩ ⟨by show (l : List DNode).length ≤ _; omega, q1⟩).mono ?_
            rintro _ _ ⟨rfl, rfl⟩
            conv => whnf
            repeat (refine ⟨rfl, ?_⟩; conv => whnf)
            rw [eqI_t, bts_len] at h9
            exact ⟨_, _, _, rfl, rfl, q1, q2, q3, end_t hE _ ⟨fun h => ⟨h9, h⟩, fun h => h.2⟩⟩
          · repeat (refine ⟨rfl, ?_⟩; conv => whnf)
            rw [eqI_f, bts_len] at h9
            exact ⟨_, _, _, rfl, rfl, q1, q2, q3, end_t hE false ⟨fun h => (by cases h), fun h => absurd h.1 h9⟩⟩

end Go.Proofs.YtifodjnbcnbcpaaGreat.V

set_option linter.unusedVariables false

set_option linter.unusedSimpArgs false

namespace Go.Proofs.YtifodjnbcnbcpaaGreat.V

open Go

theorem at_mid (pre : List Int) (d : Int) (r post : List Int) : (pre ++ (d :: r) ++ post)[pre.length]? = some d := by
  rw [List.append_assoc, List.getElem?_append_right (Nat.le_refl _), Nat.sub_self]
  rfl

theorem gn_numL : ∀ (f n : Nat) (pre post : List Int), n < 128 ^ f → (n ≠ 0 ∨ f = 9) → f ≤ 9 → gn (pre ++ numL n ++ post) f pre.length = some ((n : Int), pre.length + (numL n).length)
  | 0, n, pre, post, h, _, _ => by
    have h0 : n < 1 := h
    have : n = 0 := by omega
    omega
  | f + 1, n, pre, post, h, h0, hf => by
    by_cases hn : n ≤ 127
    · rw [numL_small hn]
      rw [gn_small (at_mid pre (n : Int) [] post) (by omega), if_neg (by omega)]
      rfl
    · rw [numL_big hn]
      rw [gn_big (at_mid pre _ _ post) (by omega)]
      have e : pre ++ (((n % 128 + 128 : Nat) : Int) :: numL (n / 128)) ++ post = (pre ++ [((n % 128 + 128 : Nat) : Int)]) ++ numL (n / 128) ++ post := by simp
      have hl : pre.length + 1 = (pre ++ [((n % 128 + 128 : Nat) : Int)]).length := by simp
      rw [e, hl, gn_numL f (n / 128) _ post (by rw [Nat.pow_succ] at h; omega) (.inl (by omega)) (by omega)]
      simp only [Option.map_some, Option.some.injEq, Prod.mk.injEq]
      refine ⟨by omega, ?_⟩
      simp
      omega

theorem numI_pos {x : Int} (h : 0 ≤ x) : numI x = numL x.toNat := by unfold numI; rw [if_neg (by omega)]

theorem num_mid (pre post : List Int) {x : Int} (h0 : 0 ≤ x) (h1 : x ≤ 9223372036854775807) :
    gB (pre ++ numI x ++ post) pre.length = true ∧ gX (pre ++ numI x ++ post) pre.length = x ∧ gJ (pre ++ numI x ++ post) pre.length = ((pre.length + (numI x).length : Nat) : Int) := by
  have h : getNum (pre ++ numI x ++ post) (pre.length : Nat) = some (x, pre.length + (numI x).length) := by
    rw [getNum_pos (by omega), numI_pos h0, Int.toNat_natCast]
    have := gn_numL 9 x.toNat pre post (by have : (128 : Nat) ^ 9 = 9223372036854775808 := by decide
                                           omega) (.inr rfl) (Nat.le_refl _)
    rw [this, Int.toNat_of_nonneg h0]
  obtain ⟨e1, e2, e3⟩ := g_some h
  exact ⟨e3, e1, e2⟩

theorem strOfNums_sb (s : ByteArray) : strOfNums (sb s) = s := by
  apply ByteArray.ext
  show ((sb s).map fun n : Int => UInt8.ofNat n.toNat).toArray = s.data
  rw [sb, List.map_map]
  have : (fun n : Int => UInt8.ofNat n.toNat) ∘ (fun b : UInt8 => (b.toNat : Int)) = id := by
    funext b
    simp
  rw [this, List.map_id]

theorem sb_strOfNums {l : List Int} (h : Bytes l) : sb (strOfNums l) = l := by
  unfold sb
  show ((l.map fun n : Int => UInt8.ofNat n.toNat).toArray.toList.map fun b => (b.toNat : Int)) = l
  rw [List.toList_toArray, List.map_map]
  have : ∀ n ∈ l, ((fun b : UInt8 => (b.toNat : Int)) ∘ fun n : Int => UInt8.ofNat n.toNat) n = n := fun n hn => by
    obtain ⟨h0, h1⟩ := h n hn
    simp only [Function.comp]
    have : (UInt8.ofNat n.toNat).toNat = n.toNat := by
      rw [UInt8.toNat_ofNat']
      exact Nat.mod_eq_of_lt (by omega)
    rw [this]
    omega
  rw [List.map_congr_left this]
  simp

theorem text_mid (pre post : List Int) {s : ByteArray} (hs : s.size ≤ 1000000000) :
    tB (pre ++ putText s ++ post) pre.length = true ∧ tS (pre ++ putText s ++ post) pre.length = s ∧ tJ (pre ++ putText s ++ post) pre.length = ((pre.length + (putText s).length : Nat) : Int) := by
  have e : pre ++ putText s ++ post = pre ++ numI s.size ++ (sb s ++ post) := by simp [putText]
  obtain ⟨h1, h2, h3⟩ := num_mid pre (sb s ++ post) (x := s.size) (by omega) (by omega)
  rw [← e] at h1 h2 h3
  have hB : tB (pre ++ putText s ++ post) pre.length = true := by
    unfold tB
    rw [h1, h2, h3]
    simp only [Bool.true_and, decide_eq_true_eq]
    simp [putText, sb_len]
    omega
  refine ⟨hB, ?_, ?_⟩
  · unfold tS
    rw [if_pos hB, h2, h3, e]
    have e1 : (((pre.length + (numI s.size).length : Nat) : Int) + s.size).toNat = (pre ++ numI s.size ++ sb s).length := by
      simp [sb_len]
      omega
    have e2 : ((pre.length + (numI s.size).length : Nat) : Int).toNat = (pre ++ numI s.size).length := by
      simp
      omega
    rw [e1, e2, ← List.append_assoc, List.take_left, List.drop_left]
    exact strOfNums_sb s
  · unfold tJ
    rw [if_pos hB, h2, h3]
    simp [putText, sb_len]
    omega

theorem emp_eq {s : ByteArray} (h : s.size = 0) : s = ⟨#[]⟩ := ByteArray.ext (Array.eq_empty_of_size_eq_zero h)

theorem node_mid (pre post : List Int) {x : DNode} {n : Int} (h : NodeOk x n) (hn : n ≤ 1000000000) : ndP (pre ++ nodeB x ++ post) pre.length = some (x, ((pre.length + (nodeB x).length : Nat) : Int)) := by
  obtain ⟨k, N, S, A, B⟩ := x
  have h9 : 1 ≤ k ∧ k ≤ 9 := by
    rcases h with h | h | h | h | h | h | h | h | h <;> (have := h.1; simp only at this; omega)
  have one : ∀ y : Int, 0 ≤ y → y ≤ 9223372036854775807 → ∀ r : List Int, gB (pre ++ (numI k ++ (numI y ++ r)) ++ post) pre.length = true ∧ gX (pre ++ (numI k ++ (numI y ++ r)) ++ post) pre.length = k ∧ gJ (pre ++ (numI k ++ (numI y ++ r)) ++ post) pre.length = ((pre ++ numI k).length : Nat) ∧
      gB (pre ++ (numI k ++ (numI y ++ r)) ++ post) ((pre ++ numI k).length : Nat) = true ∧ gX (pre ++ (numI k ++ (numI y ++ r)) ++ post) ((pre ++ numI k).length : Nat) = y ∧ gJ (pre ++ (numI k ++ (numI y ++ r)) ++ post) ((pre ++ numI k).length : Nat) = ((pre ++ numI k ++ numI y).length : Nat) := by
    intro y y0 y1 r
    have e1 : pre ++ (numI k ++ (numI y ++ r)) ++ post = pre ++ numI k ++ ((numI y ++ r) ++ post) := by simp
    have e2 : pre ++ (numI k ++ (numI y ++ r)) ++ post = (pre ++ numI k) ++ numI y ++ (r ++ post) := by simp
    obtain ⟨a1, a2, a3⟩ := num_mid pre ((numI y ++ r) ++ post) (x := k) (by omega) (by omega)
    obtain ⟨b1, b2, b3⟩ := num_mid (pre ++ numI k) (r ++ post) y0 y1
    rw [← e1] at a1 a2 a3
    rw [← e2] at b1 b2 b3
    exact ⟨a1, a2, by rw [a3, List.length_append], b1, b2, by rw [b3]; simp; omega⟩
  have two : ∀ y z : Int, 0 ≤ z → z ≤ 9223372036854775807 → gB (pre ++ (numI k ++ (numI y ++ numI z)) ++ post) ((pre ++ numI k ++ numI y).length : Nat) = true ∧ gX (pre ++ (numI k ++ (numI y ++ numI z)) ++ post) ((pre ++ numI k ++ numI y).length : Nat) = z ∧ gJ (pre ++ (numI k ++ (numI y ++ numI z)) ++ post) ((pre ++ numI k ++ numI y).length : Nat) = ((pre ++ numI k ++ numI y ++ numI z).length : Nat) := by
    intro y z z0 z1
    have e2 : pre ++ (numI k ++ (numI y ++ numI z)) ++ post = (pre ++ numI k ++ numI y) ++ numI z ++ post := by simp
    obtain ⟨b1, b2, b3⟩ := num_mid (pre ++ numI k ++ numI y) post z0 z1
    rw [← e2] at b1 b2 b3
    exact ⟨b1, b2, by rw [b3]; simp; omega⟩
  have single : ∀ y : Int, 0 ≤ y → y ≤ 9223372036854775807 → nodeB ⟨k, N, S, A, B⟩ = numI k ++ numI y → gB (pre ++ nodeB ⟨k, N, S, A, B⟩ ++ post) pre.length = true ∧ gX (pre ++ nodeB ⟨k, N, S, A, B⟩ ++ post) pre.length = k ∧ gB (pre ++ nodeB ⟨k, N, S, A, B⟩ ++ post) (gJ (pre ++ nodeB ⟨k, N, S, A, B⟩ ++ post) pre.length) = true ∧
      gX (pre ++ nodeB ⟨k, N, S, A, B⟩ ++ post) (gJ (pre ++ nodeB ⟨k, N, S, A, B⟩ ++ post) pre.length) = y ∧ gJ (pre ++ nodeB ⟨k, N, S, A, B⟩ ++ post) (gJ (pre ++ nodeB ⟨k, N, S, A, B⟩ ++ post) pre.length) = ((pre.length + (nodeB ⟨k, N, S, A, B⟩).length : Nat) : Int) := by
    intro y y0 y1 e
    obtain ⟨a1, a2, a3, a4, a5, a6⟩ := one y y0 y1 []
    rw [List.append_nil] at a1 a2 a3 a4 a5 a6
    rw [e, a3]
    exact ⟨a1, a2, a4, a5, by rw [a6]; simp <;> omega⟩
  have double : ∀ y z : Int, 0 ≤ y → y ≤ 9223372036854775807 → 0 ≤ z → z ≤ 9223372036854775807 → nodeB ⟨k, N, S, A, B⟩ = numI k ++ (numI y ++ numI z) → gB (pre ++ nodeB ⟨k, N, S, A, B⟩ ++ post) pre.length = true ∧ gX (pre ++ nodeB ⟨k, N, S, A, B⟩ ++ post) pre.length = k ∧ gB (pre ++ nodeB ⟨k, N, S, A, B⟩ ++ post) (gJ (pre ++ nodeB ⟨k, N, S, A, B⟩ ++ post) pre.length) = true ∧
      gX (pre ++ nodeB ⟨k, N, S, A, B⟩ ++ post) (gJ (pre ++ nodeB ⟨k, N, S, A, B⟩ ++ post) pre.length) = y ∧ gB (pre ++ nodeB ⟨k, N, S, A, B⟩ ++ post) (gJ (pre ++ nodeB ⟨k, N, S, A, B⟩ ++ post) (gJ (pre ++ nodeB ⟨k, N, S, A, B⟩ ++ post) pre.length)) = true ∧
      gX (pre ++ nodeB ⟨k, N, S, A, B⟩ ++ post) (gJ (pre ++ nodeB ⟨k, N, S, A, B⟩ ++ post) (gJ (pre ++ nodeB ⟨k, N, S, A, B⟩ ++ post) pre.length)) = z ∧
      gJ (pre ++ nodeB ⟨k, N, S, A, B⟩ ++ post) (gJ (pre ++ nodeB ⟨k, N, S, A, B⟩ ++ post) (gJ (pre ++ nodeB ⟨k, N, S, A, B⟩ ++ post) pre.length)) = ((pre.length + (nodeB ⟨k, N, S, A, B⟩).length : Nat) : Int) := by
    intro y z y0 y1 z0 z1 e
    obtain ⟨a1, a2, a3, a4, a5, a6⟩ := one y y0 y1 (numI z)
    obtain ⟨b1, b2, b3⟩ := two y z z0 z1
    rw [e, a3, a6]
    exact ⟨a1, a2, a4, a5, b1, b2, by rw [b3]; simp <;> omega⟩
  rcases h with ⟨rfl, h⟩ | ⟨rfl, h⟩ | ⟨rfl, h⟩ | ⟨rfl, h⟩ | ⟨rfl, h⟩ | ⟨rfl, h⟩ | ⟨rfl, h⟩ | ⟨rfl, h⟩ | ⟨rfl, h⟩ <;> simp only at h
  · obtain ⟨rfl, hS, rfl, rfl⟩ := h
    obtain rfl := emp_eq hS
    rw [show nodeB ⟨1, 0, ⟨#[]⟩, 0, 0⟩ = numI 1 by simp [nodeB]]
    obtain ⟨a1, a2, a3⟩ := num_mid pre post (x := 1) (by omega) (by omega)
    generalize pre ++ numI 1 ++ post = zs at a1 a2 a3 ⊢
    unfold ndP
    rw [if_pos a1, a2]
    simp [a3, nd0]
  · obtain ⟨h0, h1, hS, rfl, rfl⟩ := h
    obtain rfl := emp_eq hS
    obtain ⟨a1, a2, a3, a4, a5⟩ := single N (by omega) (by omega) (by simp [nodeB])
    generalize pre ++ nodeB _ ++ post = zs at a1 a2 a3 a4 a5 ⊢
    unfold ndP
    rw [if_pos a1, a2]
    simp [a3, a4, a5]
  · obtain ⟨h0, h1, hS, rfl, rfl⟩ := h
    obtain rfl := emp_eq hS
    obtain ⟨a1, a2, a3, a4, a5⟩ := single (N + 1000000000) (by omega) (by omega) (by simp [nodeB])
    generalize pre ++ nodeB _ ++ post = zs at a1 a2 a3 a4 a5 ⊢
    unfold ndP
    rw [if_pos a1, a2]
    simp [a3, a4, a5]
  · obtain ⟨rfl, hS, rfl, rfl⟩ := h
    have hs := nameI_size hS
    have e : nodeB ⟨4, 0, S, 0, 0⟩ = numI 4 ++ putText S := by simp [nodeB]
    rw [e]
    have e1 : pre ++ (numI 4 ++ putText S) ++ post = pre ++ numI 4 ++ (putText S ++ post) := by simp
    have e2 : pre ++ (numI 4 ++ putText S) ++ post = (pre ++ numI 4) ++ putText S ++ post := by simp
    obtain ⟨a1, a2, a3⟩ := num_mid pre (putText S ++ post) (x := 4) (by omega) (by omega)
    obtain ⟨b1, b2, b3⟩ := text_mid (pre ++ numI 4) post (s := S) (by omega)
    rw [← e1] at a1 a2 a3
    rw [← e2, List.length_append] at b1 b2 b3
    clear e1 e2 e
    generalize pre ++ (numI 4 ++ putText S) ++ post = zs at a1 a2 a3 b1 b2 b3 ⊢
    unfold ndP
    rw [if_pos a1, a2, a3, if_neg (by decide), if_neg (by decide), if_pos rfl, if_pos b1, b2, b3, List.length_append, Nat.add_assoc]
  · obtain ⟨rfl, hS, h0, h1, h2, h3⟩ := h
    obtain rfl := emp_eq hS
    obtain ⟨a1, a2, a3, a4, a5, a6, a7⟩ := double A B (by omega) (by omega) (by omega) (by omega) (by simp [nodeB])
    generalize pre ++ nodeB _ ++ post = zs at a1 a2 a3 a4 a5 a6 a7 ⊢
    unfold ndP
    rw [if_pos a1, a2]
    simp [a3, a4, a5, a6, a7]
  · obtain ⟨h4, h5, hS, h0, h1, rfl⟩ := h
    obtain rfl := emp_eq hS
    obtain ⟨a1, a2, a3, a4, a5, a6, a7⟩ := double N A (by omega) (by omega) (by omega) (by omega) (by simp [nodeB])
    generalize pre ++ nodeB _ ++ post = zs at a1 a2 a3 a4 a5 a6 a7 ⊢
    unfold ndP
    rw [if_pos a1, a2]
    simp [a3, a4, a5, a6, a7]
  · obtain ⟨rfl, hS, h0, h1, rfl⟩ := h
    obtain rfl := emp_eq hS
    obtain ⟨a1, a2, a3, a4, a5⟩ := single A (by omega) (by omega) (by simp [nodeB])
    generalize pre ++ nodeB _ ++ post = zs at a1 a2 a3 a4 a5 ⊢
    unfold ndP
    rw [if_pos a1, a2]
    simp [a3, a4, a5]
  · obtain ⟨h0, h1, hS, rfl, rfl⟩ := h
    obtain rfl := emp_eq hS
    obtain ⟨a1, a2, a3, a4, a5⟩ := single N (by omega) (by omega) (by simp [nodeB])
    generalize pre ++ nodeB _ ++ post = zs at a1 a2 a3 a4 a5 ⊢
    unfold ndP
    rw [if_pos a1, a2]
    simp [a3, a4, a5]
  · obtain ⟨h0, h1, hS, rfl, rfl⟩ := h
    obtain rfl := emp_eq hS
    obtain ⟨a1, a2, a3, a4, a5⟩ := single N (by omega) (by omega) (by simp [nodeB])
    generalize pre ++ nodeB _ ++ post = zs at a1 a2 a3 a4 a5 ⊢
    unfold ndP
    rw [if_pos a1, a2]
    simp [a3, a4, a5]

theorem packA_pre (l : List DNode) : ∀ d k : Nat, k + d = l.length → ∃ r, packL l = packA l k ++ r
  | 0, k, h => ⟨[], by rw [packL, List.append_nil, show l.length = k by omega]⟩
  | d + 1, k, h => by
    obtain ⟨r, hr⟩ := packA_pre l d (k + 1) (by omega)
    have hx : l[k]? = some l[k] := List.getElem?_eq_getElem (by omega)
    exact ⟨nodeB l[k] ++ r, by rw [hr, packA_step hx, List.append_assoc]⟩

theorem nds_pack {l : List DNode} (h : NodesOk l) (hl : l.length ≤ 400000) : ∀ k : Nat, k ≤ l.length → ndsS (packL l) (((packA l 0).length : Nat) : Int) k = some (l.take k, (((packA l k).length : Nat) : Int))
  | 0, _ => rfl
  | k + 1, hk => by
    have hx : l[k]? = some l[k] := List.getElem?_eq_getElem (by omega)
    obtain ⟨r, hr⟩ := packA_pre l (l.length - (k + 1)) (k + 1) (by omega)
    rw [packA_step hx] at hr
    have hn := node_mid (packA l k) r (h k _ hx) (by omega)
    rw [← hr] at hn
    rw [ndsS_step (nds_pack h hl k (by omega)) hn, List.take_add_one, hx, packA_step hx, List.length_append]
    rfl

theorem pool_pack {l : List DNode} (h : poolOk l = true) : poolP (packL l) 0 = some (l, (((packL l).length : Nat) : Int)) := by
  obtain ⟨hl, hN⟩ := poolOk_t.1 h
  obtain ⟨r, hr⟩ := packA_pre l l.length 0 (by omega)
  obtain ⟨a1, a2, a3⟩ := num_mid [] r (x := l.length) (by omega) (by omega)
  have e : packL l = [] ++ numI l.length ++ r := hr
  rw [← e] at a1 a2 a3
  replace a1 : gB (packL l) 0 = true := a1
  replace a2 : gX (packL l) 0 = l.length := a2
  replace a3 : gJ (packL l) 0 = (((packA l 0).length : Nat) : Int) := by
    refine Eq.trans a3 ?_
    simp [packA]
  unfold poolP
  rw [if_pos ⟨a1, by omega⟩, a2, a3, Int.toNat_natCast]
  have := nds_pack hN (by omega) l.length (Nat.le_refl _)
  rw [List.take_length] at this
  exact this

end Go.Proofs.YtifodjnbcnbcpaaGreat.V

set_option linter.unusedVariables false

set_option linter.unusedSimpArgs false

namespace Go.Proofs.YtifodjnbcnbcpaaGreat.V

open Go

def MdE21 (f : Nat) : List Mode :=
  match f with
  | 200 => [.mptr]
  | 201 => [.rd, .rd]
  | 227 => [.rd, .rd]
  | 277 => [.mptr]
  | _ => []

def E21 : Env := ⟨τ, MdE21⟩

theorem Bytes.app {a b : List Int} (ha : Bytes a) (hb : Bytes b) : Bytes (a ++ b) := fun z hz => by
  rcases List.mem_append.1 hz with h | h
  · exact ha z h
  · exact hb z h

theorem numL_bytes : ∀ n : Nat, Bytes (numL n) := fun n => by
  induction n using Nat.strongRecOn with
  | _ n ih =>
    by_cases hn : n ≤ 127
    · rw [numL_small hn]
      intro z hz
      rw [List.mem_singleton.1 hz]
      omega
    · rw [numL_big hn]
      intro z hz
      cases hz with
      | head => omega
      | tail _ hz => exact ih (n / 128) (by omega) z hz

theorem numI_bytes (x : Int) : Bytes (numI x) := by
  unfold numI
  split
  · intro z hz; cases hz
  · exact numL_bytes _

theorem nodeB_bytes (x : DNode) : Bytes (nodeB x) := by
  unfold nodeB
  refine (numI_bytes _).app ?_
  repeat' split
  · exact numI_bytes _
  · exact numI_bytes _
  · exact (numI_bytes _).app (sb_bytes _)
  · exact (numI_bytes _).app (numI_bytes _)
  · exact (numI_bytes _).app (numI_bytes _)
  · exact numI_bytes _
  · intro z hz; cases hz

theorem packA_bytes (l : List DNode) : ∀ k : Nat, Bytes (packA l k)
  | 0 => numI_bytes _
  | k + 1 => by
    unfold packA
    split
    · exact packA_bytes l k
    · exact (packA_bytes l k).app (nodeB_bytes _)

noncomputable def vrP (s : ByteArray) : Option (List DNode) :=
  match poolP (sb s) 0 with
  | some (l, _) => if vpOk l ((l.length : Int) - 1) = true ∧ vpS l ((l.length : Int) - 1) = s then some l else none
  | none => none

theorem vr_some {s : ByteArray} {l : List DNode} {b : Int} (h : poolP (sb s) 0 = some (l, b)) (h1 : vpOk l ((l.length : Int) - 1) = true) (h2 : vpS l ((l.length : Int) - 1) = s) : vrP s = some l := by
  unfold vrP
  rw [h]
  simp only
  rw [if_pos ⟨h1, h2⟩]

theorem vr_no {s : ByteArray} {l : List DNode} {b : Int} (h : poolP (sb s) 0 = some (l, b)) (h1 : ¬ (vpOk l ((l.length : Int) - 1) = true ∧ vpS l ((l.length : Int) - 1) = s)) : vrP s = none := by
  unfold vrP
  rw [h]
  simp only
  rw [if_neg h1]

theorem vr_none {s : ByteArray} (h : poolP (sb s) 0 = none) : vrP s = none := by
  unfold vrP
  rw [h]

theorem vr_all {s : ByteArray} {l : List DNode} {b : Int} (h : poolP (sb s) 0 = some (l, b)) (h1 : vpOk l ((l.length : Int) - 1) = true) (h2 : vpS l ((l.length : Int) - 1) = s) : b = ((sb s).length : Nat) ∧ poolOk l = true := by
  obtain ⟨hp, -⟩ := clB_t.1 h1
  have hk := keep_ok hp [(l.length : Int) - 1]
  unfold vpS at h2
  rw [if_pos h1] at h2
  have e : sb s = packL (keepN l [(l.length : Int) - 1]) := by rw [← h2]; exact sb_strOfNums (packA_bytes _ _)
  have hq := pool_pack hk
  rw [← e, h] at hq
  simp only [Option.some.injEq, Prod.mk.injEq] at hq
  exact ⟨hq.2, hp⟩

theorem vr_allP {s : ByteArray} (h : allP (sb s) 0 = none) : vrP s = none := by
  cases hp : poolP (sb s) 0 with
  | none => exact vr_none hp
  | some q =>
    obtain ⟨l, b⟩ := q
    refine vr_no hp fun hh => ?_
    obtain ⟨e1, e2⟩ := vr_all hp hh.1 hh.2
    unfold allP at h
    rw [hp] at h
    simp only at h
    rw [if_pos ⟨e1, e2⟩] at h
    cases h

theorem allP_some {zs : List Int} {l : List DNode} (h : allP zs 0 = some l) : poolP zs 0 = some (l, (zs.length : Int)) ∧ poolOk l = true := by
  unfold allP at h
  split at h
  · rename_i l' b hb
    split at h
    · rename_i hc
      cases h
      exact ⟨by rw [hb, hc.1], hc.2⟩
    · cases h
  · cases h

noncomputable def vrR (s : ByteArray) : List RV :=
  match vrP s with
  | some l => [pR l, iR ((l.length : Int) - 1), bR true]
  | none => [pR [], iR 0, bR false]

theorem vrR_no {s : ByteArray} (h : vrP s = none) : [pR [], iR 0, bR false] = vrR s ∧ ([] : List (List C)) = [] := by
  unfold vrR
  rw [h]
  exact ⟨rfl, rfl⟩

theorem vrR_yes {s : ByteArray} {l : List DNode} (h : vrP s = some l) : [pR l, iR ((l.length : Int) - 1), bR true] = vrR s ∧ ([] : List (List C)) = [] := by
  unfold vrR
  rw [h]
  exact ⟨rfl, rfl⟩

set_option maxRecDepth 100000 in
set_option maxHeartbeats 1000000 in
theorem i_ValueRead_ok (s : ByteArray) (hs : s.size ≤ 1000000000) : FnV Tryz.prog 215 [sV s] fun rs outs => rs = vrR s ∧ outs = [] := by
  refine fn_ok (E := E21) τ_ok mixed Tryz.func215 (by rfl) (by rfl) false (by simp [Tryz.f215]) ?_
  have hz := sb_bytes s
  have hl := sb_len s
  conv => whnf
  refine ⟨by omega, ?_⟩
  conv => whnf
  rw [bytesOf_sb]
  refine (i_nodes_ok (sb s) 0 true hz (by omega) ⟨by omega, by omega⟩).mono ?_
  rintro _ _ ⟨l, a', ok', rfl, rfl, q1, q2, q3, q4⟩
  conv => whnf
  have hw : wrp .i64 (((npC l).length : Int) - 1) = (l.length : Int) - 1 := by rw [npC_len]; exact wrp_i64 (by omega) (by omega)
  rw [hw]
  refine (i_ValuePack_ok ⟨l⟩ _ ⟨by show l.length ≤ _; omega, q1⟩).mono ?_
  rintro _ _ ⟨rfl, rfl⟩
  conv => whnf
  have q5 : ok' = false → vrP s = none := fun h => by
    rcases q4 with ⟨h1, _⟩ | ⟨h1, _⟩ | ⟨_, h1 | h1⟩
    · rw [h] at h1; cases h1
    · rw [h] at h1; cases h1
    · cases h1
    · exact vr_none h1
  refine br_if (fun h1 => ?_) (fun h1 => ?_) <;> (try rw [h1]) <;> (conv => whnf)
  · rw [notB_t] at h1
    exact vrR_no (q5 h1)
  rw [notB_f] at h1
  subst h1
  refine br_if (fun h2 => ?_) (fun h2 => ?_) <;> (try rw [h2]) <;> (conv => whnf)
  · rw [notB_t] at h2
    refine vrR_no ?_
    rcases q4 with ⟨_, _, h3⟩ | ⟨_, _, _, h3⟩ | ⟨h3, _⟩
    · exact vr_no h3 fun h => by rw [h2] at h; cases h.1
    · exact vr_none h3
    · cases h3
  rw [notB_f] at h2
  have q6 : poolP (sb s) 0 = some (l, a') := by
    rcases q4 with ⟨_, _, h3⟩ | ⟨_, _, h4, h3⟩ | ⟨h3, _⟩
    · exact h3
    · have : l.length ≤ 3000 := (poolOk_t.1 (clB_t.1 h2).1).1
      omega
    · cases h3
  refine br_if (fun h3 => ?_) (fun h3 => ?_) <;> (try rw [h3]) <;> (conv => whnf)
  · rw [notB_t, eqStr_f] at h3
    exact vrR_no (vr_no q6 fun h => h3 h.2)
  · rw [notB_f, eqStr_t] at h3
    exact vrR_yes (vr_some q6 h2 h3)

set_option maxRecDepth 100000 in
set_option maxHeartbeats 1000000 in
theorem s_ValueRead_ok (s : ByteArray) (hs : s.size ≤ 1000000000) : FnV Tryz.prog 146 [sV s] fun rs outs => rs = vrR s ∧ outs = [] := by
  refine fn_ok (E := E21) τ_ok mixed Tryz.func146 (by rfl) (by rfl) false (by simp [Tryz.f146]) ?_
  have hz := sb_bytes s
  have hl := sb_len s
  conv => whnf
  refine ⟨by omega, ?_⟩
  conv => whnf
  rw [bytesOf_sb]
  refine (s_l8Read_ok (sb s) 0 true hz (by omega) ⟨by omega, by omega⟩).mono ?_
  rintro _ _ ⟨l, a', ok', rfl, rfl, q1, q2, q3, q4⟩
  conv => whnf
  refine br_if (fun h1 => ?_) (fun h1 => ?_) <;> (try rw [h1]) <;> (conv => whnf)
  · rw [notB_t] at h1
    refine vrR_no ?_
    rcases q4 with ⟨h2, _⟩ | ⟨_, h2 | h2⟩
    · rw [h1] at h2; cases h2
    · cases h2
    · exact vr_allP h2
  rw [notB_f] at h1
  subst h1
  have q5 : allP (sb s) 0 = some l := by
    rcases q4 with ⟨_, _, h2⟩ | ⟨h2, _⟩
    · exact h2
    · cases h2
  obtain ⟨q6, q7⟩ := allP_some q5
  refine br_if (fun h2 => ?_) (fun h2 => ?_) <;> (try rw [h2]) <;> (conv => whnf)
  · rw [eqI_t, npC_len] at h2
    refine vrR_no (vr_no q6 fun h => ?_)
    have := (clB_t.1 h.1).2
    omega
  rw [eqI_f, npC_len] at h2
  have hw : wrp .i64 (((npC l).length : Int) - 1) = (l.length : Int) - 1 := by rw [npC_len]; exact wrp_i64 (by omega) (by omega)
  rw [hw]
  refine (s_ValuePack_ok ⟨l⟩ _ ⟨by show l.length ≤ _; omega, q1⟩).mono ?_
  rintro _ _ ⟨rfl, rfl⟩
  conv => whnf
  refine br_if (fun h3 => ?_) (fun h3 => ?_) <;> (try rw [h3]) <;> (conv => whnf)
  · rw [notB_t, eqStr_f] at h3
    exact vrR_no (vr_no q6 fun h => h3 h.2)
  · rw [notB_f, eqStr_t] at h3
    refine ⟨.take 1 (.or 0 (.or 2 (.take 3 (.take 4 (.or 5 (.calm 6 (.calm 7 .done)) .nil))) (.or 5 (.calm 2 (.calm 3 (.calm 4 (.calm 6 (.calm 7 .done))))) .nil)) (.or 2 (.take 3 (.take 4 (.or 0 (.or 5 (.calm 6 (.calm 7 .done)) .nil) .nil))) .nil)), by rfl, ?_⟩
    apply Exists.intro
    refine ⟨?_, ?_⟩
    · conv => whnf
      repeat' (first
        | exact norm_wk (keep := [2, 3, 4]) (kb := [2]) (ρ := [(14, some 14)]) rfl
        | (refine ⟨?_, ?_⟩ <;> conv => whnf)
        | fail)
    conv => whnf
    rw [hw]
    exact vrR_yes (vr_some q6 (clB_t.2 ⟨q7, by omega, by omega⟩) h3)

end Go.Proofs.YtifodjnbcnbcpaaGreat.V

set_option linter.unusedVariables false

set_option linter.unusedSimpArgs false

namespace Go.Proofs.YtifodjnbcnbcpaaGreat.V

open Go

def MdE22 (f : Nat) : List Mode :=
  match f with
  | 48 => [.rd, .rd, .rd]
  | 54 => [.rd, .rd, .rd]
  | 145 => [.rd, .rd]
  | 146 => [.rd]
  | 151 => [.rd, .rd]
  | 152 => [.rd, .rd]
  | 153 => [.rd]
  | 154 => [.rd]
  | 155 => [.rd]
  | 214 => [.rd, .rd]
  | 215 => [.rd]
  | _ => []

def E22 : Env := ⟨τ, MdE22⟩

theorem vr_cases (s : ByteArray) : (∃ l, vrP s = some l ∧ vrR s = [pR l, iR ((l.length : Int) - 1), bR true]) ∨ (vrP s = none ∧ vrR s = [pR [], iR 0, bR false]) := by
  cases h : vrP s with
  | none => exact .inr ⟨rfl, by unfold vrR; rw [h]⟩
  | some l => exact .inl ⟨l, rfl, by unfold vrR; rw [h]⟩

noncomputable def isV (s : ByteArray) : Bool := (vrP s).isSome

set_option maxRecDepth 100000 in
theorem i_isValue_ok (s : ByteArray) (hs : s.size ≤ 1000000000) : FnV Tryz.prog 154 [sV s] fun rs outs => rs = [bR (isV s)] ∧ outs = [] := by
  refine fn_ok (E := E22) τ_ok mixed Tryz.func154 (by rfl) (by rfl) false (by simp [Tryz.f154]) ?_
  conv => whnf
  refine (i_ValueRead_ok s hs).mono ?_
  rintro _ _ ⟨rfl, rfl⟩
  unfold isV
  rcases vr_cases s with ⟨l, h, e⟩ | ⟨h, e⟩ <;> rw [e, h] <;> (conv => whnf) <;> exact ⟨rfl, rfl⟩

set_option maxRecDepth 100000 in
theorem i_ProcOk1_ok (s : ByteArray) (hs : s.size ≤ 1000000000) : FnV Tryz.prog 153 [sV s] fun rs outs => rs = [bR (notB (isV s))] ∧ outs = [] := by
  refine fn_ok (E := E22) τ_ok mixed Tryz.func153 (by rfl) (by rfl) false (by simp [Tryz.f153]) ?_
  conv => whnf
  refine (i_isValue_ok s hs).mono ?_
  rintro _ _ ⟨rfl, rfl⟩
  conv => whnf
  exact ⟨rfl, rfl⟩

set_option maxRecDepth 100000 in
theorem i_ProcOk2_ok (s : ByteArray) : FnV Tryz.prog 155 [sV s] fun rs outs => rs = [bR (ltI 400 s.size)] ∧ outs = [] := by
  refine fn_ok (E := E22) τ_ok mixed Tryz.func155 (by rfl) (by rfl) false (by simp [Tryz.f155]) ?_
  conv => whnf
  exact ⟨rfl, rfl⟩

set_option maxRecDepth 100000 in
theorem i_Box_ix  (xs : List ByteArray) (hl : xs.length ≤ 9223372036854775807) (hs : ∀ x ∈ xs, x.size ≤ 1000000000) : FnV Tryz.prog 214 [.rdv false [.sl true 1 (xs.map (fun x : ByteArray => [.sc (.string x)]))], .rdv false [.sc (.func (.func 153) #[] #[])]] fun rs outs => rs = [iR (fidx (fun x : ByteArray => notB (isV x)) xs 0)] ∧ outs = [] := by
  refine fn_ok (E := E22) τ_ok mixed Tryz.func214 (by rfl) (by rfl) false (by simp [Tryz.f214]) ?_
  conv => whnf
  rw [List.length_map]
  refine ⟨fun m s => ∃ (k : Int), s = ⟨[(0, .vals false [.rd none 1 (xs.map (fun x : ByteArray => [.sc (.string x)]))]), (1, .vals false [.sc (.func (.func 153) #[] #[])]), (4, .vals false [.sc (.int .i64 0)]), (7, .vals false [.sc (.int .i64 (xs.length : Nat))]), (8, .vals false [.sc (.int .i64 k)])], [], []⟩ ∧ m = xs.length - k.toNat ∧ 0 ≤ k ∧ k ≤ xs.length ∧ fidx (fun x : ByteArray => notB (isV x)) (xs.drop k.toNat) k = fidx (fun x : ByteArray => notB (isV x)) xs 0,
    ⟨_, _, norm_wk (keep := [0, 1, 4, 7, 8]) (kb := []) (ρ := []) rfl, ⟨0, rfl, rfl, by omega, by omega, rfl⟩⟩, ?_⟩
  rintro m _ ⟨k, rfl, rfl, k0, k1, hk⟩
  conv => whnf
  refine br_if (fun h => ?_) (fun h => ?_) <;> (try rw [h]) <;> (conv => whnf)
  · rw [ltI_t] at h
    obtain ⟨x, hx⟩ : ∃ x, xs[k.toNat]? = some x := ⟨_, List.getElem?_eq_getElem (by omega)⟩
    have hss := fidx_step (p := (fun x : ByteArray => notB (isV x))) hx
    rw [Int.toNat_of_nonneg k0] at hss
    rw [hss] at hk
    refine ⟨by omega, _, by rw [List.getElem?_map, hx]; rfl, ?_⟩
    conv => whnf
    refine (i_ProcOk1_ok x (hs x (List.mem_of_getElem? hx))).mono ?_
    rintro _ _ ⟨rfl, rfl⟩
    conv => whnf
    refine br_if (fun h2 => ?_) (fun h2 => ?_) <;> (try rw [h2]) <;> (conv => whnf)
    · rw [if_pos h2] at hk
      rw [← hk]
      exact ⟨rfl, rfl⟩
    · rw [if_neg (by rw [h2]; decide)] at hk
      rw [wrp_i64 (x := k + 1) (by omega) (by omega)]
      have ek : (k + 1).toNat = k.toNat + 1 := by omega
      exact ⟨xs.length - (k + 1).toNat, _, by omega, norm_wk (keep := [0, 1, 4, 7, 8]) (kb := []) (ρ := []) rfl, ⟨k + 1, rfl, rfl, by omega, by omega, by rw [ek]; exact hk⟩⟩
  · rw [ltI_f] at h
    rw [List.drop_eq_nil_of_le (by omega)] at hk
    rw [← hk]
    exact ⟨rfl, rfl⟩

set_option maxRecDepth 100000 in
theorem i_Box_cf  (xs : List ByteArray) (hl : xs.length ≤ 9223372036854775807) (hs : ∀ x ∈ xs, x.size ≤ 1000000000) : FnV Tryz.prog 152 [.rdv false [.sl true 1 (xs.map (fun x : ByteArray => [.sc (.string x)]))], .rdv false [.sc (.func (.func 153) #[] #[])]] fun rs outs => rs = [bR (xs.any (fun x : ByteArray => notB (isV x)))] ∧ outs = [] := by
  refine fn_ok (E := E22) τ_ok mixed Tryz.func152 (by rfl) (by rfl) false (by simp [Tryz.f152]) ?_
  conv => whnf
  refine (i_Box_ix  xs hl hs).mono ?_
  rintro _ _ ⟨rfl, rfl⟩
  conv => whnf
  rw [fidx_any]
  exact ⟨rfl, rfl⟩

set_option maxRecDepth 100000 in
theorem i_Out_ix  (xs : List ByteArray) (hl : xs.length ≤ 9223372036854775807) : FnV Tryz.prog 214 [.rdv false [.sl true 1 (xs.map (fun x : ByteArray => [.sc (.string x)]))], .rdv false [.sc (.func (.func 155) #[] #[])]] fun rs outs => rs = [iR (fidx (fun x : ByteArray => ltI 400 x.size) xs 0)] ∧ outs = [] := by
  refine fn_ok (E := E22) τ_ok mixed Tryz.func214 (by rfl) (by rfl) false (by simp [Tryz.f214]) ?_
  conv => whnf
  rw [List.length_map]
  refine ⟨fun m s => ∃ (k : Int), s = ⟨[(0, .vals false [.rd none 1 (xs.map (fun x : ByteArray => [.sc (.string x)]))]), (1, .vals false [.sc (.func (.func 155) #[] #[])]), (4, .vals false [.sc (.int .i64 0)]), (7, .vals false [.sc (.int .i64 (xs.length : Nat))]), (8, .vals false [.sc (.int .i64 k)])], [], []⟩ ∧ m = xs.length - k.toNat ∧ 0 ≤ k ∧ k ≤ xs.length ∧ fidx (fun x : ByteArray => ltI 400 x.size) (xs.drop k.toNat) k = fidx (fun x : ByteArray => ltI 400 x.size) xs 0,
    ⟨_, _, norm_wk (keep := [0, 1, 4, 7, 8]) (kb := []) (ρ := []) rfl, ⟨0, rfl, rfl, by omega, by omega, rfl⟩⟩, ?_⟩
  rintro m _ ⟨k, rfl, rfl, k0, k1, hk⟩
  conv => whnf
  refine br_if (fun h => ?_) (fun h => ?_) <;> (try rw [h]) <;> (conv => whnf)
  · rw [ltI_t] at h
    obtain ⟨x, hx⟩ : ∃ x, xs[k.toNat]? = some x := ⟨_, List.getElem?_eq_getElem (by omega)⟩
    have hss := fidx_step (p := (fun x : ByteArray => ltI 400 x.size)) hx
    rw [Int.toNat_of_nonneg k0] at hss
    rw [hss] at hk
    refine ⟨by omega, _, by rw [List.getElem?_map, hx]; rfl, ?_⟩
    conv => whnf
    refine (i_ProcOk2_ok x).mono ?_
    rintro _ _ ⟨rfl, rfl⟩
    conv => whnf
    refine br_if (fun h2 => ?_) (fun h2 => ?_) <;> (try rw [h2]) <;> (conv => whnf)
    · rw [if_pos h2] at hk
      rw [← hk]
      exact ⟨rfl, rfl⟩
    · rw [if_neg (by rw [h2]; decide)] at hk
      rw [wrp_i64 (x := k + 1) (by omega) (by omega)]
      have ek : (k + 1).toNat = k.toNat + 1 := by omega
      exact ⟨xs.length - (k + 1).toNat, _, by omega, norm_wk (keep := [0, 1, 4, 7, 8]) (kb := []) (ρ := []) rfl, ⟨k + 1, rfl, rfl, by omega, by omega, by rw [ek]; exact hk⟩⟩
  · rw [ltI_f] at h
    rw [List.drop_eq_nil_of_le (by omega)] at hk
    rw [← hk]
    exact ⟨rfl, rfl⟩

set_option maxRecDepth 100000 in
theorem i_Out_cf  (xs : List ByteArray) (hl : xs.length ≤ 9223372036854775807) : FnV Tryz.prog 152 [.rdv false [.sl true 1 (xs.map (fun x : ByteArray => [.sc (.string x)]))], .rdv false [.sc (.func (.func 155) #[] #[])]] fun rs outs => rs = [bR (xs.any (fun x : ByteArray => ltI 400 x.size))] ∧ outs = [] := by
  refine fn_ok (E := E22) τ_ok mixed Tryz.func152 (by rfl) (by rfl) false (by simp [Tryz.f152]) ?_
  conv => whnf
  refine (i_Out_ix  xs hl).mono ?_
  rintro _ _ ⟨rfl, rfl⟩
  conv => whnf
  rw [fidx_any]
  exact ⟨rfl, rfl⟩

@[reducible] def prV (p : DProc) : AV := .rdv true p.c

def ProcOk (c : DCode) (p : DProc) : Prop :=
  (1 ≤ p.xPid ∧ p.xPid ≤ 1000000000) ∧ machineOk c p.xM = true ∧ p.xBox.length ≤ 20 ∧ p.xOut.length ≤ 40 ∧ (∀ s ∈ p.xBox, isV s = true) ∧ ∀ s ∈ p.xOut, s.size ≤ 400

noncomputable def procOk (c : DCode) (p : DProc) : Bool := clB (ProcOk c p)

theorem procOk_t {c : DCode} {p : DProc} : procOk c p = true ↔ ProcOk c p := clB_t

theorem procOk_ff {c : DCode} {p : DProc} (h : ¬ ProcOk c p) : procOk c p = false := clB_f.2 h

theorem ssC_len (l : List ByteArray) : (ssC l).length = l.length := List.length_map ..

set_option maxRecDepth 100000 in
set_option maxHeartbeats 1000000 in
theorem i_ProcOk_ok (c : DCode) (p : DProc) (hc : c.ok) (hp : p.ok) (hb : ∀ s ∈ p.xBox, s.size ≤ 1000000000) : FnV Tryz.prog 84 [cV c, prV p] fun rs outs => rs = [bR (procOk c p)] ∧ outs = [] := by
  refine fn_ok (E := E22) τ_ok mixed Tryz.func84 (by rfl) (by rfl) false (by simp [Tryz.f84]) ?_
  obtain ⟨oP, oM, ⟨oB, -⟩, oO, -⟩ := hp
  conv => whnf
  refine (i_within_ok _ _ _).mono ?_
  rintro _ _ ⟨rfl, rfl⟩
  conv => whnf
  refine br_if (fun h1 => ?_) (fun h1 => ?_) <;> (try rw [h1]) <;> (conv => whnf)
  · exact bR_eq (procOk_ff fun h => by rw [notB_t, decide_eq_false_iff_not] at h1; exact h1 h.1).symm
  rw [notB_f, decide_eq_true_iff] at h1
  refine (i_MachineOk_ok c p.xM hc oM).mono ?_
  rintro _ _ ⟨rfl, rfl⟩
  conv => whnf
  refine br_if (fun h2 => ?_) (fun h2 => ?_) <;> (try rw [h2]) <;> (conv => whnf)
  · exact bR_eq (procOk_ff fun h => by rw [notB_t, h.2.1] at h2; cases h2).symm
  rw [notB_f] at h2
  refine br_if (fun h3 => ?_) (fun h3 => ?_) <;> (try rw [h3]) <;> (conv => whnf)
  · exact bR_eq (procOk_ff fun h => by rw [ltI_t, ssC_len] at h3; have := h.2.2.1; omega).symm
  rw [ltI_f, ssC_len] at h3
  refine br_if (fun h4 => ?_) (fun h4 => ?_) <;> (try rw [h4]) <;> (conv => whnf)
  · exact bR_eq (procOk_ff fun h => by rw [ltI_t, ssC_len] at h4; have := h.2.2.2.1; omega).symm
  rw [ltI_f, ssC_len] at h4
  refine (i_Box_cf p.xBox oB hb).mono ?_
  rintro _ _ ⟨rfl, rfl⟩
  conv => whnf
  refine br_if (fun h5 => ?_) (fun h5 => ?_) <;> (try rw [h5]) <;> (conv => whnf)
  · rw [notB_t, List.any_eq_false] at h5
    refine (i_Out_cf p.xOut oO).mono ?_
    rintro _ _ ⟨rfl, rfl⟩
    conv => whnf
    refine bR_eq (Bool.eq_iff_iff.2 ?_)
    rw [procOk_t, notB_t, List.any_eq_false]
    refine ⟨fun h => ⟨h1, h2, by omega, by omega, fun s hs => ?_, fun s hs => ?_⟩, fun h s hs => ?_⟩
    · have := h5 s hs
      rw [Bool.not_eq_true, notB_f] at this
      exact this
    · have := h s hs
      rw [Bool.not_eq_true, ltI_f] at this
      omega
    · rw [Bool.not_eq_true, ltI_f]
      have := h.2.2.2.2.2 s hs
      omega
  · rw [notB_f, List.any_eq_true] at h5
    obtain ⟨s, hs, h6⟩ := h5
    rw [notB_t] at h6
    exact bR_eq (procOk_ff fun h => by rw [h.2.2.2.2.1 s hs] at h6; cases h6).symm

set_option maxRecDepth 100000 in
set_option maxHeartbeats 1000000 in
theorem s_ProcOk_ok (c : DCode) (p : DProc) (hc : c.ok) (hp : p.ok) (hb : ∀ s ∈ p.xBox, s.size ≤ 1000000000) : FnV Tryz.prog 80 [cV c, prV p] fun rs outs => rs = [bR (procOk c p)] ∧ outs = [] := by
  refine fn_ok (E := E22) τ_ok mixed Tryz.func80 (by rfl) (by rfl) false (by simp [Tryz.f80]) ?_
  obtain ⟨oP, oM, ⟨oB, -⟩, oO, -⟩ := hp
  conv => whnf
  refine (s_l1In_ok _ _ _).mono ?_
  rintro _ _ ⟨rfl, rfl⟩
  conv => whnf
  refine br_if (fun h1 => ?_) (fun h1 => ?_) <;> (try rw [h1]) <;> (conv => whnf)
  · exact bR_eq (procOk_ff fun h => by rw [notB_t, decide_eq_false_iff_not] at h1; exact h1 h.1).symm
  rw [notB_f, decide_eq_true_iff] at h1
  refine (s_MachineOk_ok c p.xM hc oM).mono ?_
  rintro _ _ ⟨rfl, rfl⟩
  conv => whnf
  refine br_if (fun h2 => ?_) (fun h2 => ?_) <;> (try rw [h2]) <;> (conv => whnf)
  · exact bR_eq (procOk_ff fun h => by rw [notB_t, h.2.1] at h2; cases h2).symm
  rw [notB_f] at h2
  refine br_if (fun h3 => ?_) (fun h3 => ?_) <;> (try rw [h3]) <;> (conv => whnf)
  · exact bR_eq (procOk_ff fun h => by rw [ltI_t, ssC_len] at h3; have := h.2.2.1; omega).symm
  rw [ltI_f, ssC_len] at h3
  refine br_if (fun h4 => ?_) (fun h4 => ?_) <;> (try rw [h4]) <;> (conv => whnf)
  · exact bR_eq (procOk_ff fun h => by rw [ltI_t, ssC_len] at h4; have := h.2.2.2.1; omega).symm
  rw [ltI_f, ssC_len] at h4
  refine ⟨fun m s => ∃ (k : Int), s = ⟨[(3, .bptr 3 0 0), (4, .vals false [.sc (.bool false)]), (5, .vals false [.sc (.int .i64 k)])], [(3, ⟨0, p.x⟩)], []⟩ ∧ m = p.xBox.length - k.toNat ∧ 0 ≤ k ∧ k ≤ p.xBox.length ∧ ∀ s ∈ p.xBox.take k.toNat, isV s = true,
    ⟨_, _, norm_wk (keep := [3, 4, 5]) (kb := [3]) (ρ := []) rfl, ⟨0, rfl, rfl, by omega, by omega, by simp⟩⟩, ?_⟩
  rintro m _ ⟨k, rfl, rfl, k0, k1, hk⟩
  conv => whnf
  refine br_if (fun h => ?_) (fun h => ?_) <;> (try rw [h]) <;> (conv => whnf)
  · rw [ltI_t, ssC_len] at h
    obtain ⟨x, hx⟩ : ∃ x, p.xBox[k.toNat]? = some x := ⟨_, List.getElem?_eq_getElem (by omega)⟩
    refine ⟨k0, _, by rw [List.getElem?_map, hx]; rfl, ?_⟩
    conv => whnf
    refine (s_ValueRead_ok x (hb x (List.mem_of_getElem? hx))).mono ?_
    rintro _ _ ⟨rfl, rfl⟩
    have wk : wrp .i64 (k + 1) = k + 1 := wrp_i64 (by omega) (by omega)
    rcases vr_cases x with ⟨l, hv, e⟩ | ⟨hv, e⟩ <;> rw [e] <;> (conv => whnf)
    · rw [show notB true = false from notB_f.2 rfl]
      conv => whnf
      rw [wk]
      refine ⟨p.xBox.length - (k + 1).toNat, _, by omega, norm_wk (keep := [3, 4, 5]) (kb := [3]) (ρ := []) rfl, ⟨k + 1, rfl, rfl, by omega, by omega, ?_⟩⟩
      rw [show (k + 1).toNat = k.toNat + 1 by omega]
      exact all_snoc hx hk (by unfold isV; rw [hv]; rfl)
    · rw [show notB false = true from notB_t.2 rfl]
      conv => whnf
      exact bR_eq (procOk_ff fun h => by
        have := h.2.2.2.2.1 x (List.mem_of_getElem? hx)
        unfold isV at this
        rw [hv] at this
        cases this).symm
  rw [ltI_f, ssC_len] at h
  rw [List.take_of_length_le (by omega)] at hk
  clear h k0 k1
  refine ⟨fun m s => ∃ (k : Int), s = ⟨[(3, .bptr 3 0 0), (4, .vals false [.sc (.bool false)]), (9, .vals false [.sc (.int .i64 k)])], [(3, ⟨0, p.x⟩)], []⟩ ∧ m = p.xOut.length - k.toNat ∧ 0 ≤ k ∧ k ≤ p.xOut.length ∧ ∀ s ∈ p.xOut.take k.toNat, s.size ≤ 400,
    ⟨_, _, norm_wk (keep := [3, 4, 9]) (kb := [3]) (ρ := []) rfl, ⟨0, rfl, rfl, by omega, by omega, by simp⟩⟩, ?_⟩
  rintro m _ ⟨k, rfl, rfl, k0, k1, hk2⟩
  conv => whnf
  refine br_if (fun h => ?_) (fun h => ?_) <;> (try rw [h]) <;> (conv => whnf)
  · rw [ltI_t, ssC_len] at h
    obtain ⟨x, hx⟩ : ∃ x, p.xOut[k.toNat]? = some x := ⟨_, List.getElem?_eq_getElem (by omega)⟩
    refine ⟨k0, _, by rw [List.getElem?_map, hx]; rfl, ?_⟩
    conv => whnf
    refine br_if (fun h2 => ?_) (fun h2 => ?_) <;> (try rw [h2]) <;> (conv => whnf)
    · rw [ltI_t] at h2
      exact bR_eq (procOk_ff fun h => by
        have := h.2.2.2.2.2 x (List.mem_of_getElem? hx)
        omega).symm
    · rw [ltI_f] at h2
      rw [wrp_i64 (x := k + 1) (by omega) (by omega)]
      refine ⟨p.xOut.length - (k + 1).toNat, _, by omega, norm_wk (keep := [3, 4, 9]) (kb := [3]) (ρ := []) rfl, ⟨k + 1, rfl, rfl, by omega, by omega, ?_⟩⟩
      rw [show (k + 1).toNat = k.toNat + 1 by omega]
      exact all_snoc hx hk2 (by omega)
  · rw [ltI_f, ssC_len] at h
    rw [List.take_of_length_le (by omega)] at hk2
    exact bR_eq (procOk_t.2 ⟨h1, h2, by omega, by omega, hk, hk2⟩).symm

end Go.Proofs.YtifodjnbcnbcpaaGreat.V

set_option linter.unusedVariables false

set_option linter.unusedSimpArgs false

namespace Go.Proofs.YtifodjnbcnbcpaaGreat.V

open Go

def RdPost {α : Type} (p : Option (α × Int)) (ok : Bool) (x : α) (a' : Int) (ok' : Bool) : Prop :=
  (ok' = true ∧ ok = true ∧ p = some (x, a')) ∨ (ok' = false ∧ (ok = false ∨ p = none))

theorem RdPost.bind {α β : Type} {p : Option (α × Int)} {q : α → Int → Option (β × Int)} {ok ok1 ok2 : Bool} {x : α} {y : β} {a1 a2 : Int} (h1 : RdPost p ok x a1 ok1) (h2 : RdPost (q x a1) ok1 y a2 ok2) : RdPost (p.bind fun r => q r.1 r.2) ok y a2 ok2 := by
  rcases h1 with ⟨e1, e2, e3⟩ | ⟨e1, e2⟩
  · rcases h2 with ⟨f1, f2, f3⟩ | ⟨f1, f2⟩
    · exact .inl ⟨f1, e2, by rw [e3]; exact f3⟩
    · rcases f2 with f2 | f2
      · rw [e1] at f2; cases f2
      · exact .inr ⟨f1, .inr (by rw [e3]; exact f2)⟩
  · rcases h2 with ⟨f1, f2, f3⟩ | ⟨f1, f2⟩
    · rw [e1] at f2; cases f2
    · rcases e2 with e2 | e2
      · exact .inr ⟨f1, .inl e2⟩
      · exact .inr ⟨f1, .inr (by rw [e2]; rfl)⟩

structure RawP where
  pid : Int
  text : ByteArray
  box : List ByteArray
  out : List ByteArray

end Go.Proofs.YtifodjnbcnbcpaaGreat.V

set_option linter.unusedVariables false

set_option linter.unusedSimpArgs false

namespace Go.Proofs.YtifodjnbcnbcpaaGreat.V

open Go

@[reducible] def mR (m : DMachine) : RV := ⟨true, [.own true 5 (npC m.xPool.xNodes), .rd (.sc (.int .i64 m.xAt)), .rd (.sc (.int .i64 m.xS)), .rd (.sc (.int .i64 m.xE)), .rd (.sc (.int .i64 m.xD)), .rd (.sc (.int .i64 m.xState)), .rd (.sc (.int .i64 m.xAsk)), .rd (.sc (.int .i64 m.xArg))]⟩

end Go.Proofs.YtifodjnbcnbcpaaGreat.V

set_option linter.unusedVariables false

set_option linter.unusedSimpArgs false

namespace Go.Proofs.YtifodjnbcnbcpaaGreat.V

open Go

theorem RdPost.pure {α : Type} {x : α} {a : Int} {ok : Bool} : RdPost (some (x, a)) ok x a ok := by
  cases ok
  · exact .inr ⟨rfl, .inl rfl⟩
  · exact .inl ⟨rfl, rfl, rfl⟩

def m0 : DMachine := ⟨⟨[]⟩, 0, 0, 0, 0, 0, 0, 0⟩

end Go.Proofs.YtifodjnbcnbcpaaGreat.V

set_option linter.unusedVariables false

set_option linter.unusedSimpArgs false

namespace Go.Proofs.YtifodjnbcnbcpaaGreat.V

open Go

def p0 : DProc := ⟨0, m0, [], []⟩

theorem q0f : notB false = true := notB_t.2 rfl

end Go.Proofs.YtifodjnbcnbcpaaGreat.V

set_option linter.unusedVariables false

set_option linter.unusedSimpArgs false

namespace Go.Proofs.YtifodjnbcnbcpaaGreat.V

open Go

def MdE46 (f : Nat) : List Mode :=
  match f with
  | 80 => [.rd, .rd]
  | 84 => [.rd, .rd]
  | 116 => [.rd, .rd]
  | 121 => [.rd, .rd]
  | 163 => [.rd]
  | 176 => [.rd]
  | 188 => [.rd, .rd]
  | 190 => [.rd, .rd]
  | _ => []

def E46 : Env := ⟨τ, MdE46⟩

def ndK (k : Int) : DNode := ⟨k, 0, ⟨#[]⟩, 0, 0⟩

noncomputable def mnP (c : DCode) (s : ByteArray) : Option DMachine :=
  if codeOk c = true ∧ 0 ≤ defOf c s then (match c.xDefs[(defOf c s).toNat]? with
    | some d => if d.xArgs = 0 then some ⟨⟨[ndK 1, ndK 5]⟩, d.xAt, 0, 1, 0, 0, 0, 0⟩ else none
    | none => none) else none

theorem mn_no {c : DCode} {s : ByteArray} (h : codeOk c = false ∨ defOf c s < 0) : mnP c s = none := by
  unfold mnP
  rw [if_neg]
  rintro ⟨a, b⟩
  rcases h with h | h
  · rw [h] at a; cases a
  · omega

theorem mn_args {c : DCode} {s : ByteArray} {d : DDef} (hd : c.xDefs[(defOf c s).toNat]? = some d) (h : d.xArgs ≠ 0) : mnP c s = none := by
  unfold mnP
  split
  · rw [hd]
    simp only
    rw [if_neg h]
  · rfl

theorem mn_yes {c : DCode} {s : ByteArray} {d : DDef} (h1 : codeOk c = true) (h2 : 0 ≤ defOf c s) (hd : c.xDefs[(defOf c s).toNat]? = some d) (h : d.xArgs = 0) : mnP c s = some ⟨⟨[ndK 1, ndK 5]⟩, d.xAt, 0, 1, 0, 0, 0, 0⟩ := by
  unfold mnP
  rw [if_pos ⟨h1, h2⟩, hd]
  simp only
  rw [if_pos h]

noncomputable def mnR (c : DCode) (s : ByteArray) : List RV := match mnP c s with
  | some m => [mR m, bR true]
  | none => [mR m0, bR false]

theorem mnR_no {c : DCode} {s : ByteArray} (h : mnP c s = none) : [mR m0, bR false] = mnR c s ∧ ([] : List (List C)) = [] := by
  unfold mnR
  rw [h]
  exact ⟨rfl, rfl⟩

theorem mnR_yes {c : DCode} {s : ByteArray} {m : DMachine} (h : mnP c s = some m) : [mR m, bR true] = mnR c s ∧ ([] : List (List C)) = [] := by
  unfold mnR
  rw [h]
  exact ⟨rfl, rfl⟩

theorem df_at {c : DCode} {s : ByteArray} (h : 0 ≤ defOf c s) : ∃ x, c.xDefs[(defOf c s).toNat]? = some x := by
  rcases fidx_ge (fun x : DDef => eqStr x.xName s) c.xDefs 0 (by omega) with ⟨e, -⟩ | ⟨-, -, -, x, hx, -⟩
  · unfold defOf at h
    omega
  · rw [Int.sub_zero] at hx
    exact ⟨x, hx⟩

theorem dfC_at {l : List DDef} {k : Nat} {x : DDef} (h : l[k]? = some x) : (l.map DDef.c)[k]? = some x.c := by rw [List.getElem?_map, h]; rfl

set_option maxRecDepth 100000 in
set_option maxHeartbeats 1000000 in
theorem i_MachineNew_ok (c : DCode) (s : ByteArray) (hc : c.ok) : FnV Tryz.prog 121 [cV c, sV s] fun rs outs => rs = mnR c s ∧ outs = [] := by
  refine fn_ok (E := E46) τ_ok mixed Tryz.func121 (by rfl) (by rfl) false (by simp [Tryz.f121]) ?_
  conv => whnf
  refine (i_DefOf_ok c s hc.2.2.1).mono ?_
  rintro _ _ ⟨rfl, rfl⟩
  conv => whnf
  refine (i_CodeOk_ok c hc).mono ?_
  rintro _ _ ⟨rfl, rfl⟩
  conv => whnf
  refine br_if (fun h1 => ?_) (fun h1 => ?_) <;> rw [h1] <;> (conv => whnf)
  · rw [notB_t] at h1
    exact mnR_no (mn_no (.inl h1))
  rw [notB_f] at h1
  refine br_if (fun h2 => ?_) (fun h2 => ?_) <;> rw [h2] <;> (conv => whnf)
  · rw [ltI_t] at h2
    exact mnR_no (mn_no (.inr h2))
  rw [ltI_f] at h2
  obtain ⟨d, hd⟩ := df_at h2
  refine ⟨h2, _, dfC_at hd, ?_⟩
  conv => whnf
  refine br_if (fun h3 => ?_) (fun h3 => ?_) <;> (try rw [h3]) <;> (conv => whnf)
  · rw [notB_t, eqI_f] at h3
    exact mnR_no (mn_args hd h3)
  rw [notB_f, eqI_t] at h3
  refine ⟨h2, _, dfC_at hd, ?_⟩
  conv => whnf
  exact mnR_yes (mn_yes h1 h2 hd h3)

set_option maxRecDepth 100000 in
set_option maxHeartbeats 1000000 in
theorem s_MachineNew_ok (c : DCode) (s : ByteArray) (hc : c.ok) : FnV Tryz.prog 116 [cV c, sV s] fun rs outs => rs = mnR c s ∧ outs = [] := by
  refine fn_ok (E := E46) τ_ok mixed Tryz.func116 (by rfl) (by rfl) false (by simp [Tryz.f116]) ?_
  conv => whnf
  refine (s_DefOf_ok c s hc.2.2.1).mono ?_
  rintro _ _ ⟨rfl, rfl⟩
  conv => whnf
  refine (s_CodeOk_ok c hc).mono ?_
  rintro _ _ ⟨rfl, rfl⟩
  conv => whnf
  refine br_if (fun h1 => ?_) (fun h1 => ?_) <;> rw [h1] <;> (conv => whnf)
  · rw [notB_t] at h1
    exact mnR_no (mn_no (.inl h1))
  rw [notB_f] at h1
  refine br_if (fun h2 => ?_) (fun h2 => ?_) <;> rw [h2] <;> (conv => whnf)
  · rw [ltI_t] at h2
    exact mnR_no (mn_no (.inr h2))
  rw [ltI_f] at h2
  obtain ⟨d, hd⟩ := df_at h2
  refine ⟨h2, _, dfC_at hd, ?_⟩
  conv => whnf
  refine br_if (fun h3 => ?_) (fun h3 => ?_) <;> (try rw [h3]) <;> (conv => whnf)
  · rw [notB_t, eqI_f] at h3
    exact mnR_no (mn_args hd h3)
  rw [notB_f, eqI_t] at h3
  refine ⟨.take 1 (.take 3 (.or 0 (.or 2 (.take 4 (.take 5 (.or 6 (.or 7 (.or 8 (.take 9 .done) .nil) .nil) .nil))) .nil) (.or 2 (.take 4 (.take 5 (.early 6 (.or 0 (.or 7 (.or 8 (.take 9 .done) .nil) .nil) .nil)))) .nil))), by rfl, ?_⟩
  apply Exists.intro
  refine ⟨?_, ?_⟩
  · conv => whnf
    repeat' (first
      | (refine ⟨rfl, ?_⟩; conv => whnf)
      | (refine ⟨h2, _, dfC_at hd, ?_⟩; conv => whnf)
      | exact norm_wk (keep := [4, 5]) (kb := [4]) (ρ := [(30, some 100)]) rfl
      | (refine ⟨?_, ?_⟩ <;> conv => whnf)
      | fail)
  conv => whnf
  exact mnR_yes (mn_yes h1 h2 hd h3)

theorem mn_ok {c : DCode} {s : ByteArray} {m : DMachine} (hc : c.ok) (h : mnP c s = some m) : m.ok := by
  unfold mnP at h
  split at h
  · split at h
    · rename_i d hd
      split at h
      · cases h
        have hdo := (hc.2.2.2 d (List.mem_of_getElem? hd))
        obtain ⟨-, hat, -⟩ := hdo
        simp [DMachine.ok, DPool.ok, DNode.ok, ndK]
        have e : (⟨#[]⟩ : ByteArray).size = 0 := rfl
        omega
      · cases h
    · cases h
  · cases h

noncomputable def pnP (c : DCode) (s : ByteArray) (pid : Int) : Option DProc :=
  match mnP c s with
  | some m => if procOk c ⟨pid, m, [], []⟩ = true then some ⟨pid, m, [], []⟩ else none
  | none => none

noncomputable def pnR (c : DCode) (s : ByteArray) (pid : Int) : List RV := match pnP c s pid with
  | some p => [p.r, bR true]
  | none => [p0.r, bR false]

theorem pnR_no {c : DCode} {s : ByteArray} {pid : Int} (h : pnP c s pid = none) : [p0.r, bR false] = pnR c s pid ∧ ([] : List (List C)) = [] := by
  unfold pnR
  rw [h]
  exact ⟨rfl, rfl⟩

theorem pnR_yes {c : DCode} {s : ByteArray} {pid : Int} {p : DProc} (h : pnP c s pid = some p) : [p.r, bR true] = pnR c s pid ∧ ([] : List (List C)) = [] := by
  unfold pnR
  rw [h]
  exact ⟨rfl, rfl⟩

theorem mnR_n {c : DCode} {s : ByteArray} (h : mnP c s = none) : mnR c s = [mR m0, bR false] := (mnR_no h).1.symm

theorem mnR_s {c : DCode} {s : ByteArray} {m : DMachine} (h : mnP c s = some m) : mnR c s = [mR m, bR true] := (mnR_yes h).1.symm

theorem pn_none {c : DCode} {s : ByteArray} {pid : Int} (h : mnP c s = none) : pnP c s pid = none := by
  unfold pnP
  rw [h]

theorem pn_bad {c : DCode} {s : ByteArray} {pid : Int} {m : DMachine} (h : mnP c s = some m) (hp : procOk c ⟨pid, m, [], []⟩ = false) : pnP c s pid = none := by
  unfold pnP
  rw [h]
  simp only
  rw [if_neg (by rw [hp]; decide)]

theorem pn_some {c : DCode} {s : ByteArray} {pid : Int} {m : DMachine} (h : mnP c s = some m) (hp : procOk c ⟨pid, m, [], []⟩ = true) : pnP c s pid = some ⟨pid, m, [], []⟩ := by
  unfold pnP
  rw [h]
  simp only
  rw [if_pos hp]

set_option maxRecDepth 100000 in
set_option maxHeartbeats 1000000 in
theorem i_ProcNew_ok (c : DCode) (s : ByteArray) (pid : Int) (hc : c.ok) (h0 : -9223372036854775808 ≤ pid) (h1 : pid ≤ 9223372036854775807) : FnV Tryz.prog 53 [cV c, sV s, iV pid] fun rs outs => rs = pnR c s pid ∧ outs = [] := by
  refine fn_ok (E := E46) τ_ok mixed Tryz.func53 (by rfl) (by rfl) false (by simp [Tryz.f53]) ?_
  conv => whnf
  refine (i_MachineNew_ok c s hc).mono ?_
  rintro _ _ ⟨rfl, rfl⟩
  cases hm : mnP c s with
  | none =>
    rw [mnR_n hm]
    conv => whnf
    rw [q0f]
    conv => whnf
    exact pnR_no (pn_none hm)
  | some m =>
    rw [mnR_s hm]
    conv => whnf
    rw [notB_f.2 rfl]
    conv => whnf
    refine (i_ProcOk_ok c ⟨pid, m, [], []⟩ hc ⟨⟨h0, h1⟩, mn_ok hc hm, ⟨by simp, by simp⟩, ⟨by simp, by simp⟩⟩ (by simp)).mono ?_
    rintro _ _ ⟨rfl, rfl⟩
    conv => whnf
    refine br_if (fun h2 => ?_) (fun h2 => ?_) <;> (try rw [h2]) <;> (conv => whnf)
    · rw [notB_t] at h2
      exact pnR_no (pn_bad hm h2)
    · rw [notB_f] at h2
      exact pnR_yes (pn_some hm h2)

set_option maxRecDepth 100000 in
set_option maxHeartbeats 1000000 in
theorem s_ProcNew_ok (c : DCode) (s : ByteArray) (pid : Int) (hc : c.ok) (h0 : -9223372036854775808 ≤ pid) (h1 : pid ≤ 9223372036854775807) : FnV Tryz.prog 47 [cV c, sV s, iV pid] fun rs outs => rs = pnR c s pid ∧ outs = [] := by
  refine fn_ok (E := E46) τ_ok mixed Tryz.func47 (by rfl) (by rfl) false (by simp [Tryz.f47]) ?_
  conv => whnf
  refine (s_MachineNew_ok c s hc).mono ?_
  rintro _ _ ⟨rfl, rfl⟩
  cases hm : mnP c s with
  | none =>
    rw [mnR_n hm]
    conv => whnf
    rw [q0f]
    conv => whnf
    exact pnR_no (pn_none hm)
  | some m =>
    rw [mnR_s hm]
    conv => whnf
    rw [notB_f.2 rfl]
    conv => whnf
    refine (s_ProcOk_ok c ⟨pid, m, [], []⟩ hc ⟨⟨h0, h1⟩, mn_ok hc hm, ⟨by simp, by simp⟩, ⟨by simp, by simp⟩⟩ (by simp)).mono ?_
    rintro _ _ ⟨rfl, rfl⟩
    conv => whnf
    refine br_if (fun h2 => ?_) (fun h2 => ?_) <;> (try rw [h2]) <;> (conv => whnf)
    · rw [notB_t] at h2
      exact pnR_no (pn_bad hm h2)
    · rw [notB_f] at h2
      exact pnR_yes (pn_some hm h2)

end Go.Proofs.YtifodjnbcnbcpaaGreat.V

set_option linter.unusedVariables false

set_option linter.unusedSimpArgs false

namespace Go.Proofs.YtifodjnbcnbcpaaGreat.V

open Go

@[reducible] def wV (w : DWorld) : AV := .rdv true w.c

@[reducible] def ssV (l : List ByteArray) : AV := .rdv false [.sl true 1 (ssC l)]

theorem sssC_len (l : List (List ByteArray)) : (sssC l).length = l.length := List.length_map ..

theorem sssC_at {l : List (List ByteArray)} {k : Nat} {x : List ByteArray} (h : l[k]? = some x) : (sssC l)[k]? = some [.sl true 1 (ssC x)] := by rw [List.getElem?_map, h]; rfl

theorem lkC_len (l : List DLink) : (l.map DLink.c).length = l.length := List.length_map ..

theorem lkC_at {l : List DLink} {k : Nat} {x : DLink} (h : l[k]? = some x) : (l.map DLink.c)[k]? = some x.c := by rw [List.getElem?_map, h]; rfl

theorem flat_ss (l : List ByteArray) : Flat 1 (ssC l) := by
  intro row hr
  obtain ⟨x, _, rfl⟩ := List.mem_map.1 hr
  exact ⟨rfl, fun c hc => by rw [List.mem_singleton.1 hc]; exact ⟨_, rfl, rfl⟩⟩

@[reducible] def ssR (l : List ByteArray) : RV := ⟨false, [.own true 1 (ssC l)]⟩

theorem hmC_at {l : List DHome} {k : Nat} {x : DHome} (h : l[k]? = some x) : (l.map DHome.c)[k]? = some x.c := by rw [List.getElem?_map, h]; rfl

theorem hmC_len (l : List DHome) : (l.map DHome.c).length = l.length := List.length_map ..

end Go.Proofs.YtifodjnbcnbcpaaGreat.V

set_option linter.unusedVariables false

set_option linter.unusedSimpArgs false

namespace Go.Proofs.YtifodjnbcnbcpaaGreat.V

open Go

def MdE47 (f : Nat) : List Mode :=
  match f with
  | _ => []

def E47 : Env := ⟨τ, MdE47⟩

theorem ss_eq {l l' : List ByteArray} {o o' : List (List C)} (h : l = l') (h2 : o = o') : [ssR l] = [ssR l'] ∧ o = o' := ⟨by rw [h], h2⟩

set_option maxRecDepth 100000 in
theorem sl_CloneS_ok (l : List ByteArray) (hl : l.length ≤ 1000000) : FnV Tryz.prog 193 [ssV l] fun rs outs => rs = [ssR l] ∧ outs = [] := by
  refine fn_ok (E := E47) τ_ok mixed Tryz.func193 (by rfl) (by rfl) false (by simp [Tryz.f193]) ?_
  conv => whnf
  intro b hb
  conv => whnf
  refine br_if (fun h => ?_) (fun h => ?_) <;> (try rw [h]) <;> (conv => whnf)
  · exact ss_eq (List.map_eq_nil_iff.1 (hb h)).symm rfl
  · refine ⟨flat_ss l, ?_⟩
    conv => whnf
    have hl' := ssC_len l
    refine ⟨show (0 + (ssC l).length) * 16 ≤ 140737488355328 by omega, ?_⟩
    conv => whnf
    exact ⟨rfl, rfl⟩

theorem flat_of {α : Type} {f : α → List C} {n : Nat} (h : ∀ x, (f x).length = n ∧ ∀ c ∈ f x, ∃ v, c = C.sc v ∧ v.oneCell' = true) (l : List α) : Flat n (l.map f) := by
  intro row hr
  obtain ⟨x, _, rfl⟩ := List.mem_map.1 hr
  exact h x

theorem flat_Node (l : List DNode) : Flat 5 (l.map DNode.c) := flat_of (f := DNode.c) (fun x => ⟨rfl, fun c hc => by
  simp only [List.mem_cons, List.not_mem_nil, or_false] at hc
  rcases hc with rfl | rfl | rfl | rfl | rfl <;> exact ⟨_, rfl, rfl⟩⟩) l

set_option maxRecDepth 100000 in
theorem sl_CloneNode_ok (l : List DNode) (hl : l.length ≤ 1000000) : FnV Tryz.prog 191 [.rdv false [.sl true 5 (l.map DNode.c)]] fun rs outs => rs = [⟨false, [.own true 5 (l.map DNode.c)]⟩] ∧ outs = [] := by
  refine fn_ok (E := E47) τ_ok mixed Tryz.func191 (by rfl) (by rfl) false (by simp [Tryz.f191]) ?_
  conv => whnf
  intro b hb
  conv => whnf
  refine br_if (fun h => ?_) (fun h => ?_) <;> (try rw [h]) <;> (conv => whnf)
  · obtain rfl : l = [] := List.map_eq_nil_iff.1 (hb h)
    exact ⟨rfl, rfl⟩
  · refine ⟨flat_Node l, ?_⟩
    conv => whnf
    have hl' : (l.map DNode.c).length = l.length := List.length_map ..
    refine ⟨show (0 + (l.map DNode.c).length) * d231.bytes ≤ 140737488355328 by simp only [d231]; omega, ?_⟩
    conv => whnf
    exact ⟨rfl, rfl⟩

theorem flat_Instr (l : List DInstr) : Flat 4 (l.map DInstr.c) := flat_of (f := DInstr.c) (fun x => ⟨rfl, fun c hc => by
  simp only [List.mem_cons, List.not_mem_nil, or_false] at hc
  rcases hc with rfl | rfl | rfl | rfl <;> exact ⟨_, rfl, rfl⟩⟩) l

set_option maxRecDepth 100000 in
theorem sl_CloneInstr_ok (l : List DInstr) (hl : l.length ≤ 1000000) : FnV Tryz.prog 123 [.rdv false [.sl true 4 (l.map DInstr.c)]] fun rs outs => rs = [⟨false, [.own true 4 (l.map DInstr.c)]⟩] ∧ outs = [] := by
  refine fn_ok (E := E47) τ_ok mixed Tryz.func123 (by rfl) (by rfl) false (by simp [Tryz.f123]) ?_
  conv => whnf
  intro b hb
  conv => whnf
  refine br_if (fun h => ?_) (fun h => ?_) <;> (try rw [h]) <;> (conv => whnf)
  · obtain rfl : l = [] := List.map_eq_nil_iff.1 (hb h)
    exact ⟨rfl, rfl⟩
  · refine ⟨flat_Instr l, ?_⟩
    conv => whnf
    have hl' : (l.map DInstr.c).length = l.length := List.length_map ..
    refine ⟨show (0 + (l.map DInstr.c).length) * d164.bytes ≤ 140737488355328 by simp only [d164]; omega, ?_⟩
    conv => whnf
    exact ⟨rfl, rfl⟩

theorem flat_Def (l : List DDef) : Flat 3 (l.map DDef.c) := flat_of (f := DDef.c) (fun x => ⟨rfl, fun c hc => by
  simp only [List.mem_cons, List.not_mem_nil, or_false] at hc
  rcases hc with rfl | rfl | rfl <;> exact ⟨_, rfl, rfl⟩⟩) l

set_option maxRecDepth 100000 in
theorem sl_CloneDef_ok (l : List DDef) (hl : l.length ≤ 1000000) : FnV Tryz.prog 124 [.rdv false [.sl true 3 (l.map DDef.c)]] fun rs outs => rs = [⟨false, [.own true 3 (l.map DDef.c)]⟩] ∧ outs = [] := by
  refine fn_ok (E := E47) τ_ok mixed Tryz.func124 (by rfl) (by rfl) false (by simp [Tryz.f124]) ?_
  conv => whnf
  intro b hb
  conv => whnf
  refine br_if (fun h => ?_) (fun h => ?_) <;> (try rw [h]) <;> (conv => whnf)
  · obtain rfl : l = [] := List.map_eq_nil_iff.1 (hb h)
    exact ⟨rfl, rfl⟩
  · refine ⟨flat_Def l, ?_⟩
    conv => whnf
    have hl' : (l.map DDef.c).length = l.length := List.length_map ..
    refine ⟨show (0 + (l.map DDef.c).length) * d166.bytes ≤ 140737488355328 by simp only [d166]; omega, ?_⟩
    conv => whnf
    exact ⟨rfl, rfl⟩

theorem flat_Gram (l : List DGram) : Flat 5 (l.map DGram.c) := flat_of (f := DGram.c) (fun x => ⟨rfl, fun c hc => by
  simp only [List.mem_cons, List.not_mem_nil, or_false] at hc
  rcases hc with rfl | rfl | rfl | rfl | rfl <;> exact ⟨_, rfl, rfl⟩⟩) l

set_option maxRecDepth 100000 in
theorem sl_CloneGram_ok (l : List DGram) (hl : l.length ≤ 1000000) : FnV Tryz.prog 127 [.rdv false [.sl true 5 (l.map DGram.c)]] fun rs outs => rs = [⟨false, [.own true 5 (l.map DGram.c)]⟩] ∧ outs = [] := by
  refine fn_ok (E := E47) τ_ok mixed Tryz.func127 (by rfl) (by rfl) false (by simp [Tryz.f127]) ?_
  conv => whnf
  intro b hb
  conv => whnf
  refine br_if (fun h => ?_) (fun h => ?_) <;> (try rw [h]) <;> (conv => whnf)
  · obtain rfl : l = [] := List.map_eq_nil_iff.1 (hb h)
    exact ⟨rfl, rfl⟩
  · refine ⟨flat_Gram l, ?_⟩
    conv => whnf
    have hl' : (l.map DGram.c).length = l.length := List.length_map ..
    refine ⟨show (0 + (l.map DGram.c).length) * d179.bytes ≤ 140737488355328 by simp only [d179]; omega, ?_⟩
    conv => whnf
    exact ⟨rfl, rfl⟩

theorem flat_Parked (l : List DParked) : Flat 3 (l.map DParked.c) := flat_of (f := DParked.c) (fun x => ⟨rfl, fun c hc => by
  simp only [List.mem_cons, List.not_mem_nil, or_false] at hc
  rcases hc with rfl | rfl | rfl <;> exact ⟨_, rfl, rfl⟩⟩) l

set_option maxRecDepth 100000 in
theorem sl_CloneParked_ok (l : List DParked) (hl : l.length ≤ 1000000) : FnV Tryz.prog 128 [.rdv false [.sl true 3 (l.map DParked.c)]] fun rs outs => rs = [⟨false, [.own true 3 (l.map DParked.c)]⟩] ∧ outs = [] := by
  refine fn_ok (E := E47) τ_ok mixed Tryz.func128 (by rfl) (by rfl) false (by simp [Tryz.f128]) ?_
  conv => whnf
  intro b hb
  conv => whnf
  refine br_if (fun h => ?_) (fun h => ?_) <;> (try rw [h]) <;> (conv => whnf)
  · obtain rfl : l = [] := List.map_eq_nil_iff.1 (hb h)
    exact ⟨rfl, rfl⟩
  · refine ⟨flat_Parked l, ?_⟩
    conv => whnf
    have hl' : (l.map DParked.c).length = l.length := List.length_map ..
    refine ⟨show (0 + (l.map DParked.c).length) * d182.bytes ≤ 140737488355328 by simp only [d182]; omega, ?_⟩
    conv => whnf
    exact ⟨rfl, rfl⟩

theorem flat_Piece (l : List DPiece) : Flat 2 (l.map DPiece.c) := flat_of (f := DPiece.c) (fun x => ⟨rfl, fun c hc => by
  simp only [List.mem_cons, List.not_mem_nil, or_false] at hc
  rcases hc with rfl | rfl <;> exact ⟨_, rfl, rfl⟩⟩) l

set_option maxRecDepth 100000 in
theorem sl_ClonePiece_ok (l : List DPiece) (hl : l.length ≤ 1000000) : FnV Tryz.prog 194 [.rdv false [.sl true 2 (l.map DPiece.c)]] fun rs outs => rs = [⟨false, [.own true 2 (l.map DPiece.c)]⟩] ∧ outs = [] := by
  refine fn_ok (E := E47) τ_ok mixed Tryz.func194 (by rfl) (by rfl) false (by simp [Tryz.f194]) ?_
  conv => whnf
  intro b hb
  conv => whnf
  refine br_if (fun h => ?_) (fun h => ?_) <;> (try rw [h]) <;> (conv => whnf)
  · obtain rfl : l = [] := List.map_eq_nil_iff.1 (hb h)
    exact ⟨rfl, rfl⟩
  · refine ⟨flat_Piece l, ?_⟩
    conv => whnf
    have hl' : (l.map DPiece.c).length = l.length := List.length_map ..
    refine ⟨show (0 + (l.map DPiece.c).length) * d177.bytes ≤ 140737488355328 by simp only [d177]; omega, ?_⟩
    conv => whnf
    exact ⟨rfl, rfl⟩

end Go.Proofs.YtifodjnbcnbcpaaGreat.V

set_option linter.unusedVariables false

set_option linter.unusedSimpArgs false

namespace Go.Proofs.YtifodjnbcnbcpaaGreat.V

open Go

def MdE48 (f : Nat) : List Mode :=
  match f with
  | 122 => [.rd]
  | 191 => [.rd]
  | 192 => [.rd]
  | 193 => [.rd]
  | 194 => [.rd]
  | _ => []

def E48 : Env := ⟨τ, MdE48⟩

set_option maxRecDepth 100000 in
theorem i_copyPool_ok (a : DPool) (hl : a.xNodes.length ≤ 1000000) : FnV Tryz.prog 122 [.rdv true a.c] fun rs outs => rs = [a.r] ∧ outs = [] := by
  refine fn_ok (E := E48) τ_ok mixed Tryz.func122 (by rfl) (by rfl) false (by simp [Tryz.f122]) ?_
  conv => whnf
  refine (sl_CloneNode_ok a.xNodes hl).mono ?_
  rintro _ _ ⟨rfl, rfl⟩
  conv => whnf
  exact ⟨rfl, rfl⟩

set_option maxRecDepth 100000 in
theorem s_l2Copy_ok (a : DPool) (hl : a.xNodes.length ≤ 1000000) : FnV Tryz.prog 117 [.rdv true a.c] fun rs outs => rs = [a.r] ∧ outs = [] := by
  refine fn_ok (E := E48) τ_ok mixed Tryz.func117 (by rfl) (by rfl) false (by simp [Tryz.f117]) ?_
  conv => whnf
  refine ⟨flat_Node a.xNodes, ?_⟩
  conv => whnf
  have hl' : (a.xNodes.map DNode.c).length = a.xNodes.length := List.length_map ..
  refine ⟨show (0 + (a.xNodes.map DNode.c).length) * d231.bytes ≤ 140737488355328 by simp only [d231]; omega, ?_⟩
  conv => whnf
  exact ⟨rfl, rfl⟩

set_option maxRecDepth 100000 in
theorem i_copyLink_ok (a : DLink) (h1 : a.xQueue.length ≤ 1000000) (h2 : a.xHeld.length ≤ 1000000) : FnV Tryz.prog 126 [.rdv true a.c] fun rs outs => rs = [a.r] ∧ outs = [] := by
  refine fn_ok (E := E48) τ_ok mixed Tryz.func126 (by rfl) (by rfl) false (by simp [Tryz.f126]) ?_
  conv => whnf
  refine (sl_CloneS_ok a.xQueue h1).mono ?_
  rintro _ _ ⟨rfl, rfl⟩
  conv => whnf
  refine (sl_ClonePiece_ok a.xHeld h2).mono ?_
  rintro _ _ ⟨rfl, rfl⟩
  conv => whnf
  exact ⟨rfl, rfl⟩

set_option maxRecDepth 100000 in
theorem i_copyMachine_ok (a : DMachine) (hl : a.xPool.xNodes.length ≤ 1000000) : FnV Tryz.prog 192 [.rdv true a.c] fun rs outs => rs = [a.r] ∧ outs = [] := by
  refine fn_ok (E := E48) τ_ok mixed Tryz.func192 (by rfl) (by rfl) false (by simp [Tryz.f192]) ?_
  conv => whnf
  refine (i_copyPool_ok a.xPool hl).mono ?_
  rintro _ _ ⟨rfl, rfl⟩
  conv => whnf
  exact ⟨rfl, rfl⟩

set_option maxRecDepth 100000 in
set_option maxHeartbeats 1000000 in
theorem i_copyProc_ok (a : DProc) (h1 : a.xM.xPool.xNodes.length ≤ 1000000) (h2 : a.xBox.length ≤ 1000000) (h3 : a.xOut.length ≤ 1000000) : FnV Tryz.prog 125 [.rdv true a.c] fun rs outs => rs = [a.r] ∧ outs = [] := by
  refine fn_ok (E := E48) τ_ok mixed Tryz.func125 (by rfl) (by rfl) false (by simp [Tryz.f125]) ?_
  conv => whnf
  refine ⟨.take 0 (.take 2 (.take 5 (.take 8 (.early 1 (.or 3 (.or 4 (.or 6 (.or 7 (.or 9 (.or 10 (.or 11 (.or 12 .done .nil) .nil) .nil) .nil) (.or 9 (.or 7 (.or 10 (.or 11 (.or 12 .done .nil) .nil) .nil) .nil) .nil)) (.or 9 (.or 6 (.or 7 (.or 10 (.or 11 (.or 12 .done .nil) .nil) .nil) .nil) .nil) .nil)) (.or 6 (.or 4 (.or 7 (.or 9 (.or 10 (.or 11 (.or 12 .done .nil) .nil) .nil) .nil) (.or 9 (.or 7 (.or 10 (.or 11 (.or 12 .done .nil) .nil) .nil) .nil) .nil)) (.or 9 (.or 4 (.or 7 (.or 10 (.or 11 (.or 12 .done .nil) .nil) .nil) .nil) .nil) .nil)) (.or 9 (.or 4 (.or 6 (.or 7 (.or 10 (.or 11 (.or 12 .done .nil) .nil) .nil) .nil) .nil) (.or 6 (.or 4 (.or 7 (.or 10 (.or 11 (.or 12 .done .nil) .nil) .nil) .nil) .nil) .nil)) .nil))) (.or 6 (.or 3 (.or 4 (.or 7 (.or 9 (.or 10 (.or 11 (.or 12 .done .nil) .nil) .nil) .nil) (.or 9 (.or 7 (.or 10 (.or 11 (.or 12 .done .nil) .nil) .nil) .nil) .nil)) (.or 9 (.or 4 (.or 7 (.or 10 (.or 11 (.or 12 .done .nil) .nil) .nil) .nil) .nil) .nil)) (.or 9 (.or 3 (.or 4 (.or 7 (.or 10 (.or 11 (.or 12 .done .nil) .nil) .nil) .nil) .nil) .nil) .nil)) (.or 9 (.or 3 (.or 4 (.or 6 (.or 7 (.or 10 (.or 11 (.or 12 .done .nil) .nil) .nil) .nil) .nil) (.or 6 (.or 4 (.or 7 (.or 10 (.or 11 (.or 12 .done .nil) .nil) .nil) .nil) .nil) .nil)) (.or 6 (.or 3 (.or 4 (.or 7 (.or 10 (.or 11 (.or 12 .done .nil) .nil) .nil) .nil) .nil) .nil) .nil)) .nil))))))), by rfl, ?_⟩
  apply Exists.intro
  refine ⟨?_, ?_⟩
  · conv => whnf
    repeat' (first
      | (refine ⟨rfl, ?_⟩; conv => whnf)
      | (refine (i_copyMachine_ok a.xM h1).mono ?_; rintro _ _ ⟨rfl, rfl⟩; conv => whnf)
      | (refine (sl_CloneS_ok a.xBox h2).mono ?_; rintro _ _ ⟨rfl, rfl⟩; conv => whnf)
      | (refine (sl_CloneS_ok a.xOut h3).mono ?_; rintro _ _ ⟨rfl, rfl⟩; conv => whnf)
      | exact norm_wk (keep := [2]) (kb := [2]) (ρ := [(7, some 100), (10, some 101), (13, some 102)]) rfl
      | (refine ⟨?_, ?_⟩ <;> conv => whnf)
      | fail)
  conv => whnf
  exact ⟨rfl, rfl⟩

end Go.Proofs.YtifodjnbcnbcpaaGreat.V

set_option linter.unusedVariables false

set_option linter.unusedSimpArgs false

namespace Go.Proofs.YtifodjnbcnbcpaaGreat.V

open Go

def MdE49 (f : Nat) : List Mode :=
  match f with
  | 193 => [.rd]
  | _ => []

def E49 : Env := ⟨τ, MdE49⟩

set_option maxRecDepth 100000 in
set_option maxHeartbeats 1000000 in
theorem i_copyTexts_ok (l : List (List ByteArray)) (hl : l.length ≤ 1000000) (h : ∀ x ∈ l, x.length ≤ 1000000) : FnV Tryz.prog 129 [.rdv false [.sl true 1 (sssC l)]] fun rs outs => rs = [⟨false, [.own true 1 (sssC l)]⟩] ∧ outs = [] := by
  refine fn_ok (E := E49) τ_ok mixed Tryz.func129 (by rfl) (by rfl) false (by simp [Tryz.f129]) ?_
  conv => whnf
  have ll := sssC_len l
  rw [ll]
  refine ⟨fun m s => ∃ (k : Int), s = ⟨[(2, .vals false [.nil 1]), (3, .vals false [.ref 100 0]), (7, .vals false [.rd none 1 (sssC l)]), (8, .vals false [.sc (.int .i64 l.length)]), (9, .vals false [.sc (.int .i64 k)])], [], [(100, ⟨true, 0, 0, true, 1, sssC (l.take k.toNat)⟩)]⟩ ∧ m = l.length - k.toNat ∧ 0 ≤ k ∧ k ≤ l.length,
    ⟨_, _, norm_wk (keep := [2, 3, 7, 8, 9]) (kb := []) (ρ := [(6, some 100)]) rfl, ⟨0, rfl, rfl, by omega, by omega⟩⟩, ?_⟩
  rintro m _ ⟨k, rfl, rfl, k0, k1⟩
  conv => whnf
  refine br_if (fun h1 => ?_) (fun h1 => ?_) <;> (try rw [h1]) <;> (conv => whnf)
  rotate_left
  · rw [ltI_f] at h1
    rw [List.take_of_length_le (by omega)]
    exact ⟨rfl, rfl⟩
  rw [ltI_t] at h1
  obtain ⟨x, hx⟩ : ∃ x, l[k.toNat]? = some x := ⟨_, List.getElem?_eq_getElem (by omega)⟩
  refine ⟨k0, _, sssC_at hx, ?_⟩
  conv => whnf
  refine (sl_CloneS_ok x (h x (List.mem_of_getElem? hx))).mono ?_
  rintro _ _ ⟨rfl, rfl⟩
  conv => whnf
  refine .inr ?_
  conv => whnf
  have lt : (sssC (l.take k.toNat)).length ≤ l.length := by rw [sssC_len, List.length_take]; omega
  refine ⟨show ((sssC (l.take k.toNat)).length + 1) * 24 ≤ 140737488355328 by omega, ?_⟩
  have e : sssC (l.take k.toNat) ++ chunk d54.size 1 [C.sl true 1 (ssC x)] = sssC (l.take (k + 1).toNat) := by
    rw [show (k + 1).toNat = k.toNat + 1 by omega, List.take_add_one, hx, sssC, sssC, List.map_append]
    rfl
  rw [e]
  conv => whnf
  rw [wrp_i64 (x := k + 1) (by omega) (by omega)]
  exact ⟨l.length - (k + 1).toNat, _, by omega, norm_wk (keep := [2, 3, 7, 8, 9]) (kb := []) (ρ := [(17, some 100)]) rfl, ⟨k + 1, rfl, rfl, by omega, by omega⟩⟩

end Go.Proofs.YtifodjnbcnbcpaaGreat.V

