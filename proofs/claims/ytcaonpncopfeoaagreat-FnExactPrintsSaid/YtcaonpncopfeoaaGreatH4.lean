/- What the functions markT of the laws come to. (printed by wip/tools/mk.py) -/
import Derived.Test.YtcaonpncopfeoaaGreatT
import Derived.Test.YtcaonpncopfeoaaGreatD4
import Derived.Test.YtcaonpncopfeoaaGreatQ1
set_option linter.unusedVariables false
set_option linter.unusedSimpArgs false
namespace Go.Proofs.YtcaonpncopfeoaaGreat.V
open Go

def MdEMk (f : Nat) : List Mode :=
  match f with
  | 147 => [.rd]
  | _ => []
def EMk : Env := ⟨τ, MdEMk⟩

theorem strOfNums_app (a b : List Int) : strOfNums (a ++ b) = strOfNums a ++ strOfNums b := by
  apply ByteArray.ext
  rw [ByteArray.data_append]
  show ((a ++ b).map fun n : Int => UInt8.ofNat n.toNat).toArray = (a.map fun n : Int => UInt8.ofNat n.toNat).toArray ++ (b.map fun n : Int => UInt8.ofNat n.toNat).toArray
  simp
theorem dg_zero : dg 0 = [] := by rw [dg, if_pos rfl]
theorem dg_pos {n : Nat} (h : n ≠ 0) : dg n = dg (n / 10) ++ [((48 + n % 10 : Nat) : Int)] := by rw [dg, if_neg h]
theorem dg_len : ∀ n : Nat, (dg n).length ≤ n := fun n => by
  induction n using Nat.strongRecOn with
  | _ n ih =>
    by_cases h : n = 0
    · subst h; rw [dg_zero]; exact Nat.le_refl _
    · rw [dg_pos h]
      have := ih (n / 10) (by omega)
      simp
      omega
theorem strOfNums_sz (l : List Int) : (strOfNums l).size = l.length := by
  show (l.map fun n : Int => UInt8.ofNat n.toNat).toArray.size = l.length
  simp
theorem szL_len {α : Type} {f : α → Int} (h : ∀ x, 1 ≤ f x) : ∀ l : List α, (l.length : Int) ≤ szL f l
  | [] => by simp [szL]
  | x :: r => by
    have h1 := h x
    have h2 := szL_len h r
    simp only [szL, List.length_cons]
    omega

set_option maxRecDepth 100000 in
theorem markText_ok (k : Int) (hk : k ≤ 1000000000) : FnV Tryz.prog 147 [iV k] fun rs outs => rs = [sR (mkT k)] ∧ outs = [] := by
  refine fn_ok (E := EMk) τ_ok mixed Tryz.func147 (by rfl) (by rfl) false (by simp [Tryz.f147]) ?_
  conv => whnf
  refine br_if (fun h => ?_) (fun h => ?_) <;> (try rw [h]) <;> (conv => whnf)
  · rw [leI_t] at h
    unfold mkT
    rw [if_pos h]
    exact ⟨rfl, rfl⟩
  rw [leI_f] at h
  refine ⟨fun m s => ∃ (y : Int) (out : ByteArray), s = ⟨[(0, .vals false [.sc (.int .i64 y)]), (2, .vals false [.sc (.string ⟨#[]⟩)]), (3, .vals false [.sc (.string out)])], [], []⟩ ∧ m = y.toNat ∧ 0 ≤ y ∧ y ≤ k ∧ strOfNums (dg y.toNat) ++ out = strOfNums (dg k.toNat),
    ⟨_, _, norm_wk (keep := [0, 2, 3]) (kb := []) (ρ := []) rfl, ⟨k, ⟨#[]⟩, rfl, rfl, by omega, by omega, by apply ByteArray.ext; simp⟩⟩, ?_⟩
  rintro m _ ⟨y, out, rfl, rfl, y0, y1, hy⟩
  have hsz : (strOfNums (dg y.toNat)).size + out.size = (strOfNums (dg k.toNat)).size := by rw [← hy, ByteArray.size_append]
  rw [strOfNums_sz, strOfNums_sz] at hsz
  have hdk := dg_len k.toNat
  conv => whnf
  refine br_if (fun h2 => ?_) (fun h2 => ?_) <;> (try rw [h2]) <;> (conv => whnf)
  · have h2' : 0 < y := by first | exact ltI_t.1 h2 | (rw [ltI_t] at h2; exact h2)
    have hd := dg_pos (n := y.toNat) (by omega)
    have e1 : tmodOf y 10 = y % 10 := tmodOf_pos y0
    have e2 : wrp .i64 (48 + y % 10) = 48 + y % 10 := wrp_i64 (by omega) (by omega)
    have e3 : wrp .u8 (48 + y % 10) = 48 + y % 10 := wrp_u8 (by omega) (by omega)
    rw [hd] at hsz hy
    simp only [List.length_append, List.length_singleton] at hsz
    refine ⟨by decide, ?_⟩
    conv => whnf
    rw [e1, e2, e3]
    refine ⟨[48 + y % 10], rfl, ?_⟩
    conv => whnf
    refine ⟨by rw [strOfNums_sz]; simp only [List.length_singleton]; show _ ≤ (9223372036854775807 : Int); omega, ?_⟩
    conv => whnf
    refine ⟨by decide, ?_⟩
    conv => whnf
    rw [tdivOf_pos y0 (by omega) (by omega)]
    refine ⟨(y / 10).toNat, _, by omega, norm_wk (keep := [0, 2, 3]) (kb := []) (ρ := []) rfl, ⟨y / 10, _, rfl, rfl, by omega, by omega, ?_⟩⟩
    rw [addStr_eq, ← ByteArray.append_assoc, show (y / 10).toNat = y.toNat / 10 by omega, ← hy, strOfNums_app]
    congr 4
    omega
  · have h2' : y ≤ 0 := by
      have : ¬ 0 < y := by first | exact ltI_f.1 h2 | (rw [ltI_f] at h2; omega)
      omega
    obtain rfl : y = 0 := by omega
    have e : out = strOfNums (dg k.toNat) := by rw [← hy]; apply ByteArray.ext; simp [dg_zero, strOfNums]
    refine ⟨?_, ?_⟩
    · show _ ≤ (9223372036854775807 : Int)
      have e2 : (⟨#[109]⟩ : ByteArray).size = 1 := rfl
      first | rw [e2] | skip
      omega
    conv => whnf
    rw [addStr_eq, e]
    unfold mkT
    rw [if_neg (by omega)]
    have e3 : strOfNums (109 :: dg k.toNat) = ⟨#[109]⟩ ++ strOfNums (dg k.toNat) := by
      have := strOfNums_app [109] (dg k.toNat)
      exact this
    rw [e3]
    exact ⟨rfl, rfl⟩

set_option maxRecDepth 100000 in
set_option maxHeartbeats 4000000 in
theorem markStringS_ok (xs : List ByteArray) (k : Int) (h0 : 0 ≤ k) (hk : k + mzS xs ≤ 1000000000) : FnV Tryz.prog 42 [.mv false [.sl true 1 (ssC xs)], iV k] fun rs outs => rs = [iR (k + mzS xs)] ∧ outs = [[.sl true 1 (ssC (mkS xs k))]] := by
  unfold mzS at hk ⊢
  unfold mkS
  have hl := szL_len (f := (fun _ => 1)) (fun _ => by omega) xs
  refine fn_ok (E := EMk) τ_ok mixed Tryz.func42 (by rfl) (by rfl) false (by simp [Tryz.f42]) ?_
  conv => whnf
  refine ⟨fun m s => ∃ (i : Int) (es : List (List C)), s = ⟨[(0, .vals false [.ref 3000000 0]), (1, .vals false [.sc (.int .i64 (k + szL (fun _ => 1) (xs.take i.toNat)))]), (4, .vals false [.sc (.int .i64 0)]), (5, .vals false [.sc (.int .i64 i)])], [], [(3000000, ⟨true, 0, 0, true, 1, es⟩)]⟩ ∧ m = xs.length - i.toNat ∧ 0 ≤ i ∧ i ≤ xs.length ∧ es = (mkTo (fun _ k => mkT k) (fun _ => 1) xs k i.toNat).map (fun s => [C.sc (.string s)]),
    ⟨_, _, norm_wk (keep := [0, 1, 4, 5]) (kb := []) (ρ := [(3000000, some 3000000)]) rfl, ⟨0, _, by simp [szL]; rfl, rfl, by omega, by omega, by simp [mkTo_zero]⟩⟩, ?_⟩
  rintro m _ ⟨i, es, rfl, rfl, i0, i1, he⟩
  have hel : es.length = xs.length := by rw [he, List.length_map, mkTo_len]
  conv => whnf
  rw [hel]
  refine br_if (fun h => ?_) (fun h => ?_) <;> (try rw [h]) <;> (conv => whnf)
  · rw [ltI_t] at h
    obtain ⟨x, hx⟩ : ∃ x, xs[i.toNat]? = some x := ⟨_, List.getElem?_eq_getElem (by omega)⟩
    have hrow : es[i.toNat]? = some ((fun s => [C.sc (.string s)]) x) := by rw [he, List.getElem?_map, mkTo_at (fun _ k => mkT k) (fun _ => 1) hx]; rfl
    have hsucc := szL_succ (f := (fun _ => 1)) hx
    have htk := szL_take (f := (fun _ => 1)) (fun _ => by omega) xs (i.toNat + 1)
    have h00 := szL_nonneg (f := (fun _ => 1)) (fun _ => by omega) (xs.take i.toNat)
    have hin : i.toNat < es.length := by omega
    generalize hK : k + szL (fun _ => 1) (xs.take i.toNat) = K
    refine (markText_ok (K) (by omega)).mono ?_
    rintro _ _ ⟨rfl, rfl⟩
    conv => whnf
    refine ⟨i0, by simp only [List.length_set]; omega, ?_⟩
    conv => whnf
    refine ⟨[.sc (.string x)], hrow, ?_⟩
    conv => whnf
    rw [show wrp .i64 (K + 1) = K + 1 from (wrp_i64 (by omega) (by omega)).trans (by omega)]
    rw [wrp_i64 (x := i + 1) (by omega) (by omega)]
    have eK : k + szL (fun _ => 1) (xs.take (i.toNat + 1)) = K + 1 := by omega
    have fin : es.set i.toNat [.sc (.string (mkT (K)))] = (mkTo (fun _ k => mkT k) (fun _ => 1) xs k (i + 1).toNat).map (fun s => [C.sc (.string s)]) := by
      rw [show (i + 1).toNat = i.toNat + 1 by omega, ← mkTo_set (fun _ k => mkT k) (fun _ => 1) hx k, List.map_set, ← he, hK]
      try rfl
    refine ⟨xs.length - (i + 1).toNat, ?_⟩
    apply Exists.intro
    refine ⟨by omega, ?_, ?_⟩
    · exact norm_wk (keep := [0, 1, 4, 5]) (kb := []) (ρ := [(3000000, some 3000000)]) rfl
    refine ⟨i + 1, es.set i.toNat [.sc (.string (mkT (K)))], ?_, rfl, by omega, by omega, fin⟩
    rw [show (i + 1).toNat = i.toNat + 1 by omega, eK]
    simp only [List.set_set]
    rfl
  · rw [ltI_f] at h
    rw [List.take_of_length_le (by omega)]
    rw [mkTo_all _ _ _ _ (by omega)] at he
    rw [he]
    exact ⟨rfl, rfl⟩

set_option maxRecDepth 100000 in
set_option maxHeartbeats 4000000 in
theorem markNodeS_ok (xs : List DNode) (k : Int) (h0 : 0 ≤ k) (hk : k + szL DNode.mz xs ≤ 1000000000) : FnV Tryz.prog 189 [.mv false [.sl true 5 (xs.map DNode.c)], iV k] fun rs outs => rs = [iR (k + szL DNode.mz xs)] ∧ outs = [[.sl true 5 ((mkL DNode.me DNode.mz xs k).map DNode.c)]] := by
  have hl := szL_len (f := DNode.mz) (fun x => by show 1 ≤ 5; omega) xs
  refine fn_ok (E := EMk) τ_ok mixed Tryz.func189 (by rfl) (by rfl) false (by simp [Tryz.f189]) ?_
  conv => whnf
  refine ⟨fun m s => ∃ (i : Int) (es : List (List C)), s = ⟨[(0, .vals false [.ref 3000000 0]), (1, .vals false [.sc (.int .i64 (k + szL DNode.mz (xs.take i.toNat)))]), (4, .vals false [.sc (.int .i64 0)]), (5, .vals false [.sc (.int .i64 i)])], [], [(3000000, ⟨true, 0, 0, true, 5, es⟩)]⟩ ∧ m = xs.length - i.toNat ∧ 0 ≤ i ∧ i ≤ xs.length ∧ es = (mkTo DNode.me DNode.mz xs k i.toNat).map DNode.c,
    ⟨_, _, norm_wk (keep := [0, 1, 4, 5]) (kb := []) (ρ := [(3000000, some 3000000)]) rfl, ⟨0, _, by simp [szL]; rfl, rfl, by omega, by omega, by simp [mkTo_zero]⟩⟩, ?_⟩
  rintro m _ ⟨i, es, rfl, rfl, i0, i1, he⟩
  have hel : es.length = xs.length := by rw [he, List.length_map, mkTo_len]
  conv => whnf
  rw [hel]
  refine br_if (fun h => ?_) (fun h => ?_) <;> (try rw [h]) <;> (conv => whnf)
  · rw [ltI_t] at h
    obtain ⟨x, hx⟩ : ∃ x, xs[i.toNat]? = some x := ⟨_, List.getElem?_eq_getElem (by omega)⟩
    have hrow : es[i.toNat]? = some (DNode.c x) := by rw [he, List.getElem?_map, mkTo_at DNode.me DNode.mz hx]; rfl
    have hsucc := szL_succ (f := DNode.mz) hx
    have htk := szL_take (f := DNode.mz) DNode.mz_nonneg xs (i.toNat + 1)
    have h00 := szL_nonneg (f := DNode.mz) DNode.mz_nonneg (xs.take i.toNat)
    have hmz : x.mz = 5 := rfl
    have hin : i.toNat < es.length := by omega
    generalize hK : k + szL DNode.mz (xs.take i.toNat) = K
    refine ⟨i0, by simp only [List.length_set]; omega, ?_⟩
    conv => whnf
    refine ⟨[.sc (.int .i64 x.xKind), .sc (.int .i64 x.xN), .sc (.string x.xS), .sc (.int .i64 x.xA), .sc (.int .i64 x.xB)], hrow, ?_⟩
    conv => whnf
    rw [show wrp .i64 (K + 1) = K + 1 from (wrp_i64 (by omega) (by omega)).trans (by omega)]
    refine ⟨i0, by simp only [List.length_set]; omega, ?_⟩
    conv => whnf
    refine ⟨[.sc (.int .i64 (K)), .sc (.int .i64 x.xN), .sc (.string x.xS), .sc (.int .i64 x.xA), .sc (.int .i64 x.xB)], List.getElem?_set_self (by simp only [List.length_set]; omega), ?_⟩
    conv => whnf
    rw [show wrp .i64 (K + 1 + 1) = K + 2 from (wrp_i64 (by omega) (by omega)).trans (by omega)]
    refine (markText_ok (K + 2) (by omega)).mono ?_
    rintro _ _ ⟨rfl, rfl⟩
    conv => whnf
    refine ⟨i0, by simp only [List.length_set]; omega, ?_⟩
    conv => whnf
    refine ⟨[.sc (.int .i64 (K)), .sc (.int .i64 (K + 1)), .sc (.string x.xS), .sc (.int .i64 x.xA), .sc (.int .i64 x.xB)], List.getElem?_set_self (by simp only [List.length_set]; omega), ?_⟩
    conv => whnf
    rw [show wrp .i64 (K + 2 + 1) = K + 3 from (wrp_i64 (by omega) (by omega)).trans (by omega)]
    refine ⟨i0, by simp only [List.length_set]; omega, ?_⟩
    conv => whnf
    refine ⟨[.sc (.int .i64 (K)), .sc (.int .i64 (K + 1)), .sc (.string (mkT (K + 2))), .sc (.int .i64 x.xA), .sc (.int .i64 x.xB)], List.getElem?_set_self (by simp only [List.length_set]; omega), ?_⟩
    conv => whnf
    rw [show wrp .i64 (K + 3 + 1) = K + 4 from (wrp_i64 (by omega) (by omega)).trans (by omega)]
    refine ⟨i0, by simp only [List.length_set]; omega, ?_⟩
    conv => whnf
    refine ⟨[.sc (.int .i64 (K)), .sc (.int .i64 (K + 1)), .sc (.string (mkT (K + 2))), .sc (.int .i64 (K + 3)), .sc (.int .i64 x.xB)], List.getElem?_set_self (by simp only [List.length_set]; omega), ?_⟩
    conv => whnf
    rw [show wrp .i64 (K + 4 + 1) = K + 5 from (wrp_i64 (by omega) (by omega)).trans (by omega)]
    rw [wrp_i64 (x := i + 1) (by omega) (by omega)]
    have eK : k + szL DNode.mz (xs.take (i.toNat + 1)) = K + 5 := by omega
    have fin : es.set i.toNat [.sc (.int .i64 (K)), .sc (.int .i64 (K + 1)), .sc (.string (mkT (K + 2))), .sc (.int .i64 (K + 3)), .sc (.int .i64 (K + 4))] = (mkTo DNode.me DNode.mz xs k (i + 1).toNat).map DNode.c := by
      rw [show (i + 1).toNat = i.toNat + 1 by omega, ← mkTo_set DNode.me DNode.mz hx k, List.map_set, ← he, hK]
      try rfl
    refine ⟨xs.length - (i + 1).toNat, ?_⟩
    apply Exists.intro
    refine ⟨by omega, ?_, ?_⟩
    · exact norm_wk (keep := [0, 1, 4, 5]) (kb := []) (ρ := [(3000000, some 3000000)]) rfl
    refine ⟨i + 1, es.set i.toNat [.sc (.int .i64 (K)), .sc (.int .i64 (K + 1)), .sc (.string (mkT (K + 2))), .sc (.int .i64 (K + 3)), .sc (.int .i64 (K + 4))], ?_, rfl, by omega, by omega, fin⟩
    rw [show (i + 1).toNat = i.toNat + 1 by omega, eK]
    simp only [List.set_set]
    rfl
  · rw [ltI_f] at h
    rw [List.take_of_length_le (by omega)]
    rw [mkTo_all _ _ _ _ (by omega)] at he
    rw [he]
    exact ⟨rfl, rfl⟩

set_option maxRecDepth 100000 in
set_option maxHeartbeats 4000000 in
theorem markInstrS_ok (xs : List DInstr) (k : Int) (h0 : 0 ≤ k) (hk : k + szL DInstr.mz xs ≤ 1000000000) : FnV Tryz.prog 92 [.mv false [.sl true 4 (xs.map DInstr.c)], iV k] fun rs outs => rs = [iR (k + szL DInstr.mz xs)] ∧ outs = [[.sl true 4 ((mkL DInstr.me DInstr.mz xs k).map DInstr.c)]] := by
  have hl := szL_len (f := DInstr.mz) (fun x => by show 1 ≤ 4; omega) xs
  refine fn_ok (E := EMk) τ_ok mixed Tryz.func92 (by rfl) (by rfl) false (by simp [Tryz.f92]) ?_
  conv => whnf
  refine ⟨fun m s => ∃ (i : Int) (es : List (List C)), s = ⟨[(0, .vals false [.ref 3000000 0]), (1, .vals false [.sc (.int .i64 (k + szL DInstr.mz (xs.take i.toNat)))]), (4, .vals false [.sc (.int .i64 0)]), (5, .vals false [.sc (.int .i64 i)])], [], [(3000000, ⟨true, 0, 0, true, 4, es⟩)]⟩ ∧ m = xs.length - i.toNat ∧ 0 ≤ i ∧ i ≤ xs.length ∧ es = (mkTo DInstr.me DInstr.mz xs k i.toNat).map DInstr.c,
    ⟨_, _, norm_wk (keep := [0, 1, 4, 5]) (kb := []) (ρ := [(3000000, some 3000000)]) rfl, ⟨0, _, by simp [szL]; rfl, rfl, by omega, by omega, by simp [mkTo_zero]⟩⟩, ?_⟩
  rintro m _ ⟨i, es, rfl, rfl, i0, i1, he⟩
  have hel : es.length = xs.length := by rw [he, List.length_map, mkTo_len]
  conv => whnf
  rw [hel]
  refine br_if (fun h => ?_) (fun h => ?_) <;> (try rw [h]) <;> (conv => whnf)
  · rw [ltI_t] at h
    obtain ⟨x, hx⟩ : ∃ x, xs[i.toNat]? = some x := ⟨_, List.getElem?_eq_getElem (by omega)⟩
    have hrow : es[i.toNat]? = some (DInstr.c x) := by rw [he, List.getElem?_map, mkTo_at DInstr.me DInstr.mz hx]; rfl
    have hsucc := szL_succ (f := DInstr.mz) hx
    have htk := szL_take (f := DInstr.mz) DInstr.mz_nonneg xs (i.toNat + 1)
    have h00 := szL_nonneg (f := DInstr.mz) DInstr.mz_nonneg (xs.take i.toNat)
    have hmz : x.mz = 4 := rfl
    have hin : i.toNat < es.length := by omega
    generalize hK : k + szL DInstr.mz (xs.take i.toNat) = K
    refine ⟨i0, by simp only [List.length_set]; omega, ?_⟩
    conv => whnf
    refine ⟨[.sc (.int .i64 x.xOp), .sc (.int .i64 x.xN), .sc (.int .i64 x.xI), .sc (.string x.xS)], hrow, ?_⟩
    conv => whnf
    rw [show wrp .i64 (K + 1) = K + 1 from (wrp_i64 (by omega) (by omega)).trans (by omega)]
    refine ⟨i0, by simp only [List.length_set]; omega, ?_⟩
    conv => whnf
    refine ⟨[.sc (.int .i64 (K)), .sc (.int .i64 x.xN), .sc (.int .i64 x.xI), .sc (.string x.xS)], List.getElem?_set_self (by simp only [List.length_set]; omega), ?_⟩
    conv => whnf
    rw [show wrp .i64 (K + 1 + 1) = K + 2 from (wrp_i64 (by omega) (by omega)).trans (by omega)]
    refine ⟨i0, by simp only [List.length_set]; omega, ?_⟩
    conv => whnf
    refine ⟨[.sc (.int .i64 (K)), .sc (.int .i64 (K + 1)), .sc (.int .i64 x.xI), .sc (.string x.xS)], List.getElem?_set_self (by simp only [List.length_set]; omega), ?_⟩
    conv => whnf
    rw [show wrp .i64 (K + 2 + 1) = K + 3 from (wrp_i64 (by omega) (by omega)).trans (by omega)]
    refine (markText_ok (K + 3) (by omega)).mono ?_
    rintro _ _ ⟨rfl, rfl⟩
    conv => whnf
    refine ⟨i0, by simp only [List.length_set]; omega, ?_⟩
    conv => whnf
    refine ⟨[.sc (.int .i64 (K)), .sc (.int .i64 (K + 1)), .sc (.int .i64 (K + 2)), .sc (.string x.xS)], List.getElem?_set_self (by simp only [List.length_set]; omega), ?_⟩
    conv => whnf
    rw [show wrp .i64 (K + 3 + 1) = K + 4 from (wrp_i64 (by omega) (by omega)).trans (by omega)]
    rw [wrp_i64 (x := i + 1) (by omega) (by omega)]
    have eK : k + szL DInstr.mz (xs.take (i.toNat + 1)) = K + 4 := by omega
    have fin : es.set i.toNat [.sc (.int .i64 (K)), .sc (.int .i64 (K + 1)), .sc (.int .i64 (K + 2)), .sc (.string (mkT (K + 3)))] = (mkTo DInstr.me DInstr.mz xs k (i + 1).toNat).map DInstr.c := by
      rw [show (i + 1).toNat = i.toNat + 1 by omega, ← mkTo_set DInstr.me DInstr.mz hx k, List.map_set, ← he, hK]
      try rfl
    refine ⟨xs.length - (i + 1).toNat, ?_⟩
    apply Exists.intro
    refine ⟨by omega, ?_, ?_⟩
    · exact norm_wk (keep := [0, 1, 4, 5]) (kb := []) (ρ := [(3000000, some 3000000)]) rfl
    refine ⟨i + 1, es.set i.toNat [.sc (.int .i64 (K)), .sc (.int .i64 (K + 1)), .sc (.int .i64 (K + 2)), .sc (.string (mkT (K + 3)))], ?_, rfl, by omega, by omega, fin⟩
    rw [show (i + 1).toNat = i.toNat + 1 by omega, eK]
    simp only [List.set_set]
    rfl
  · rw [ltI_f] at h
    rw [List.take_of_length_le (by omega)]
    rw [mkTo_all _ _ _ _ (by omega)] at he
    rw [he]
    exact ⟨rfl, rfl⟩

set_option maxRecDepth 100000 in
set_option maxHeartbeats 4000000 in
theorem markDefS_ok (xs : List DDef) (k : Int) (h0 : 0 ≤ k) (hk : k + szL DDef.mz xs ≤ 1000000000) : FnV Tryz.prog 93 [.mv false [.sl true 3 (xs.map DDef.c)], iV k] fun rs outs => rs = [iR (k + szL DDef.mz xs)] ∧ outs = [[.sl true 3 ((mkL DDef.me DDef.mz xs k).map DDef.c)]] := by
  have hl := szL_len (f := DDef.mz) (fun x => by show 1 ≤ 3; omega) xs
  refine fn_ok (E := EMk) τ_ok mixed Tryz.func93 (by rfl) (by rfl) false (by simp [Tryz.f93]) ?_
  conv => whnf
  refine ⟨fun m s => ∃ (i : Int) (es : List (List C)), s = ⟨[(0, .vals false [.ref 3000000 0]), (1, .vals false [.sc (.int .i64 (k + szL DDef.mz (xs.take i.toNat)))]), (4, .vals false [.sc (.int .i64 0)]), (5, .vals false [.sc (.int .i64 i)])], [], [(3000000, ⟨true, 0, 0, true, 3, es⟩)]⟩ ∧ m = xs.length - i.toNat ∧ 0 ≤ i ∧ i ≤ xs.length ∧ es = (mkTo DDef.me DDef.mz xs k i.toNat).map DDef.c,
    ⟨_, _, norm_wk (keep := [0, 1, 4, 5]) (kb := []) (ρ := [(3000000, some 3000000)]) rfl, ⟨0, _, by simp [szL]; rfl, rfl, by omega, by omega, by simp [mkTo_zero]⟩⟩, ?_⟩
  rintro m _ ⟨i, es, rfl, rfl, i0, i1, he⟩
  have hel : es.length = xs.length := by rw [he, List.length_map, mkTo_len]
  conv => whnf
  rw [hel]
  refine br_if (fun h => ?_) (fun h => ?_) <;> (try rw [h]) <;> (conv => whnf)
  · rw [ltI_t] at h
    obtain ⟨x, hx⟩ : ∃ x, xs[i.toNat]? = some x := ⟨_, List.getElem?_eq_getElem (by omega)⟩
    have hrow : es[i.toNat]? = some (DDef.c x) := by rw [he, List.getElem?_map, mkTo_at DDef.me DDef.mz hx]; rfl
    have hsucc := szL_succ (f := DDef.mz) hx
    have htk := szL_take (f := DDef.mz) DDef.mz_nonneg xs (i.toNat + 1)
    have h00 := szL_nonneg (f := DDef.mz) DDef.mz_nonneg (xs.take i.toNat)
    have hmz : x.mz = 3 := rfl
    have hin : i.toNat < es.length := by omega
    generalize hK : k + szL DDef.mz (xs.take i.toNat) = K
    refine (markText_ok (K) (by omega)).mono ?_
    rintro _ _ ⟨rfl, rfl⟩
    conv => whnf
    refine ⟨i0, by simp only [List.length_set]; omega, ?_⟩
    conv => whnf
    refine ⟨[.sc (.string x.xName), .sc (.int .i64 x.xAt), .sc (.int .i64 x.xArgs)], hrow, ?_⟩
    conv => whnf
    rw [show wrp .i64 (K + 1) = K + 1 from (wrp_i64 (by omega) (by omega)).trans (by omega)]
    refine ⟨i0, by simp only [List.length_set]; omega, ?_⟩
    conv => whnf
    refine ⟨[.sc (.string (mkT (K))), .sc (.int .i64 x.xAt), .sc (.int .i64 x.xArgs)], List.getElem?_set_self (by simp only [List.length_set]; omega), ?_⟩
    conv => whnf
    rw [show wrp .i64 (K + 1 + 1) = K + 2 from (wrp_i64 (by omega) (by omega)).trans (by omega)]
    refine ⟨i0, by simp only [List.length_set]; omega, ?_⟩
    conv => whnf
    refine ⟨[.sc (.string (mkT (K))), .sc (.int .i64 (K + 1)), .sc (.int .i64 x.xArgs)], List.getElem?_set_self (by simp only [List.length_set]; omega), ?_⟩
    conv => whnf
    rw [show wrp .i64 (K + 2 + 1) = K + 3 from (wrp_i64 (by omega) (by omega)).trans (by omega)]
    rw [wrp_i64 (x := i + 1) (by omega) (by omega)]
    have eK : k + szL DDef.mz (xs.take (i.toNat + 1)) = K + 3 := by omega
    have fin : es.set i.toNat [.sc (.string (mkT (K))), .sc (.int .i64 (K + 1)), .sc (.int .i64 (K + 2))] = (mkTo DDef.me DDef.mz xs k (i + 1).toNat).map DDef.c := by
      rw [show (i + 1).toNat = i.toNat + 1 by omega, ← mkTo_set DDef.me DDef.mz hx k, List.map_set, ← he, hK]
      try rfl
    refine ⟨xs.length - (i + 1).toNat, ?_⟩
    apply Exists.intro
    refine ⟨by omega, ?_, ?_⟩
    · exact norm_wk (keep := [0, 1, 4, 5]) (kb := []) (ρ := [(3000000, some 3000000)]) rfl
    refine ⟨i + 1, es.set i.toNat [.sc (.string (mkT (K))), .sc (.int .i64 (K + 1)), .sc (.int .i64 (K + 2))], ?_, rfl, by omega, by omega, fin⟩
    rw [show (i + 1).toNat = i.toNat + 1 by omega, eK]
    simp only [List.set_set]
    rfl
  · rw [ltI_f] at h
    rw [List.take_of_length_le (by omega)]
    rw [mkTo_all _ _ _ _ (by omega)] at he
    rw [he]
    exact ⟨rfl, rfl⟩

end Go.Proofs.YtcaonpncopfeoaaGreat.V
