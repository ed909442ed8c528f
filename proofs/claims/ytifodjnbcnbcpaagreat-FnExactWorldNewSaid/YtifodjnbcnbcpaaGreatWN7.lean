/- Part 7 of what the row leans on: Q50, Q54. -/
import Derived.Test.YtifodjnbcnbcpaaGreatWN6
set_option linter.unusedVariables false

set_option linter.unusedSimpArgs false

namespace Go.Proofs.YtifodjnbcnbcpaaGreat.V

open Go

def MdE50 (f : Nat) : List Mode :=
  match f with
  | 122 => [.rd]
  | 123 => [.rd]
  | 124 => [.rd]
  | 125 => [.rd]
  | 126 => [.rd]
  | 127 => [.rd]
  | 128 => [.rd]
  | 129 => [.rd]
  | _ => []

def E50 : Env := ⟨τ, MdE50⟩

structure Small (w : DWorld) : Prop where
  nodes : w.xCode.xPool.xNodes.length ≤ 1000000
  list : w.xCode.xList.length ≤ 1000000
  defs : w.xCode.xDefs.length ≤ 1000000
  homes : w.xHomes.length ≤ 1000000
  links : w.xLinks.length ≤ 1000000
  grams : w.xGrams.length ≤ 1000000
  parked : w.xParked.length ≤ 1000000
  gave : w.xGave.length ≤ 1000000 ∧ ∀ x ∈ w.xGave, x.length ≤ 1000000
  took : w.xTook.length ≤ 1000000 ∧ ∀ x ∈ w.xTook, x.length ≤ 1000000
  home : ∀ h ∈ w.xHomes, h.xP.xM.xPool.xNodes.length ≤ 1000000 ∧ h.xP.xBox.length ≤ 1000000 ∧ h.xP.xOut.length ≤ 1000000
  link : ∀ l ∈ w.xLinks, l.xQueue.length ≤ 1000000 ∧ l.xHeld.length ≤ 1000000

set_option maxRecDepth 100000 in
set_option maxHeartbeats 4000000 in
theorem i_copyWorld_ok (w : DWorld) (hw : Small w) : FnV Tryz.prog 55 [wV w] fun rs outs => rs = [w.r] ∧ outs = [] := by
  refine fn_ok (E := E50) τ_ok mixed Tryz.func55 (by rfl) (by rfl) false (by simp [Tryz.f55]) ?_
  conv => whnf
  refine ⟨.take 0 (.take 1 (.take 4 (.take 5 (.take 8 (.take 9 (.or 2 (.or 3 (.or 6 (.or 7 (.or 10 (.or 11 (.or 12 (.take 13 (.or 14 .done .nil)) .nil) .nil) .nil) (.or 10 (.or 7 (.or 11 (.or 12 (.take 13 (.or 14 .done .nil)) .nil) .nil) .nil) .nil)) (.or 10 (.or 6 (.or 7 (.or 11 (.or 12 (.take 13 (.or 14 .done .nil)) .nil) .nil) .nil) .nil) .nil)) (.or 6 (.or 3 (.or 7 (.or 10 (.or 11 (.or 12 (.take 13 (.or 14 .done .nil)) .nil) .nil) .nil) (.or 10 (.or 7 (.or 11 (.or 12 (.take 13 (.or 14 .done .nil)) .nil) .nil) .nil) .nil)) (.or 10 (.or 3 (.or 7 (.or 11 (.or 12 (.take 13 (.or 14 .done .nil)) .nil) .nil) .nil) .nil) .nil)) (.or 10 (.or 3 (.or 6 (.or 7 (.or 11 (.or 12 (.take 13 (.or 14 .done .nil)) .nil) .nil) .nil) .nil) (.or 6 (.or 3 (.or 7 (.or 11 (.or 12 (.take 13 (.or 14 .done .nil)) .nil) .nil) .nil) .nil) .nil)) .nil))) (.or 6 (.or 2 (.or 3 (.or 7 (.or 10 (.or 11 (.or 12 (.take 13 (.or 14 .done .nil)) .nil) .nil) .nil) (.or 10 (.or 7 (.or 11 (.or 12 (.take 13 (.or 14 .done .nil)) .nil) .nil) .nil) .nil)) (.or 10 (.or 3 (.or 7 (.or 11 (.or 12 (.take 13 (.or 14 .done .nil)) .nil) .nil) .nil) .nil) .nil)) (.or 10 (.or 2 (.or 3 (.or 7 (.or 11 (.or 12 (.take 13 (.or 14 .done .nil)) .nil) .nil) .nil) .nil) .nil) .nil)) (.or 10 (.or 2 (.or 3 (.or 6 (.or 7 (.or 11 (.or 12 (.take 13 (.or 14 .done .nil)) .nil) .nil) .nil) .nil) (.or 6 (.or 3 (.or 7 (.or 11 (.or 12 (.take 13 (.or 14 .done .nil)) .nil) .nil) .nil) .nil) .nil)) (.or 6 (.or 2 (.or 3 (.or 7 (.or 11 (.or 12 (.take 13 (.or 14 .done .nil)) .nil) .nil) .nil) .nil) .nil) .nil)) .nil)))))))), by rfl, ?_⟩
  apply Exists.intro
  refine ⟨?_, ?_⟩
  · conv => whnf
    repeat' (first
      | (refine ⟨rfl, ?_⟩; conv => whnf)
      | (refine (i_copyPool_ok w.xCode.xPool hw.nodes).mono ?_; rintro _ _ ⟨rfl, rfl⟩; conv => whnf)
      | (refine (sl_CloneInstr_ok w.xCode.xList hw.list).mono ?_; rintro _ _ ⟨rfl, rfl⟩; conv => whnf)
      | (refine (sl_CloneDef_ok w.xCode.xDefs hw.defs).mono ?_; rintro _ _ ⟨rfl, rfl⟩; conv => whnf)
      | exact norm_wk (keep := [1, 2, 3]) (kb := [1, 2, 3]) (ρ := [(12, some 101), (16, some 102), (20, some 103)]) rfl
      | (refine ⟨?_, ?_⟩ <;> conv => whnf)
      | fail)
  conv => whnf
  rw [hmC_len]
  have n1 := hw.homes
  have n2 := hw.links
  refine ⟨fun m s => ∃ (k : Int), m = w.xHomes.length - k.toNat ∧ 0 ≤ k ∧ k ≤ w.xHomes.length ∧ s = ⟨[(1, .bptr 1 0 0), (2, .bptr 2 0 0), (3, .bptr 3 0 0), (25, .vals false [.rd none 12 (w.xHomes.map DHome.c)]), (26, .vals false [.sc (.int .i64 w.xHomes.length)]), (27, .vals false [.sc (.int .i64 k)])], [(1, ⟨0, w.x⟩), (2, ⟨0, [.nil 5, .nil 4, .nil 3, .sc (.int .i64 0), .nil 12, .nil 5, .nil 5, .nil 3, .sc (.int .i64 0), .nil 1, .nil 1]⟩), (3, ⟨0, [.ref 101 0, .ref 102 0, .ref 103 0, .sc (.int .i64 w.xPlaces), .ref 104 0, .rd none 5 (w.xLinks.map DLink.c), .rd none 5 (w.xGrams.map DGram.c), .rd none 3 (w.xParked.map DParked.c), .sc (.int .i64 w.xNext), .rd none 1 (sssC w.xGave), .rd none 1 (sssC w.xTook)]⟩)], [(101, ⟨true, 0, 0, true, 5, w.xCode.xPool.xNodes.map DNode.c⟩), (102, ⟨true, 0, 0, true, 4, w.xCode.xList.map DInstr.c⟩), (103, ⟨true, 0, 0, true, 3, w.xCode.xDefs.map DDef.c⟩), (104, ⟨true, 0, 0, true, 12, (w.xHomes.take k.toNat).map DHome.c⟩)]⟩,
    ⟨_, _, (nilB_wk (b := 3) (j := 4) (h := 104) (n := 12) rfl).trans (norm_wk (keep := [1, 2, 3, 25, 26, 27]) (kb := [1, 2, 3]) (ρ := [(101, some 101), (102, some 102), (103, some 103), (104, some 104)]) rfl), ⟨0, rfl, by omega, by omega, rfl⟩⟩, ?_⟩
  rintro m _ ⟨k, rfl, k0, k1, rfl⟩
  conv => whnf
  refine br_if (fun h1 => ?_) (fun h1 => ?_) <;> (try rw [h1]) <;> (conv => whnf)
  · rw [ltI_t] at h1
    obtain ⟨x, hx⟩ : ∃ x, w.xHomes[k.toNat]? = some x := ⟨_, List.getElem?_eq_getElem (by omega)⟩
    refine ⟨by omega, _, hmC_at hx, ?_⟩
    conv => whnf
    obtain ⟨c1, c2, c3⟩ := hw.home x (List.mem_of_getElem? hx)
    have lt : ((w.xHomes.take k.toNat).map DHome.c).length ≤ w.xHomes.length := by rw [List.length_map, List.length_take]; omega
    have bd : (((w.xHomes.take k.toNat).map DHome.c).length + 1) * d110.bytes ≤ 140737488355328 := by simp only [d110]; omega
    refine ⟨.take 0 (.take 2 (.take 4 (.early 3 (.or 1 (.or 5 (.or 6 (.or 7 (.or 8 (.or 9 (.take 10 (.or 11 .done .nil)) .nil) .nil) .nil) .nil) .nil) (.or 5 (.or 1 (.or 6 (.or 7 (.or 8 (.or 9 (.take 10 (.or 11 .done .nil)) .nil) .nil) .nil) .nil) (.or 6 (.or 1 (.or 7 (.or 8 (.or 9 (.take 10 (.or 11 .done .nil)) .nil) .nil) .nil) (.or 7 (.or 1 (.or 8 (.or 9 (.take 10 (.or 11 .done .nil)) .nil) .nil) (.or 8 (.or 1 (.or 9 (.take 10 (.or 11 .done .nil)) .nil) .nil) .nil)) .nil)) .nil)) .nil))))), by rfl, ?_⟩
    apply Exists.intro
    refine ⟨?_, ?_⟩
    · conv => whnf
      repeat' (first
        | (refine ⟨rfl, ?_⟩; conv => whnf)
        | (refine (i_copyProc_ok x.xP c1 c2 c3).mono ?_; rintro _ _ ⟨rfl, rfl⟩; conv => whnf)
        | (refine .inr ?_; conv => whnf)
        | (refine ⟨bd, ?_⟩; conv => whnf)
        | (exact norm_wk (keep := [1, 2, 3, 25, 26, 27]) (kb := [1, 2, 3]) (ρ := [(101, some 101), (102, some 102), (103, some 103), (40, some 104)]) rfl)
        | (refine ⟨?_, ?_⟩ <;> conv => whnf)
        | fail)
    conv => whnf
    have e : (w.xHomes.take (k + 1).toNat).map DHome.c = (w.xHomes.take k.toNat).map DHome.c ++ [x.c] := by
      rw [show (k + 1).toNat = k.toNat + 1 by omega, List.take_add_one, hx, List.map_append]
      rfl
    rw [wrp_i64 (x := k + 1) (by omega) (by omega)]
    apply Exists.intro
    apply Exists.intro
    refine ⟨?_, ?_, k + 1, rfl, by omega, by omega, ?_⟩
    rotate_left
    · exact norm_wk (keep := [1, 2, 3, 25, 26, 27]) (kb := [1, 2, 3]) (ρ := [(101, some 101), (102, some 102), (103, some 103), (104, some 104)]) rfl
    · rw [e]
      rfl
    · omega
  rw [ltI_f] at h1
  rw [List.take_of_length_le (by omega), lkC_len]
  refine ⟨fun m s => ∃ (k : Int), m = w.xLinks.length - k.toNat ∧ 0 ≤ k ∧ k ≤ w.xLinks.length ∧ s = ⟨[(1, .bptr 1 0 0), (2, .bptr 2 0 0), (3, .bptr 3 0 0), (45, .vals false [.rd none 5 (w.xLinks.map DLink.c)]), (46, .vals false [.sc (.int .i64 w.xLinks.length)]), (47, .vals false [.sc (.int .i64 k)])], [(1, ⟨0, w.x⟩), (2, ⟨0, [.nil 5, .nil 4, .nil 3, .sc (.int .i64 0), .nil 12, .nil 5, .nil 5, .nil 3, .sc (.int .i64 0), .nil 1, .nil 1]⟩), (3, ⟨0, [.ref 101 0, .ref 102 0, .ref 103 0, .sc (.int .i64 w.xPlaces), .ref 104 0, .ref 105 0, .rd none 5 (w.xGrams.map DGram.c), .rd none 3 (w.xParked.map DParked.c), .sc (.int .i64 w.xNext), .rd none 1 (sssC w.xGave), .rd none 1 (sssC w.xTook)]⟩)], [(101, ⟨true, 0, 0, true, 5, w.xCode.xPool.xNodes.map DNode.c⟩), (102, ⟨true, 0, 0, true, 4, w.xCode.xList.map DInstr.c⟩), (103, ⟨true, 0, 0, true, 3, w.xCode.xDefs.map DDef.c⟩), (104, ⟨true, 0, 0, true, 12, w.xHomes.map DHome.c⟩), (105, ⟨true, 0, 0, true, 5, (w.xLinks.take k.toNat).map DLink.c⟩)]⟩,
    ⟨_, _, (nilB_wk (b := 3) (j := 5) (h := 105) (n := 5) rfl).trans (norm_wk (keep := [1, 2, 3, 45, 46, 47]) (kb := [1, 2, 3]) (ρ := [(101, some 101), (102, some 102), (103, some 103), (104, some 104), (105, some 105)]) rfl), ⟨0, rfl, by omega, by omega, rfl⟩⟩, ?_⟩
  rintro m _ ⟨k, rfl, k0, k1, rfl⟩
  conv => whnf
  refine br_if (fun h2 => ?_) (fun h2 => ?_) <;> (try rw [h2]) <;> (conv => whnf)
  · rw [ltI_t] at h2
    obtain ⟨x, hx⟩ : ∃ x, w.xLinks[k.toNat]? = some x := ⟨_, List.getElem?_eq_getElem (by omega)⟩
    refine ⟨by omega, _, lkC_at hx, ?_⟩
    conv => whnf
    obtain ⟨c1, c2⟩ := hw.link x (List.mem_of_getElem? hx)
    have lt : ((w.xLinks.take k.toNat).map DLink.c).length ≤ w.xLinks.length := by rw [List.length_map, List.length_take]; omega
    have bd : (((w.xLinks.take k.toNat).map DLink.c).length + 1) * d173.bytes ≤ 140737488355328 := by simp only [d173]; omega
    refine ⟨.take 0 (.or 1 (.or 2 (.or 3 (.or 4 (.or 5 (.take 6 (.or 7 .done .nil)) .nil) .nil) .nil) .nil) (.or 2 (.or 1 (.or 3 (.or 4 (.or 5 (.take 6 (.or 7 .done .nil)) .nil) .nil) .nil) (.or 3 (.or 1 (.or 4 (.or 5 (.take 6 (.or 7 .done .nil)) .nil) .nil) (.or 4 (.or 1 (.or 5 (.take 6 (.or 7 .done .nil)) .nil) .nil) .nil)) .nil)) .nil)), by rfl, ?_⟩
    apply Exists.intro
    refine ⟨?_, ?_⟩
    · conv => whnf
      repeat' (first
        | (refine ⟨rfl, ?_⟩; conv => whnf)
        | (refine (i_copyLink_ok x c1 c2).mono ?_; rintro _ _ ⟨rfl, rfl⟩; conv => whnf)
        | (refine .inr ?_; conv => whnf)
        | (refine ⟨bd, ?_⟩; conv => whnf)
        | (exact norm_wk (keep := [1, 2, 3, 45, 46, 47]) (kb := [1, 2, 3]) (ρ := [(101, some 101), (102, some 102), (103, some 103), (104, some 104), (56, some 105)]) rfl)
        | (refine ⟨?_, ?_⟩ <;> conv => whnf)
        | fail)
    conv => whnf
    have e : (w.xLinks.take (k + 1).toNat).map DLink.c = (w.xLinks.take k.toNat).map DLink.c ++ [x.c] := by
      rw [show (k + 1).toNat = k.toNat + 1 by omega, List.take_add_one, hx, List.map_append]
      rfl
    rw [wrp_i64 (x := k + 1) (by omega) (by omega)]
    apply Exists.intro
    apply Exists.intro
    refine ⟨?_, ?_, k + 1, rfl, by omega, by omega, ?_⟩
    rotate_left
    · exact norm_wk (keep := [1, 2, 3, 45, 46, 47]) (kb := [1, 2, 3]) (ρ := [(101, some 101), (102, some 102), (103, some 103), (104, some 104), (105, some 105)]) rfl
    · rw [e]
      rfl
    · omega
  rw [ltI_f] at h2
  rw [List.take_of_length_le (by omega)]
  refine (sl_CloneGram_ok w.xGrams hw.grams).mono ?_
  rintro _ _ ⟨rfl, rfl⟩
  conv => whnf
  refine (sl_CloneParked_ok w.xParked hw.parked).mono ?_
  rintro _ _ ⟨rfl, rfl⟩
  conv => whnf
  refine (i_copyTexts_ok w.xGave hw.gave.1 hw.gave.2).mono ?_
  rintro _ _ ⟨rfl, rfl⟩
  conv => whnf
  refine (i_copyTexts_ok w.xTook hw.took.1 hw.took.2).mono ?_
  rintro _ _ ⟨rfl, rfl⟩
  conv => whnf
  exact ⟨rfl, rfl⟩

end Go.Proofs.YtifodjnbcnbcpaaGreat.V

set_option linter.unusedVariables false

set_option linter.unusedSimpArgs false

namespace Go.Proofs.YtifodjnbcnbcpaaGreat.V

open Go

def MdE51 (f : Nat) : List Mode :=
  match f with
  | 117 => [.rd]
  | 202 => [.rd]
  | _ => []

def E51 : Env := ⟨τ, MdE51⟩

set_option maxRecDepth 100000 in
set_option maxHeartbeats 2000000 in
theorem s_l13Code_ok (a : DCode) (h1 : a.xPool.xNodes.length ≤ 1000000) (h2 : a.xList.length ≤ 1000000) (h3 : a.xDefs.length ≤ 1000000) : FnV Tryz.prog 49 [.rdv true a.c] fun rs outs => rs = [a.r] ∧ outs = [] := by
  refine fn_ok (E := E51) τ_ok mixed Tryz.func49 (by rfl) (by rfl) false (by simp [Tryz.f49]) ?_
  conv => whnf
  have l2 : (a.xList.map DInstr.c).length = a.xList.length := List.length_map ..
  have l3 : (a.xDefs.map DDef.c).length = a.xDefs.length := List.length_map ..
  have b2 : (0 + (a.xList.map DInstr.c).length) * d164.bytes ≤ 140737488355328 := by simp only [d164]; omega
  have b3 : (0 + (a.xDefs.map DDef.c).length) * d166.bytes ≤ 140737488355328 := by simp only [d166]; omega
  refine ⟨.take 0 (.take 4 (.take 8 (.early 1 (.early 5 (.early 9 (.or 2 (.or 3 (.or 6 (.or 7 (.or 10 (.or 11 (.or 12 .done .nil) .nil) .nil) .nil) (.or 7 (.or 6 (.or 10 (.or 11 (.or 12 .done .nil) .nil) .nil) .nil) .nil)) (.or 7 (.or 3 (.or 6 (.or 10 (.or 11 (.or 12 .done .nil) .nil) .nil) .nil) .nil) .nil)) (.or 3 (.or 2 (.or 6 (.or 7 (.or 10 (.or 11 (.or 12 .done .nil) .nil) .nil) .nil) (.or 7 (.or 6 (.or 10 (.or 11 (.or 12 .done .nil) .nil) .nil) .nil) .nil)) (.or 7 (.or 2 (.or 6 (.or 10 (.or 11 (.or 12 .done .nil) .nil) .nil) .nil) .nil) .nil)) (.or 7 (.or 2 (.or 3 (.or 6 (.or 10 (.or 11 (.or 12 .done .nil) .nil) .nil) .nil) .nil) (.or 3 (.or 2 (.or 6 (.or 10 (.or 11 (.or 12 .done .nil) .nil) .nil) .nil) .nil) .nil)) .nil)))))))), by rfl, ?_⟩
  apply Exists.intro
  refine ⟨?_, ?_⟩
  · conv => whnf
    intro u
    conv => whnf
    repeat' (first
      | (refine ⟨rfl, ?_⟩; conv => whnf)
      | (refine (s_l2Copy_ok a.xPool h1).mono ?_; rintro _ _ ⟨rfl, rfl⟩; conv => whnf)
      | (refine ⟨flat_Instr a.xList, ?_⟩; conv => whnf)
      | (refine ⟨flat_Def a.xDefs, ?_⟩; conv => whnf)
      | (refine ⟨b2, ?_⟩; conv => whnf)
      | (refine ⟨b3, ?_⟩; conv => whnf)
      | exact norm_wk (keep := [2]) (kb := [2]) (ρ := [(5, some 100), (9, some 101), (13, some 102)]) rfl
      | (refine ⟨?_, ?_⟩ <;> conv => whnf)
      | fail)
  conv => whnf
  exact ⟨rfl, rfl⟩

end Go.Proofs.YtifodjnbcnbcpaaGreat.V

set_option linter.unusedVariables false

set_option linter.unusedSimpArgs false

namespace Go.Proofs.YtifodjnbcnbcpaaGreat.V

open Go

def MdE53 (f : Nat) : List Mode :=
  match f with
  | 47 => [.rd, .rd, .rd]
  | 48 => [.rd, .rd, .rd]
  | 49 => [.rd]
  | _ => []

def E53 : Env := ⟨τ, MdE53⟩

def l0 : DLink := ⟨0, 0, [], 0, []⟩

def c0 : DCode := ⟨⟨[]⟩, [], []⟩

def w00 : DWorld := ⟨c0, 0, [], [], [], [], 0, [], []⟩

def mainS : ByteArray := ⟨#[109, 97, 105, 110]⟩

def nwW (c : DCode) (n : Int) (p : DProc) : DWorld := ⟨c, n, [⟨0, p⟩], List.replicate (n * n).toNat l0, [], [], 2, List.replicate (n * n).toNat [], List.replicate (n * n).toNat []⟩

noncomputable def wnP (c : DCode) (n : Int) : Option DWorld := match pnP c mainS 1 with
  | some p => if 1 ≤ n ∧ n ≤ 3 then some (nwW c n p) else none
  | none => none

noncomputable def wnR (c : DCode) (n : Int) : List RV := match wnP c n with
  | some w => [w.r, bR true]
  | none => [w00.r, bR false]

theorem wnR_no {c : DCode} {n : Int} (h : wnP c n = none) : [w00.r, bR false] = wnR c n ∧ ([] : List (List C)) = [] := by
  unfold wnR
  rw [h]
  exact ⟨rfl, rfl⟩

theorem wnR_yes {c : DCode} {n : Int} {w : DWorld} (h : wnP c n = some w) : [w.r, bR true] = wnR c n ∧ ([] : List (List C)) = [] := by
  unfold wnR
  rw [h]
  exact ⟨rfl, rfl⟩

theorem pnR_n {c : DCode} {s : ByteArray} {pid : Int} (h : pnP c s pid = none) : pnR c s pid = [p0.r, bR false] := (pnR_no h).1.symm

theorem pnR_s {c : DCode} {s : ByteArray} {pid : Int} {p : DProc} (h : pnP c s pid = some p) : pnR c s pid = [p.r, bR true] := (pnR_yes h).1.symm

theorem wn_n {c : DCode} {n : Int} (h : pnP c mainS 1 = none) : wnP c n = none := by
  unfold wnP
  rw [h]

theorem wn_o {c : DCode} {n : Int} {p : DProc} (h : pnP c mainS 1 = some p) (hn : ¬ (1 ≤ n ∧ n ≤ 3)) : wnP c n = none := by
  unfold wnP
  rw [h]
  simp only
  rw [if_neg hn]

theorem wn_y {c : DCode} {n : Int} {p : DProc} (h : pnP c mainS 1 = some p) (hn : 1 ≤ n ∧ n ≤ 3) : wnP c n = some (nwW c n p) := by
  unfold wnP
  rw [h]
  simp only
  rw [if_pos hn]

theorem pn_small {c : DCode} {s : ByteArray} {pid : Int} {p : DProc} (h : pnP c s pid = some p) : p.xM.xPool.xNodes.length ≤ 2 ∧ p.xBox = [] ∧ p.xOut = [] := by
  unfold pnP at h
  split at h
  · rename_i m hm
    split at h
    · cases h
      unfold mnP at hm
      split at hm
      · split at hm
        · split at hm
          · cases hm
            exact ⟨by simp, rfl, rfl⟩
          · cases hm
        · cases hm
      · cases hm
    · cases h
  · cases h

theorem nw_sq {n : Int} (hn : 1 ≤ n ∧ n ≤ 3) : 1 ≤ n * n ∧ n * n ≤ 9 := by
  have : n = 1 ∨ n = 2 ∨ n = 3 := by omega
  rcases this with rfl | rfl | rfl <;> decide

theorem nw_small {c : DCode} {n : Int} {p : DProc} (hc : codeOk c = true) (hn : 1 ≤ n ∧ n ≤ 3) (hp : p.xM.xPool.xNodes.length ≤ 2 ∧ p.xBox = [] ∧ p.xOut = []) : Small (nwW c n p) := by
  obtain ⟨c1, c2, c3, -, -⟩ := codeOk_t.1 hc
  have c1 := (poolOk_t.1 c1).1
  have := nw_sq hn
  obtain ⟨p1, p2, p3⟩ := hp
  refine ⟨by show c.xPool.xNodes.length ≤ _; omega, by show c.xList.length ≤ _; omega, by show c.xDefs.length ≤ _; omega, by simp [nwW], ?_, by simp [nwW], by simp [nwW], ⟨?_, fun x hx => ?_⟩, ⟨?_, fun x hx => ?_⟩, fun h hh => ?_, fun l hl => ?_⟩
  · simp only [nwW, List.length_replicate]; omega
  · simp only [nwW, List.length_replicate]; omega
  · rw [(List.mem_replicate.1 hx).2]; simp
  · simp only [nwW, List.length_replicate]; omega
  · rw [(List.mem_replicate.1 hx).2]; simp
  · rw [List.mem_singleton.1 hh]
    exact ⟨by show p.xM.xPool.xNodes.length ≤ _; omega, by show p.xBox.length ≤ _; rw [p2]; simp, by show p.xOut.length ≤ _; rw [p3]; simp⟩
  · rw [(List.mem_replicate.1 hl).2]; simp [l0]

theorem mn_code {c : DCode} {s : ByteArray} {pid : Int} {p : DProc} (h : pnP c s pid = some p) : codeOk c = true := by
  unfold pnP at h
  split at h
  · rename_i m hm
    unfold mnP at hm
    split at hm
    · rename_i h1; exact h1.1
    · cases hm
  · cases h

set_option maxRecDepth 100000 in
set_option maxHeartbeats 4000000 in
theorem s_WorldNew_ok (c : DCode) (n : Int) (hc : c.ok) : FnV Tryz.prog 10 [cV c, iV n] fun rs outs => rs = wnR c n ∧ outs = [] := by
  refine fn_ok (E := E53) τ_ok mixed Tryz.func10 (by rfl) (by rfl) false (by simp [Tryz.f10]) ?_
  conv => whnf
  refine (s_ProcNew_ok c mainS 1 hc (by decide) (by decide)).mono ?_
  rintro _ _ ⟨rfl, rfl⟩
  cases hp : pnP c mainS 1 with
  | none =>
    rw [pnR_n hp]
    conv => whnf
    rw [q0f]
    conv => whnf
    exact wnR_no (wn_n hp)
  | some p =>
    rw [pnR_s hp]
    conv => whnf
    rw [notB_f.2 rfl]
    conv => whnf
    refine (s_l1In_ok n 1 3).mono ?_
    rintro _ _ ⟨rfl, rfl⟩
    conv => whnf
    refine br_if (fun h2 => ?_) (fun h2 => ?_) <;> (try rw [h2]) <;> (conv => whnf)
    · rw [notB_t, decide_eq_false_iff_not] at h2
      exact wnR_no (wn_o hp h2)
    rw [notB_f, decide_eq_true_iff] at h2
    have hq := nw_sq h2
    have hcc := codeOk_t.1 (mn_code hp)
    have q1 := (poolOk_t.1 hcc.1).1
    have q2 := hcc.2.1
    have q3 := hcc.2.2.1
    rw [wrp_i64 (x := n * n) (by omega) (by omega)]
    have hz : 0 ≤ n * n := by omega
    have e38 : List.replicate (n * n).toNat (List.map zC d173.zero) = (List.replicate (n * n).toNat l0).map DLink.c := by rw [List.map_replicate]; rfl
    have e41 : List.replicate (n * n).toNat (List.map zC d54.zero) = sssC (List.replicate (n * n).toNat []) := by rw [sssC, List.map_replicate]; rfl
    have z38 : ((d173.bytes : Nat) : Int) * (n * n) ≤ 281474976710656 := by simp only [d173]; omega
    have z41 : ((d54.bytes : Nat) : Int) * (n * n) ≤ 281474976710656 := by simp only [d54]; omega
    have z63 : n * n ≤ 9223372036854775807 := by omega
    refine ⟨.one (.take 2 (.take 6 (.early 0 (.lat [⟨[0, 2, 6], 8, [(1, 1), (3, 2), (7, 3), (9, 4)]⟩, ⟨[0, 1, 2, 6], 7, [(3, 5), (7, 6), (9, 7)]⟩, ⟨[0, 2, 3, 6], 7, [(1, 5), (4, 8), (7, 9), (9, 10)]⟩, ⟨[0, 2, 6, 7], 7, [(1, 6), (3, 9), (9, 11)]⟩, ⟨[0, 2, 6, 9], 7, [(1, 7), (3, 10), (7, 11)]⟩, ⟨[0, 1, 2, 3, 6], 6, [(4, 12), (7, 13), (9, 14)]⟩, ⟨[0, 1, 2, 6, 7], 6, [(3, 13), (9, 15)]⟩, ⟨[0, 1, 2, 6, 9], 6, [(3, 14), (7, 15)]⟩, ⟨[0, 2, 3, 4, 6], 6, [(1, 12), (5, 16), (7, 17), (9, 18)]⟩, ⟨[0, 2, 3, 6, 7], 6, [(1, 13), (4, 17), (9, 19)]⟩, ⟨[0, 2, 3, 6, 9], 6, [(1, 14), (4, 18), (7, 19)]⟩, ⟨[0, 2, 6, 7, 9], 6, [(1, 15), (3, 19)]⟩, ⟨[0, 1, 2, 3, 4, 6], 5, [(5, 20), (7, 21), (9, 22)]⟩, ⟨[0, 1, 2, 3, 6, 7], 5, [(4, 21), (9, 23)]⟩, ⟨[0, 1, 2, 3, 6, 9], 5, [(4, 22), (7, 23)]⟩, ⟨[0, 1, 2, 6, 7, 9], 5, [(3, 23)]⟩, ⟨[0, 2, 3, 4, 5, 6], 5, [(1, 20), (7, 24), (9, 25)]⟩, ⟨[0, 2, 3, 4, 6, 7], 5, [(1, 21), (5, 24), (9, 26)]⟩, ⟨[0, 2, 3, 4, 6, 9], 5, [(1, 22), (5, 25), (7, 26)]⟩, ⟨[0, 2, 3, 6, 7, 9], 5, [(1, 23), (4, 26)]⟩, ⟨[0, 1, 2, 3, 4, 5, 6], 4, [(7, 27), (9, 28)]⟩, ⟨[0, 1, 2, 3, 4, 6, 7], 4, [(5, 27), (9, 29)]⟩, ⟨[0, 1, 2, 3, 4, 6, 9], 4, [(5, 28), (7, 29)]⟩, ⟨[0, 1, 2, 3, 6, 7, 9], 4, [(4, 29)]⟩, ⟨[0, 2, 3, 4, 5, 6, 7], 4, [(1, 27), (9, 30)]⟩, ⟨[0, 2, 3, 4, 5, 6, 9], 4, [(1, 28), (7, 30)]⟩, ⟨[0, 2, 3, 4, 6, 7, 9], 4, [(1, 29), (5, 30)]⟩, ⟨[0, 1, 2, 3, 4, 5, 6, 7], 3, [(8, 31), (9, 32)]⟩, ⟨[0, 1, 2, 3, 4, 5, 6, 9], 3, [(7, 32)]⟩, ⟨[0, 1, 2, 3, 4, 6, 7, 9], 3, [(5, 32)]⟩, ⟨[0, 2, 3, 4, 5, 6, 7, 9], 3, [(1, 32)]⟩, ⟨[0, 1, 2, 3, 4, 5, 6, 7, 8], 2, [(9, 33)]⟩, ⟨[0, 1, 2, 3, 4, 5, 6, 7, 9], 2, [(8, 33)]⟩, ⟨[0, 1, 2, 3, 4, 5, 6, 7, 8, 9], 1, [(10, 34)]⟩, ⟨[0, 1, 2, 3, 4, 5, 6, 7, 8, 9, 10], 0, []⟩])))), by kernel_rfl, ?_⟩
    conv => whnf
    intro u
    conv => whnf
    repeat (apply Exists.intro; conv => whnf)
    repeat' (first
      | (refine EdgeP.mk ?_ ?_ <;> conv => whnf)
      | (refine NodeP.mk ?_ ?_ <;> conv => whnf)
      | (refine DebtP.mk rfl ?_; conv => whnf)
      | exact trivial
      | (refine RootP.mk ?_ ?_ <;> conv => whnf)
      | (refine (s_l13Code_ok c (by omega) (by omega) (by omega)).mono ?_; rintro _ _ ⟨rfl, rfl⟩; conv => whnf)
      | (refine ⟨hz, rfl, z38, z63, ?_⟩; rw [e38]; conv => whnf)
      | exact rfl
      | fail)
    refine ⟨?_⟩
    conv => whnf
    refine ⟨hz, rfl, z41, z63, ?_⟩
    rw [e41]
    conv => whnf
    refine ⟨hz, rfl, z41, z63, ?_⟩
    rw [e41]
    conv => whnf
    exact wnR_yes (wn_y hp h2)

end Go.Proofs.YtifodjnbcnbcpaaGreat.V

set_option linter.unusedVariables false

set_option linter.unusedSimpArgs false

namespace Go.Proofs.YtifodjnbcnbcpaaGreat.V

open Go

def MdE53B (f : Nat) : List Mode :=
  match f with
  | 53 => [.rd, .rd, .rd]
  | 54 => [.rd, .rd, .rd]
  | 55 => [.rd]
  | _ => []

def E53B : Env := ⟨τ, MdE53B⟩

set_option maxRecDepth 100000 in
set_option maxHeartbeats 4000000 in
theorem i_WorldNew_ok (c : DCode) (n : Int) (hc : c.ok) : FnV Tryz.prog 12 [cV c, iV n] fun rs outs => rs = wnR c n ∧ outs = [] := by
  refine fn_ok (E := E53B) τ_ok mixed Tryz.func12 (by rfl) (by rfl) false (by simp [Tryz.f12]) ?_
  conv => whnf
  refine (i_ProcNew_ok c mainS 1 hc (by decide) (by decide)).mono ?_
  rintro _ _ ⟨rfl, rfl⟩
  cases hp : pnP c mainS 1 with
  | none =>
    rw [pnR_n hp]
    conv => whnf
    rw [q0f]
    conv => whnf
    exact wnR_no (wn_n hp)
  | some p =>
    rw [pnR_s hp]
    conv => whnf
    rw [notB_f.2 rfl]
    conv => whnf
    refine (i_within_ok n 1 3).mono ?_
    rintro _ _ ⟨rfl, rfl⟩
    conv => whnf
    refine br_if (fun h2 => ?_) (fun h2 => ?_) <;> (try rw [h2]) <;> (conv => whnf)
    · rw [notB_t, decide_eq_false_iff_not] at h2
      exact wnR_no (wn_o hp h2)
    rw [notB_f, decide_eq_true_iff] at h2
    have hq := nw_sq h2
    have hcc := codeOk_t.1 (mn_code hp)
    rw [wrp_i64 (x := n * n) (by omega) (by omega)]
    have hz : 0 ≤ n * n := by omega
    have e38 : List.replicate (n * n).toNat (List.map zC d173.zero) = (List.replicate (n * n).toNat l0).map DLink.c := by rw [List.map_replicate]; rfl
    have e41 : List.replicate (n * n).toNat (List.map zC d54.zero) = sssC (List.replicate (n * n).toNat []) := by rw [sssC, List.map_replicate]; rfl
    have z38 : ((d173.bytes : Nat) : Int) * (n * n) ≤ 281474976710656 := by simp only [d173]; omega
    have z41 : ((d54.bytes : Nat) : Int) * (n * n) ≤ 281474976710656 := by simp only [d54]; omega
    have z63 : n * n ≤ 9223372036854775807 := by omega
    refine ⟨.one (.take 1 (.take 5 (.take 7 (.take 9 (.early 0 (.lat [⟨[0, 1, 5, 7, 9], 9, [(2, 1), (6, 2), (8, 3), (10, 4), (12, 5)]⟩, ⟨[0, 1, 2, 5, 7, 9], 8, [(3, 6), (6, 7), (8, 8), (10, 9), (12, 10)]⟩, ⟨[0, 1, 5, 6, 7, 9], 8, [(2, 7), (8, 11), (10, 12), (12, 13)]⟩, ⟨[0, 1, 5, 7, 8, 9], 8, [(2, 8), (6, 11), (10, 14), (12, 15)]⟩, ⟨[0, 1, 5, 7, 9, 10], 8, [(2, 9), (6, 12), (8, 14), (12, 16)]⟩, ⟨[0, 1, 5, 7, 9, 12], 8, [(2, 10), (6, 13), (8, 15), (10, 16)]⟩, ⟨[0, 1, 2, 3, 5, 7, 9], 7, [(4, 17), (6, 18), (8, 19), (10, 20), (12, 21)]⟩, ⟨[0, 1, 2, 5, 6, 7, 9], 7, [(3, 18), (8, 22), (10, 23), (12, 24)]⟩, ⟨[0, 1, 2, 5, 7, 8, 9], 7, [(3, 19), (6, 22), (10, 25), (12, 26)]⟩, ⟨[0, 1, 2, 5, 7, 9, 10], 7, [(3, 20), (6, 23), (8, 25), (12, 27)]⟩, ⟨[0, 1, 2, 5, 7, 9, 12], 7, [(3, 21), (6, 24), (8, 26), (10, 27)]⟩, ⟨[0, 1, 5, 6, 7, 8, 9], 7, [(2, 22), (10, 28), (12, 29)]⟩, ⟨[0, 1, 5, 6, 7, 9, 10], 7, [(2, 23), (8, 28), (12, 30)]⟩, ⟨[0, 1, 5, 6, 7, 9, 12], 7, [(2, 24), (8, 29), (10, 30)]⟩, ⟨[0, 1, 5, 7, 8, 9, 10], 7, [(2, 25), (6, 28), (12, 31)]⟩, ⟨[0, 1, 5, 7, 8, 9, 12], 7, [(2, 26), (6, 29), (10, 31)]⟩, ⟨[0, 1, 5, 7, 9, 10, 12], 7, [(2, 27), (6, 30), (8, 31)]⟩, ⟨[0, 1, 2, 3, 4, 5, 7, 9], 6, [(6, 32), (8, 33), (10, 34), (12, 35)]⟩, ⟨[0, 1, 2, 3, 5, 6, 7, 9], 6, [(4, 32), (8, 36), (10, 37), (12, 38)]⟩, ⟨[0, 1, 2, 3, 5, 7, 8, 9], 6, [(4, 33), (6, 36), (10, 39), (12, 40)]⟩, ⟨[0, 1, 2, 3, 5, 7, 9, 10], 6, [(4, 34), (6, 37), (8, 39), (12, 41)]⟩, ⟨[0, 1, 2, 3, 5, 7, 9, 12], 6, [(4, 35), (6, 38), (8, 40), (10, 41)]⟩, ⟨[0, 1, 2, 5, 6, 7, 8, 9], 6, [(3, 36), (10, 42), (12, 43)]⟩, ⟨[0, 1, 2, 5, 6, 7, 9, 10], 6, [(3, 37), (8, 42), (12, 44)]⟩, ⟨[0, 1, 2, 5, 6, 7, 9, 12], 6, [(3, 38), (8, 43), (10, 44)]⟩, ⟨[0, 1, 2, 5, 7, 8, 9, 10], 6, [(3, 39), (6, 42), (12, 45)]⟩, ⟨[0, 1, 2, 5, 7, 8, 9, 12], 6, [(3, 40), (6, 43), (10, 45)]⟩, ⟨[0, 1, 2, 5, 7, 9, 10, 12], 6, [(3, 41), (6, 44), (8, 45)]⟩, ⟨[0, 1, 5, 6, 7, 8, 9, 10], 6, [(2, 42), (12, 46)]⟩, ⟨[0, 1, 5, 6, 7, 8, 9, 12], 6, [(2, 43), (10, 46)]⟩, ⟨[0, 1, 5, 6, 7, 9, 10, 12], 6, [(2, 44), (8, 46)]⟩, ⟨[0, 1, 5, 7, 8, 9, 10, 12], 6, [(2, 45), (6, 46)]⟩, ⟨[0, 1, 2, 3, 4, 5, 6, 7, 9], 5, [(8, 47), (10, 48), (12, 49)]⟩, ⟨[0, 1, 2, 3, 4, 5, 7, 8, 9], 5, [(6, 47), (10, 50), (12, 51)]⟩, ⟨[0, 1, 2, 3, 4, 5, 7, 9, 10], 5, [(6, 48), (8, 50), (12, 52)]⟩, ⟨[0, 1, 2, 3, 4, 5, 7, 9, 12], 5, [(6, 49), (8, 51), (10, 52)]⟩, ⟨[0, 1, 2, 3, 5, 6, 7, 8, 9], 5, [(4, 47), (10, 53), (12, 54)]⟩, ⟨[0, 1, 2, 3, 5, 6, 7, 9, 10], 5, [(4, 48), (8, 53), (12, 55)]⟩, ⟨[0, 1, 2, 3, 5, 6, 7, 9, 12], 5, [(4, 49), (8, 54), (10, 55)]⟩, ⟨[0, 1, 2, 3, 5, 7, 8, 9, 10], 5, [(4, 50), (6, 53), (12, 56)]⟩, ⟨[0, 1, 2, 3, 5, 7, 8, 9, 12], 5, [(4, 51), (6, 54), (10, 56)]⟩, ⟨[0, 1, 2, 3, 5, 7, 9, 10, 12], 5, [(4, 52), (6, 55), (8, 56)]⟩, ⟨[0, 1, 2, 5, 6, 7, 8, 9, 10], 5, [(3, 53), (12, 57)]⟩, ⟨[0, 1, 2, 5, 6, 7, 8, 9, 12], 5, [(3, 54), (10, 57)]⟩, ⟨[0, 1, 2, 5, 6, 7, 9, 10, 12], 5, [(3, 55), (8, 57)]⟩, ⟨[0, 1, 2, 5, 7, 8, 9, 10, 12], 5, [(3, 56), (6, 57)]⟩, ⟨[0, 1, 5, 6, 7, 8, 9, 10, 12], 5, [(2, 57)]⟩, ⟨[0, 1, 2, 3, 4, 5, 6, 7, 8, 9], 4, [(10, 58), (12, 59)]⟩, ⟨[0, 1, 2, 3, 4, 5, 6, 7, 9, 10], 4, [(8, 58), (12, 60)]⟩, ⟨[0, 1, 2, 3, 4, 5, 6, 7, 9, 12], 4, [(8, 59), (10, 60)]⟩, ⟨[0, 1, 2, 3, 4, 5, 7, 8, 9, 10], 4, [(6, 58), (12, 61)]⟩, ⟨[0, 1, 2, 3, 4, 5, 7, 8, 9, 12], 4, [(6, 59), (10, 61)]⟩, ⟨[0, 1, 2, 3, 4, 5, 7, 9, 10, 12], 4, [(6, 60), (8, 61)]⟩, ⟨[0, 1, 2, 3, 5, 6, 7, 8, 9, 10], 4, [(4, 58), (12, 62)]⟩, ⟨[0, 1, 2, 3, 5, 6, 7, 8, 9, 12], 4, [(4, 59), (10, 62)]⟩, ⟨[0, 1, 2, 3, 5, 6, 7, 9, 10, 12], 4, [(4, 60), (8, 62)]⟩, ⟨[0, 1, 2, 3, 5, 7, 8, 9, 10, 12], 4, [(4, 61), (6, 62)]⟩, ⟨[0, 1, 2, 5, 6, 7, 8, 9, 10, 12], 4, [(3, 62)]⟩, ⟨[0, 1, 2, 3, 4, 5, 6, 7, 8, 9, 10], 3, [(11, 63), (12, 64)]⟩, ⟨[0, 1, 2, 3, 4, 5, 6, 7, 8, 9, 12], 3, [(10, 64)]⟩, ⟨[0, 1, 2, 3, 4, 5, 6, 7, 9, 10, 12], 3, [(8, 64)]⟩, ⟨[0, 1, 2, 3, 4, 5, 7, 8, 9, 10, 12], 3, [(6, 64)]⟩, ⟨[0, 1, 2, 3, 5, 6, 7, 8, 9, 10, 12], 3, [(4, 64)]⟩, ⟨[0, 1, 2, 3, 4, 5, 6, 7, 8, 9, 10, 11], 2, [(12, 65)]⟩, ⟨[0, 1, 2, 3, 4, 5, 6, 7, 8, 9, 10, 12], 2, [(11, 65)]⟩, ⟨[0, 1, 2, 3, 4, 5, 6, 7, 8, 9, 10, 11, 12], 1, [(13, 66)]⟩, ⟨[0, 1, 2, 3, 4, 5, 6, 7, 8, 9, 10, 11, 12, 13], 0, []⟩])))))), by kernel_rfl, ?_⟩
    conv => whnf
    intro u
    conv => whnf
    repeat (apply Exists.intro; conv => whnf)
    repeat' (first
      | (refine EdgeP.mk ?_ ?_ <;> conv => whnf)
      | (refine NodeP.mk ?_ ?_ <;> conv => whnf)
      | (refine DebtP.mk rfl ?_; conv => whnf)
      | exact trivial
      | (refine RootP.mk ?_ ?_ <;> conv => whnf)
      | (refine ⟨hz, rfl, z38, z63, ?_⟩; rw [e38]; conv => whnf)
      | (refine ⟨hz, rfl, z41, z63, ?_⟩; rw [e41]; conv => whnf)
      | exact rfl
      | fail)
    refine ⟨?_⟩
    conv => whnf
    refine (i_copyWorld_ok (nwW c n p) (nw_small (mn_code hp) h2 (pn_small hp))).mono ?_
    rintro _ _ ⟨rfl, rfl⟩
    conv => whnf
    exact wnR_yes (wn_y hp h2)

end Go.Proofs.YtifodjnbcnbcpaaGreat.V

set_option linter.unusedVariables false

set_option linter.unusedSimpArgs false

namespace Go.Proofs.YtifodjnbcnbcpaaGreat.V

open Go

def MdE54 (f : Nat) : List Mode :=
  match f with
  | 9 => [.rd, .rd]
  | 10 => [.rd, .rd]
  | 11 => [.rd]
  | 12 => [.rd, .rd]
  | 13 => [.rd, .rd]
  | 14 => [.rd, .rd]
  | 15 => [.mv [true, true, true], .rd]
  | 16 => [.mv [true, true, true, false, true, true, true, true, false, true, true], .rd]
  | 17 => [.rd, .rd]
  | _ => []

def E54 : Env := ⟨τ, MdE54⟩

theorem szL_k {α : Type} {f : α → Int} {k : Int} (l : List α) (h : ∀ x ∈ l, f x ≤ k) : szL f l ≤ k * l.length := by
  induction l with
  | nil => simp [szL]
  | cons x r ih =>
    have h1 := h x (List.mem_cons_self ..)
    have h2 := ih fun y hy => h y (List.mem_cons_of_mem _ hy)
    simp only [szL, List.length_cons]
    rw [show k * ((r.length + 1 : Nat) : Int) = k * (r.length : Int) + k by rw [Int.natCast_add, Int.mul_add]; simp]
    omega

theorem pn_mok {c : DCode} {s : ByteArray} {pid : Int} {p : DProc} (hc : c.ok) (h0 : -9223372036854775808 ≤ pid) (h1 : pid ≤ 9223372036854775807) (h : pnP c s pid = some p) : p.ok := by
  unfold pnP at h
  split at h
  · rename_i m hm
    split at h
    · cases h
      exact ⟨⟨h0, h1⟩, mn_ok hc hm, ⟨by simp, by simp⟩, ⟨by simp, by simp⟩⟩
    · cases h
  · cases h

theorem wn_all (c : DCode) (n : Int) (hc : c.ok) : ∃ (W : DWorld) (b : Bool), wnR c n = [W.r, bR b] ∧ W.ok ∧ W.wz ≤ 1000000 := by
  cases h : wnP c n with
  | none =>
    refine ⟨w00, false, (wnR_no h).1.symm, ?_, by decide⟩
    simp [w00, c0, DWorld.ok, DCode.ok, DPool.ok]
  | some w =>
    refine ⟨w, true, (wnR_yes h).1.symm, ?_⟩
    unfold wnP at h
    split at h
    · rename_i p hp
      split at h
      · rename_i hn
        cases h
        have hq := nw_sq hn
        obtain ⟨p1, p2, p3⟩ := pn_small hp
        have hpo := pn_mok hc (by decide) (by decide) hp
        have hcc := codeOk_t.1 (mn_code hp)
        have q1 := (poolOk_t.1 hcc.1).1
        have q2 := hcc.2.1
        have q3 := hcc.2.2.1
        have hr : (n * n).toNat ≤ 9 := by omega
        refine ⟨⟨hc, ⟨by simp only [nwW]; omega, by simp only [nwW]; omega⟩, ⟨by simp [nwW], fun y hy => ?_⟩, ⟨by simp only [nwW, List.length_replicate]; omega, fun y hy => ?_⟩, ⟨by simp [nwW], fun y hy => by cases hy⟩, ⟨by simp [nwW], fun y hy => by cases hy⟩, ⟨by simp [nwW], by simp [nwW]⟩,
          ⟨by simp only [nwW, List.length_replicate]; omega, fun y hy => ?_⟩, ⟨by simp only [nwW, List.length_replicate]; omega, fun y hy => ?_⟩⟩, ?_⟩
        · rw [List.mem_singleton.1 hy]
          exact ⟨⟨by show (-9223372036854775808 : Int) ≤ 0; omega, by show (0 : Int) ≤ 9223372036854775807; omega⟩, hpo⟩
        · rw [(List.mem_replicate.1 hy).2]
          simp [l0, DLink.ok]
        · rw [(List.mem_replicate.1 hy).2]
          exact ⟨by simp, fun z hz => by cases hz⟩
        · rw [(List.mem_replicate.1 hy).2]
          exact ⟨by simp, fun z hz => by cases hz⟩
        · have e1 := szL_k (f := DNode.mz) (k := 5) c.xPool.xNodes fun x _ => Int.le_refl _
          have e2 := szL_k (f := DInstr.mz) (k := 4) c.xList fun x _ => Int.le_refl _
          have e3 := szL_k (f := DDef.mz) (k := 3) c.xDefs fun x _ => Int.le_refl _
          have e4 := szL_k (f := DNode.mz) (k := 5) p.xM.xPool.xNodes fun x _ => Int.le_refl _
          have e5 := szL_k (f := DLink.mz) (k := 3) (List.replicate (n * n).toNat l0) fun x hx => by rw [(List.mem_replicate.1 hx).2]; decide
          have e6 := szL_k (f := mzS) (k := 0) (List.replicate (n * n).toNat []) fun x hx => by rw [(List.mem_replicate.1 hx).2]; decide
          rw [List.length_replicate] at e5 e6
          have e7 : DHome.mz ⟨0, p⟩ = 9 + szL DNode.mz p.xM.xPool.xNodes + mzS p.xBox + mzS p.xOut := rfl
          rw [p2, p3] at e7
          have e8 : mzS [] = 0 := rfl
          show szL DNode.mz c.xPool.xNodes + szL DInstr.mz c.xList + szL DDef.mz c.xDefs + (DHome.mz ⟨0, p⟩ + 0) + szL DLink.mz (List.replicate (n * n).toNat l0) + 0 + 0 + szL mzS (List.replicate (n * n).toNat []) + szL mzS (List.replicate (n * n).toNat []) ≤ 1000000
          omega
      · cases h
    · cases h

set_option maxHeartbeats 4000000 in
set_option maxRecDepth 100000 in
theorem f_FnExactWorldNew (a : DCode) (n : Int) (ho : a.ok) : FnV Tryz.prog 3 [.rdv true a.c, iV n] fun rs outs => rs = [bR true] ∧ outs = [] := by
  refine fn_ok (E := E54) τ_ok mixed Tryz.func3 (by rfl) (by rfl) false (by simp [Tryz.f3]) ?_
  conv => whnf
  refine (szCode_ok a 1048576 (by omega) (by omega) ho).mono ?_
  rintro _ _ ⟨rfl, rfl⟩
  conv => whnf
  refine br_if (fun h => ?_) (fun h => ?_) <;> (try rw [h]) <;> (conv => whnf)
  · exact ⟨rfl, rfl⟩
  rw [ltI_f, ← Int.not_lt, szR_lt (by omega), Int.not_lt] at h
  obtain ⟨W, b, hR, hW, hz⟩ := wn_all a n ho
  have hS := s_WorldNew_ok a n ho
  have hI := i_WorldNew_ok a n ho
  rw [hR] at hS hI
  have q0 : notB true = false := notB_f.2 rfl
  refine (toCode_ok a (by omega)).mono ?_
  rintro _ _ ⟨rfl, rfl⟩
  conv => whnf
  refine hS.mono ?_
  rintro _ _ ⟨rfl, rfl⟩
  conv => whnf
  refine (toCode_ok a (by omega)).mono ?_
  rintro _ _ ⟨rfl, rfl⟩
  conv => whnf
  refine hI.mono ?_
  rintro _ _ ⟨rfl, rfl⟩
  conv => whnf
  refine (eqWorld_ok W hW).mono ?_
  rintro _ _ ⟨rfl, rfl⟩
  conv => whnf
  rw [q0]
  conv => whnf
  rw [eqB_self, q0]
  conv => whnf
  refine ⟨.one (.lat [⟨[], 5, [(0, 1), (1, 2)]⟩, ⟨[0], 4, [(1, 3)]⟩, ⟨[1], 4, [(0, 3), (2, 4)]⟩, ⟨[0, 1], 3, [(2, 5)]⟩, ⟨[1, 2], 3, [(0, 5)]⟩, ⟨[0, 1, 2], 2, [(3, 6)]⟩, ⟨[0, 1, 2, 3], 1, [(4, 7)]⟩, ⟨[0, 1, 2, 3, 4], 0, []⟩]), by kernel_rfl, ?_⟩
  conv => whnf
  conv => whnf
  repeat (apply Exists.intro; conv => whnf)
  repeat' (first
    | (refine EdgeP.mk ?_ ?_ <;> conv => whnf)
    | (refine NodeP.mk ?_ ?_ <;> conv => whnf)
    | (refine DebtP.mk rfl ?_; conv => whnf)
    | exact trivial
    | (refine RootP.mk ?_ ?_ <;> conv => whnf)
    | (refine (toCode_ok a (by omega)).mono ?_; rintro _ _ ⟨rfl, rfl⟩; conv => whnf)
    | (refine (eqCode_ok a ho).mono ?_; rintro _ _ ⟨rfl, rfl⟩; conv => whnf)
    | exact rfl
    | fail)
  refine ⟨?_⟩
  conv => whnf
  rw [q0]
  conv => whnf
  have wa : 1 + a.wz ≤ 1000000000 := by
    have := a.wz_le
    omega
  have wn := a.wz_nonneg
  have wp := W.wz_nonneg
  refine (markCode_ok a 1 (by omega) wa).mono ?_
  rintro _ _ ⟨rfl, rfl⟩
  conv => whnf
  refine br_if (fun h2 => ?_) (fun h2 => ?_) <;> (try rw [h2]) <;> (conv => whnf)
  · rw [ltI_t] at h2
    omega
  refine (eqWorld_ok W hW).mono ?_
  rintro _ _ ⟨rfl, rfl⟩
  conv => whnf
  rw [q0]
  conv => whnf
  rw [eqB_self, q0]
  conv => whnf
  refine (markWorld_ok W 1 (by omega) (by omega) hW).mono ?_
  rintro _ _ ⟨rfl, rfl⟩
  conv => whnf
  refine (heldWorld_ok W 1 (by omega) (by omega) hW).mono ?_
  rintro _ _ ⟨rfl, rfl⟩
  conv => whnf
  refine br_if (fun h3 => ?_) (fun h3 => ?_) <;> (try rw [h3]) <;> (conv => whnf)
  · rw [ltI_t] at h3
    omega
  rw [eqI_self, q0]
  conv => whnf
  refine (toCode_ok a (by omega)).mono ?_
  rintro _ _ ⟨rfl, rfl⟩
  conv => whnf
  refine hI.mono ?_
  rintro _ _ ⟨rfl, rfl⟩
  conv => whnf
  refine (eqWorld_ok W hW).mono ?_
  rintro _ _ ⟨rfl, rfl⟩
  conv => whnf
  rw [q0]
  conv => whnf
  rw [eqB_self, q0]
  conv => whnf
  refine (heldWorld_ok W 1 (by omega) (by omega) hW).mono ?_
  rintro _ _ ⟨rfl, rfl⟩
  conv => whnf
  refine br_if (fun h4 => ?_) (fun h4 => ?_) <;> (try rw [h4]) <;> (conv => whnf)
  · rw [ltI_t] at h4
    omega
  rw [eqI_self, q0]
  conv => whnf
  exact ⟨rfl, rfl⟩

theorem FnExactWorldNew_all {Cs : List C} (n : Int) (h : TyL rowCode Cs) : FnV Tryz.prog 3 [.rdv true Cs, iV n] fun rs outs => rs = [bR true] ∧ outs = [] := by
  obtain ⟨a, rfl, ho⟩ := ty_Code h
  exact f_FnExactWorldNew a n ho

end Go.Proofs.YtifodjnbcnbcpaaGreat.V

