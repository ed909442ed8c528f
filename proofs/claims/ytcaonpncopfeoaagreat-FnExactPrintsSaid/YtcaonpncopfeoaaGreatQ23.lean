/- Worlds: the program's side. -/
import Derived.Test.YtcaonpncopfeoaaGreatQ22
set_option linter.unusedVariables false
set_option linter.unusedSimpArgs false
namespace Go.Proofs.YtcaonpncopfeoaaGreat.V
open Go

def MdE23 (f : Nat) : List Mode :=
  match f with
  | 111 => [.rd]
  | 112 => [.rd, .rd, .rd]
  | 113 => [.rd]
  | 114 => [.rd, .rd]
  | 115 => [.rd, .clo]
  | 116 => [.rd, .mptr]
  | 117 => [.rd, .rd]
  | 118 => [.rd, .clo]
  | 119 => [.rd, .mptr]
  | 208 => [.rd]
  | 214 => [.rd, .clo]
  | 215 => [.rd, .clo]
  | _ => []
def E23 : Env := ⟨τ, MdE23⟩

@[reducible] def wV (w : DWorld) : AV := .rdv true w.c
def GramOk (n : Int) (g : DGram) : Prop :=
  (g.xKind = 1 ∨ g.xKind = 2) ∧ (0 ≤ g.xFrom ∧ g.xFrom < n) ∧ (0 ≤ g.xTo ∧ g.xTo < n) ∧ (0 ≤ g.xP.xNo ∧ g.xP.xNo ≤ 100000) ∧ (g.xKind = 2 → g.xP.xText.size = 0)
noncomputable def gramOk (n : Int) (g : DGram) : Bool := clB (GramOk n g)
def LinksOk (w : DWorld) : Prop :=
  (w.xLinks.length : Int) = w.xPlaces * w.xPlaces ∧ (w.xGave.length : Int) = w.xPlaces * w.xPlaces ∧ (w.xTook.length : Int) = w.xPlaces * w.xPlaces ∧
    ∀ (i : Nat) (l : DLink), w.xLinks[i]? = some l → linkOk l = true ∧ (∀ g, w.xGave[i]? = some g → (g.length : Int) = l.xSent) ∧ ∀ g, w.xTook[i]? = some g → (g.length : Int) = l.xGot
noncomputable def linksOk (w : DWorld) : Bool := clB (LinksOk w)
theorem linksOk_ff {w : DWorld} (h : ¬ LinksOk w) : linksOk w = false := clB_f.2 h
def WorldOk (w : DWorld) : Prop :=
  codeOk w.xCode = true ∧ (1 ≤ w.xPlaces ∧ w.xPlaces ≤ 3) ∧ w.xHomes.length ≤ 8 ∧ w.xGrams.length ≤ 12 ∧ w.xParked.length ≤ 20 ∧ (1 ≤ w.xNext ∧ w.xNext ≤ 1000000000) ∧ linksOk w = true ∧
    (∀ h ∈ w.xHomes, (0 ≤ h.xAt ∧ h.xAt < w.xPlaces) ∧ procOk w.xCode h.xP = true) ∧ (∀ g ∈ w.xGrams, gramOk w.xPlaces g = true) ∧ ∀ p ∈ w.xParked, 0 ≤ p.xAt ∧ p.xAt < w.xPlaces
noncomputable def worldOk (w : DWorld) : Bool := clB (WorldOk w)
theorem worldOk_t {w : DWorld} : worldOk w = true ↔ WorldOk w := clB_t
theorem worldOk_ff {w : DWorld} (h : ¬ WorldOk w) : worldOk w = false := clB_f.2 h

set_option maxRecDepth 100000 in
set_option maxHeartbeats 1000000 in
theorem i_gramOk_ok (g : DGram) (n : Int) (hn : 1 ≤ n ∧ n ≤ 3) : FnV Tryz.prog 117 [.rdv true g.c, iV n] fun rs outs => rs = [bR (gramOk n g)] ∧ outs = [] := by
  refine fn_ok (E := E23) τ_ok mixed Tryz.func117 (by rfl) (by rfl) false (by simp [Tryz.f117]) ?_
  conv => whnf
  have wn : wrp .i64 (n - 1) = n - 1 := wrp_i64 (by omega) (by omega)
  repeat' (first
    | (refine br_if (fun h => ?_) (fun h => ?_) <;> (try rw [h]) <;> (conv => whnf))
    | (refine (i_within_ok _ _ _).mono ?_; rintro _ _ ⟨rfl, rfl⟩; conv => whnf)
    | fail)
  all_goals refine bR_eq (Bool.eq_iff_iff.2 ?_)
  all_goals unfold gramOk GramOk
  all_goals rw [clB_t]
  all_goals simp only [eqI_t, eqI_f, emp_t, emp_f, notB_t, notB_f, decide_eq_true_eq, decide_eq_false_iff_not, Bool.false_eq_true, false_iff, wn] at *
  all_goals omega

set_option maxRecDepth 100000 in
theorem i_WorldOk1_ok (w : DWorld) (g : DGram) (hn : 1 ≤ w.xPlaces ∧ w.xPlaces ≤ 3) : FnV Tryz.prog 116 [.rdv true g.c, .mptr none [.sl false 5 (w.xCode.xPool.xNodes.map DNode.c), .sl false 4 (w.xCode.xList.map DInstr.c), .sl false 3 (w.xCode.xDefs.map DDef.c), .sc (.int .i64 w.xPlaces), .sl false 12 (w.xHomes.map DHome.c), .sl false 5 (w.xLinks.map DLink.c), .sl false 5 (w.xGrams.map DGram.c), .sl false 3 (w.xParked.map DParked.c), .sc (.int .i64 w.xNext), .sl false 1 (sssC w.xGave), .sl false 1 (sssC w.xTook)]] fun rs outs => rs = [bR (notB (gramOk w.xPlaces g))] ∧ outs = [[.sl false 5 (w.xCode.xPool.xNodes.map DNode.c), .sl false 4 (w.xCode.xList.map DInstr.c), .sl false 3 (w.xCode.xDefs.map DDef.c), .sc (.int .i64 w.xPlaces), .sl false 12 (w.xHomes.map DHome.c), .sl false 5 (w.xLinks.map DLink.c), .sl false 5 (w.xGrams.map DGram.c), .sl false 3 (w.xParked.map DParked.c), .sc (.int .i64 w.xNext), .sl false 1 (sssC w.xGave), .sl false 1 (sssC w.xTook)]] := by
  refine fn_ok (E := E23) τ_ok mixed Tryz.func116 (by rfl) (by rfl) false (by simp [Tryz.f116]) ?_
  conv => whnf
  refine (i_gramOk_ok g w.xPlaces hn).mono ?_
  rintro _ _ ⟨rfl, rfl⟩
  conv => whnf
  exact ⟨rfl, rfl⟩
set_option maxRecDepth 100000 in
theorem i_WorldOk2_ok (w : DWorld) (p : DParked) (hn : 1 ≤ w.xPlaces ∧ w.xPlaces ≤ 3) : FnV Tryz.prog 119 [.rdv true p.c, .mptr none [.sl false 5 (w.xCode.xPool.xNodes.map DNode.c), .sl false 4 (w.xCode.xList.map DInstr.c), .sl false 3 (w.xCode.xDefs.map DDef.c), .sc (.int .i64 w.xPlaces), .sl false 12 (w.xHomes.map DHome.c), .sl false 5 (w.xLinks.map DLink.c), .sl false 5 (w.xGrams.map DGram.c), .sl false 3 (w.xParked.map DParked.c), .sc (.int .i64 w.xNext), .sl false 1 (sssC w.xGave), .sl false 1 (sssC w.xTook)]] fun rs outs => rs = [bR (notB (decide (0 ≤ p.xAt ∧ p.xAt < w.xPlaces)))] ∧ outs = [[.sl false 5 (w.xCode.xPool.xNodes.map DNode.c), .sl false 4 (w.xCode.xList.map DInstr.c), .sl false 3 (w.xCode.xDefs.map DDef.c), .sc (.int .i64 w.xPlaces), .sl false 12 (w.xHomes.map DHome.c), .sl false 5 (w.xLinks.map DLink.c), .sl false 5 (w.xGrams.map DGram.c), .sl false 3 (w.xParked.map DParked.c), .sc (.int .i64 w.xNext), .sl false 1 (sssC w.xGave), .sl false 1 (sssC w.xTook)]] := by
  refine fn_ok (E := E23) τ_ok mixed Tryz.func119 (by rfl) (by rfl) false (by simp [Tryz.f119]) ?_
  conv => whnf
  refine (i_within_ok _ _ _).mono ?_
  rintro _ _ ⟨rfl, rfl⟩
  conv => whnf
  rw [wrp_i64 (by omega) (by omega), show (decide (0 ≤ p.xAt ∧ p.xAt ≤ w.xPlaces - 1)) = decide (0 ≤ p.xAt ∧ p.xAt < w.xPlaces) from decide_eq_decide.2 (by omega)]
  exact ⟨rfl, rfl⟩

set_option maxRecDepth 100000 in
theorem i_Grams_ix (w : DWorld) (hn : 1 ≤ w.xPlaces ∧ w.xPlaces ≤ 3) (xs : List DGram) (hl : xs.length ≤ 9223372036854775807) : FnV Tryz.prog 214 [.rdv false [.sl true 5 (xs.map (fun x : DGram => x.c))], .mptr (some 116) [.sl false 5 (w.xCode.xPool.xNodes.map DNode.c), .sl false 4 (w.xCode.xList.map DInstr.c), .sl false 3 (w.xCode.xDefs.map DDef.c), .sc (.int .i64 w.xPlaces), .sl false 12 (w.xHomes.map DHome.c), .sl false 5 (w.xLinks.map DLink.c), .sl false 5 (w.xGrams.map DGram.c), .sl false 3 (w.xParked.map DParked.c), .sc (.int .i64 w.xNext), .sl false 1 (sssC w.xGave), .sl false 1 (sssC w.xTook)]] fun rs outs => rs = [iR (fidx (fun x : DGram => notB (gramOk w.xPlaces x)) xs 0)] ∧ outs = [[.sl false 5 (w.xCode.xPool.xNodes.map DNode.c), .sl false 4 (w.xCode.xList.map DInstr.c), .sl false 3 (w.xCode.xDefs.map DDef.c), .sc (.int .i64 w.xPlaces), .sl false 12 (w.xHomes.map DHome.c), .sl false 5 (w.xLinks.map DLink.c), .sl false 5 (w.xGrams.map DGram.c), .sl false 3 (w.xParked.map DParked.c), .sc (.int .i64 w.xNext), .sl false 1 (sssC w.xGave), .sl false 1 (sssC w.xTook)]] := by
  refine fn_ok (E := E23) τ_ok mixed Tryz.func214 (by rfl) (by rfl) false (by simp [Tryz.f214]) ?_
  conv => whnf
  rw [List.length_map]
  refine ⟨fun m s => ∃ (k : Int), s = ⟨[(0, .vals false [.rd none 5 (xs.map (fun x : DGram => x.c))]), (1, .clo 116 1000001 0), (4, .vals false [.sc (.int .i64 0)]), (7, .vals false [.sc (.int .i64 (xs.length : Nat))]), (8, .vals false [.sc (.int .i64 k)])], [(1000001, ⟨0, [.rd none 5 (w.xCode.xPool.xNodes.map DNode.c), .rd none 4 (w.xCode.xList.map DInstr.c), .rd none 3 (w.xCode.xDefs.map DDef.c), .sc (.int .i64 w.xPlaces), .rd none 12 (w.xHomes.map DHome.c), .rd none 5 (w.xLinks.map DLink.c), .rd none 5 (w.xGrams.map DGram.c), .rd none 3 (w.xParked.map DParked.c), .sc (.int .i64 w.xNext), .rd none 1 (sssC w.xGave), .rd none 1 (sssC w.xTook)]⟩)], []⟩ ∧ m = xs.length - k.toNat ∧ 0 ≤ k ∧ k ≤ xs.length ∧ fidx (fun x : DGram => notB (gramOk w.xPlaces x)) (xs.drop k.toNat) k = fidx (fun x : DGram => notB (gramOk w.xPlaces x)) xs 0,
    ⟨_, _, norm_wk (keep := [0, 1, 4, 7, 8]) (kb := [1000001]) (ρ := []) rfl, ⟨0, rfl, rfl, by omega, by omega, rfl⟩⟩, ?_⟩
  rintro m _ ⟨k, rfl, rfl, k0, k1, hk⟩
  conv => whnf
  refine br_if (fun h => ?_) (fun h => ?_) <;> (try rw [h]) <;> (conv => whnf)
  · rw [ltI_t] at h
    obtain ⟨x, hx⟩ : ∃ x, xs[k.toNat]? = some x := ⟨_, List.getElem?_eq_getElem (by omega)⟩
    have hss := fidx_step (p := (fun x : DGram => notB (gramOk w.xPlaces x))) hx
    rw [Int.toNat_of_nonneg k0] at hss
    rw [hss] at hk
    refine ⟨by omega, _, by rw [List.getElem?_map, hx]; rfl, ?_⟩
    conv => whnf
    refine (i_WorldOk1_ok w x hn).mono ?_
    rintro _ _ ⟨rfl, rfl⟩
    conv => whnf
    refine br_if (fun h2 => ?_) (fun h2 => ?_) <;> (try rw [h2]) <;> (conv => whnf)
    · rw [if_pos h2] at hk
      rw [← hk]
      exact ⟨rfl, rfl⟩
    · rw [if_neg (by rw [h2]; decide)] at hk
      rw [wrp_i64 (x := k + 1) (by omega) (by omega)]
      have ek : (k + 1).toNat = k.toNat + 1 := by omega
      exact ⟨xs.length - (k + 1).toNat, _, by omega, norm_wk (keep := [0, 1, 4, 7, 8]) (kb := [1000001]) (ρ := []) rfl, ⟨k + 1, rfl, rfl, by omega, by omega, by rw [ek]; exact hk⟩⟩
  · rw [ltI_f] at h
    rw [List.drop_eq_nil_of_le (by omega)] at hk
    rw [← hk]
    exact ⟨rfl, rfl⟩

set_option maxRecDepth 100000 in
theorem i_Grams_cf (w : DWorld) (hn : 1 ≤ w.xPlaces ∧ w.xPlaces ≤ 3) (xs : List DGram) (hl : xs.length ≤ 9223372036854775807) : FnV Tryz.prog 115 [.rdv false [.sl true 5 (xs.map (fun x : DGram => x.c))], .mptr (some 116) [.sl false 5 (w.xCode.xPool.xNodes.map DNode.c), .sl false 4 (w.xCode.xList.map DInstr.c), .sl false 3 (w.xCode.xDefs.map DDef.c), .sc (.int .i64 w.xPlaces), .sl false 12 (w.xHomes.map DHome.c), .sl false 5 (w.xLinks.map DLink.c), .sl false 5 (w.xGrams.map DGram.c), .sl false 3 (w.xParked.map DParked.c), .sc (.int .i64 w.xNext), .sl false 1 (sssC w.xGave), .sl false 1 (sssC w.xTook)]] fun rs outs => rs = [bR (xs.any (fun x : DGram => notB (gramOk w.xPlaces x)))] ∧ outs = [[.sl false 5 (w.xCode.xPool.xNodes.map DNode.c), .sl false 4 (w.xCode.xList.map DInstr.c), .sl false 3 (w.xCode.xDefs.map DDef.c), .sc (.int .i64 w.xPlaces), .sl false 12 (w.xHomes.map DHome.c), .sl false 5 (w.xLinks.map DLink.c), .sl false 5 (w.xGrams.map DGram.c), .sl false 3 (w.xParked.map DParked.c), .sc (.int .i64 w.xNext), .sl false 1 (sssC w.xGave), .sl false 1 (sssC w.xTook)]] := by
  refine fn_ok (E := E23) τ_ok mixed Tryz.func115 (by rfl) (by rfl) false (by simp [Tryz.f115]) ?_
  conv => whnf
  refine (i_Grams_ix w hn xs hl).mono ?_
  rintro _ _ ⟨rfl, rfl⟩
  conv => whnf
  rw [fidx_any]
  exact ⟨rfl, rfl⟩

set_option maxRecDepth 100000 in
theorem i_Parked_ix (w : DWorld) (hn : 1 ≤ w.xPlaces ∧ w.xPlaces ≤ 3) (xs : List DParked) (hl : xs.length ≤ 9223372036854775807) : FnV Tryz.prog 215 [.rdv false [.sl true 3 (xs.map (fun x : DParked => x.c))], .mptr (some 119) [.sl false 5 (w.xCode.xPool.xNodes.map DNode.c), .sl false 4 (w.xCode.xList.map DInstr.c), .sl false 3 (w.xCode.xDefs.map DDef.c), .sc (.int .i64 w.xPlaces), .sl false 12 (w.xHomes.map DHome.c), .sl false 5 (w.xLinks.map DLink.c), .sl false 5 (w.xGrams.map DGram.c), .sl false 3 (w.xParked.map DParked.c), .sc (.int .i64 w.xNext), .sl false 1 (sssC w.xGave), .sl false 1 (sssC w.xTook)]] fun rs outs => rs = [iR (fidx (fun x : DParked => notB (decide (0 ≤ x.xAt ∧ x.xAt < w.xPlaces))) xs 0)] ∧ outs = [[.sl false 5 (w.xCode.xPool.xNodes.map DNode.c), .sl false 4 (w.xCode.xList.map DInstr.c), .sl false 3 (w.xCode.xDefs.map DDef.c), .sc (.int .i64 w.xPlaces), .sl false 12 (w.xHomes.map DHome.c), .sl false 5 (w.xLinks.map DLink.c), .sl false 5 (w.xGrams.map DGram.c), .sl false 3 (w.xParked.map DParked.c), .sc (.int .i64 w.xNext), .sl false 1 (sssC w.xGave), .sl false 1 (sssC w.xTook)]] := by
  refine fn_ok (E := E23) τ_ok mixed Tryz.func215 (by rfl) (by rfl) false (by simp [Tryz.f215]) ?_
  conv => whnf
  rw [List.length_map]
  refine ⟨fun m s => ∃ (k : Int), s = ⟨[(0, .vals false [.rd none 3 (xs.map (fun x : DParked => x.c))]), (1, .clo 119 1000001 0), (4, .vals false [.sc (.int .i64 0)]), (7, .vals false [.sc (.int .i64 (xs.length : Nat))]), (8, .vals false [.sc (.int .i64 k)])], [(1000001, ⟨0, [.rd none 5 (w.xCode.xPool.xNodes.map DNode.c), .rd none 4 (w.xCode.xList.map DInstr.c), .rd none 3 (w.xCode.xDefs.map DDef.c), .sc (.int .i64 w.xPlaces), .rd none 12 (w.xHomes.map DHome.c), .rd none 5 (w.xLinks.map DLink.c), .rd none 5 (w.xGrams.map DGram.c), .rd none 3 (w.xParked.map DParked.c), .sc (.int .i64 w.xNext), .rd none 1 (sssC w.xGave), .rd none 1 (sssC w.xTook)]⟩)], []⟩ ∧ m = xs.length - k.toNat ∧ 0 ≤ k ∧ k ≤ xs.length ∧ fidx (fun x : DParked => notB (decide (0 ≤ x.xAt ∧ x.xAt < w.xPlaces))) (xs.drop k.toNat) k = fidx (fun x : DParked => notB (decide (0 ≤ x.xAt ∧ x.xAt < w.xPlaces))) xs 0,
    ⟨_, _, norm_wk (keep := [0, 1, 4, 7, 8]) (kb := [1000001]) (ρ := []) rfl, ⟨0, rfl, rfl, by omega, by omega, rfl⟩⟩, ?_⟩
  rintro m _ ⟨k, rfl, rfl, k0, k1, hk⟩
  conv => whnf
  refine br_if (fun h => ?_) (fun h => ?_) <;> (try rw [h]) <;> (conv => whnf)
  · rw [ltI_t] at h
    obtain ⟨x, hx⟩ : ∃ x, xs[k.toNat]? = some x := ⟨_, List.getElem?_eq_getElem (by omega)⟩
    have hss := fidx_step (p := (fun x : DParked => notB (decide (0 ≤ x.xAt ∧ x.xAt < w.xPlaces)))) hx
    rw [Int.toNat_of_nonneg k0] at hss
    rw [hss] at hk
    refine ⟨by omega, _, by rw [List.getElem?_map, hx]; rfl, ?_⟩
    conv => whnf
    refine (i_WorldOk2_ok w x hn).mono ?_
    rintro _ _ ⟨rfl, rfl⟩
    conv => whnf
    refine br_if (fun h2 => ?_) (fun h2 => ?_) <;> (try rw [h2]) <;> (conv => whnf)
    · rw [if_pos h2] at hk
      rw [← hk]
      exact ⟨rfl, rfl⟩
    · rw [if_neg (by rw [h2]; decide)] at hk
      rw [wrp_i64 (x := k + 1) (by omega) (by omega)]
      have ek : (k + 1).toNat = k.toNat + 1 := by omega
      exact ⟨xs.length - (k + 1).toNat, _, by omega, norm_wk (keep := [0, 1, 4, 7, 8]) (kb := [1000001]) (ρ := []) rfl, ⟨k + 1, rfl, rfl, by omega, by omega, by rw [ek]; exact hk⟩⟩
  · rw [ltI_f] at h
    rw [List.drop_eq_nil_of_le (by omega)] at hk
    rw [← hk]
    exact ⟨rfl, rfl⟩

set_option maxRecDepth 100000 in
theorem i_Parked_cf (w : DWorld) (hn : 1 ≤ w.xPlaces ∧ w.xPlaces ≤ 3) (xs : List DParked) (hl : xs.length ≤ 9223372036854775807) : FnV Tryz.prog 118 [.rdv false [.sl true 3 (xs.map (fun x : DParked => x.c))], .mptr (some 119) [.sl false 5 (w.xCode.xPool.xNodes.map DNode.c), .sl false 4 (w.xCode.xList.map DInstr.c), .sl false 3 (w.xCode.xDefs.map DDef.c), .sc (.int .i64 w.xPlaces), .sl false 12 (w.xHomes.map DHome.c), .sl false 5 (w.xLinks.map DLink.c), .sl false 5 (w.xGrams.map DGram.c), .sl false 3 (w.xParked.map DParked.c), .sc (.int .i64 w.xNext), .sl false 1 (sssC w.xGave), .sl false 1 (sssC w.xTook)]] fun rs outs => rs = [bR (xs.any (fun x : DParked => notB (decide (0 ≤ x.xAt ∧ x.xAt < w.xPlaces))))] ∧ outs = [[.sl false 5 (w.xCode.xPool.xNodes.map DNode.c), .sl false 4 (w.xCode.xList.map DInstr.c), .sl false 3 (w.xCode.xDefs.map DDef.c), .sc (.int .i64 w.xPlaces), .sl false 12 (w.xHomes.map DHome.c), .sl false 5 (w.xLinks.map DLink.c), .sl false 5 (w.xGrams.map DGram.c), .sl false 3 (w.xParked.map DParked.c), .sc (.int .i64 w.xNext), .sl false 1 (sssC w.xGave), .sl false 1 (sssC w.xTook)]] := by
  refine fn_ok (E := E23) τ_ok mixed Tryz.func118 (by rfl) (by rfl) false (by simp [Tryz.f118]) ?_
  conv => whnf
  refine (i_Parked_ix w hn xs hl).mono ?_
  rintro _ _ ⟨rfl, rfl⟩
  conv => whnf
  rw [fidx_any]
  exact ⟨rfl, rfl⟩

set_option maxRecDepth 100000 in
set_option maxHeartbeats 1000000 in
theorem i_linksOk_ok (w : DWorld) (ho : w.ok) (hn : 1 ≤ w.xPlaces ∧ w.xPlaces ≤ 3) : FnV Tryz.prog 113 [wV w] fun rs outs => rs = [bR (linksOk w)] ∧ outs = [] := by
  refine fn_ok (E := E23) τ_ok mixed Tryz.func113 (by rfl) (by rfl) false (by simp [Tryz.f113]) ?_
  obtain ⟨-, -, -, ⟨oL, hL⟩, -, -, -, ⟨oG, -⟩, oT, -⟩ := ho
  have n9 : 1 ≤ w.xPlaces * w.xPlaces ∧ w.xPlaces * w.xPlaces ≤ 9 := by
    rcases (show w.xPlaces = 1 ∨ w.xPlaces = 2 ∨ w.xPlaces = 3 by omega) with h | h | h <;> rw [h] <;> omega
  have wn : wrp .i64 (w.xPlaces * w.xPlaces) = w.xPlaces * w.xPlaces := wrp_i64 (by omega) (by omega)
  have gl : (sssC w.xGave).length = w.xGave.length := List.length_map ..
  have tl : (sssC w.xTook).length = w.xTook.length := List.length_map ..
  have ll : (w.xLinks.map DLink.c).length = w.xLinks.length := List.length_map ..
  conv => whnf
  rw [wn]
  refine br_if (fun h1 => ?_) (fun h1 => ?_) <;> (try rw [h1]) <;> (conv => whnf)
  · exact bR_eq (linksOk_ff fun h => by rw [notB_t, eqI_f, ll] at h1; exact h1 h.1).symm
  rw [notB_f, eqI_t, ll] at h1
  refine br_if (fun h2 => ?_) (fun h2 => ?_) <;> (try rw [h2]) <;> (conv => whnf)
  · exact bR_eq (linksOk_ff fun h => by rw [notB_t, eqI_f, gl] at h2; exact h2 h.2.1).symm
  rw [notB_f, eqI_t, gl] at h2
  refine br_if (fun h3 => ?_) (fun h3 => ?_) <;> (try rw [h3]) <;> (conv => whnf)
  · exact bR_eq (linksOk_ff fun h => by rw [notB_t, eqI_f, tl] at h3; exact h3 h.2.2.1).symm
  rw [notB_f, eqI_t, tl] at h3
  refine ⟨fun m s => ∃ (k : Int), s = ⟨[(1, .bptr 1 0 0), (2, .vals false [.sc (.bool false)]), (31, .vals false [.rd none 5 (w.xLinks.map DLink.c)]), (32, .vals false [.sc (.int .i64 w.xLinks.length)]), (33, .vals false [.sc (.int .i64 k)])], [(1, ⟨0, w.x⟩)], []⟩ ∧ m = w.xLinks.length - k.toNat ∧ 0 ≤ k ∧ k ≤ w.xLinks.length ∧
      ∀ (i : Nat) (l : DLink), i < k.toNat → w.xLinks[i]? = some l → linkOk l = true ∧ (∀ g, w.xGave[i]? = some g → (g.length : Int) = l.xSent) ∧ ∀ g, w.xTook[i]? = some g → (g.length : Int) = l.xGot,
    ⟨_, _, norm_wk (keep := [1, 2, 31, 32, 33]) (kb := [1]) (ρ := []) rfl, ⟨0, by rw [ll], rfl, by omega, by omega, fun i l h => absurd h (by simp)⟩⟩, ?_⟩
  rintro m _ ⟨k, rfl, rfl, k0, k1, hk⟩
  conv => whnf
  refine br_if (fun h => ?_) (fun h => ?_) <;> (try rw [h]) <;> (conv => whnf)
  · rw [ltI_t] at h
    obtain ⟨x, hx⟩ : ∃ x, w.xLinks[k.toNat]? = some x := ⟨_, List.getElem?_eq_getElem (by omega)⟩
    obtain ⟨g, hg⟩ : ∃ x, w.xGave[k.toNat]? = some x := ⟨_, List.getElem?_eq_getElem (by omega)⟩
    obtain ⟨t, ht⟩ : ∃ x, w.xTook[k.toNat]? = some x := ⟨_, List.getElem?_eq_getElem (by omega)⟩
    have hg' : (sssC w.xGave)[k.toNat]? = some [.sl true 1 (ssC g)] := by rw [List.getElem?_map, hg]; rfl
    have ht' : (sssC w.xTook)[k.toNat]? = some [.sl true 1 (ssC t)] := by rw [List.getElem?_map, ht]; rfl
    have wk : wrp .i64 (k + 1) = k + 1 := wrp_i64 (by omega) (by omega)
    refine ⟨k0, _, by rw [List.getElem?_map, hx]; rfl, ?_⟩
    conv => whnf
    refine ⟨.one (.or 0 (.or 1 (.calm 2 (.calm 3 (.calm 4 (.calm 5 (.calm 6 (.calm 7 (.calm 8 (.calm 9 (.calm 10 (.calm 11 (.calm 12 (.calm 13 (.calm 14 (.calm 15 (.calm 16 (.calm 17 (.calm 18 (.calm 19 (.calm 20 (.calm 21 (.calm 22 (.calm 23 (.calm 24 .done))))))))))))))))))))))) .nil) .nil), by rfl, ?_⟩
    conv => whnf
    refine (i_LinkOk_ok x (hL x (List.mem_of_getElem? hx))).mono ?_
    rintro _ _ ⟨rfl, rfl⟩
    conv => whnf
    refine br_if (fun h4 => ?_) (fun h4 => ?_) <;> (try rw [h4]) <;> (conv => whnf)
    · exact bR_eq (linksOk_ff fun h => by rw [notB_t, (h.2.2.2 _ x hx).1] at h4; cases h4).symm
    rw [notB_f] at h4
    refine ⟨k0, _, hg', ?_⟩
    conv => whnf
    refine br_if (fun h5 => ?_) (fun h5 => ?_) <;> (try rw [h5]) <;> (conv => whnf)
    · exact bR_eq (linksOk_ff fun h => by rw [notB_t, eqI_f, ssC_len] at h5; exact h5 ((h.2.2.2 _ x hx).2.1 g hg)).symm
    rw [notB_f, eqI_t, ssC_len] at h5
    refine ⟨k0, _, ht', ?_⟩
    conv => whnf
    refine br_if (fun h6 => ?_) (fun h6 => ?_) <;> (try rw [h6]) <;> (conv => whnf)
    · exact bR_eq (linksOk_ff fun h => by rw [notB_t, eqI_f, ssC_len] at h6; exact h6 ((h.2.2.2 _ x hx).2.2 t ht)).symm
    rw [notB_f, eqI_t, ssC_len] at h6
    rw [wk]
    refine ⟨w.xLinks.length - (k + 1).toNat, _, by omega, norm_wk (keep := [1, 2, 31, 32, 33]) (kb := [1]) (ρ := []) rfl, ⟨k + 1, rfl, rfl, by omega, by omega, ?_⟩⟩
    intro i y hi hy
    by_cases e : i = k.toNat
    · subst e
      rw [hx] at hy
      cases hy
      refine ⟨h4, fun g' hg2 => ?_, fun g' hg2 => ?_⟩
      · rw [hg] at hg2; cases hg2; exact h5
      · rw [ht] at hg2; cases hg2; exact h6
    · exact hk i y (by omega) hy
  · rw [ltI_f] at h
    exact bR_eq (clB_t.2 ⟨h1, h2, h3, fun i y hy => hk i y (by have := (List.getElem?_eq_some_iff.1 hy).1; omega) hy⟩).symm

set_option maxRecDepth 100000 in
set_option maxHeartbeats 1000000 in
theorem i_WorldOk_ok (w : DWorld) (ho : w.ok) (hb : ∀ h ∈ w.xHomes, ∀ s ∈ h.xP.xBox, s.size ≤ 1000000000) : FnV Tryz.prog 29 [wV w] fun rs outs => rs = [bR (worldOk w)] ∧ outs = [] := by
  refine fn_ok (E := E23) τ_ok mixed Tryz.func29 (by rfl) (by rfl) false (by simp [Tryz.f29]) ?_
  obtain ⟨oC, -, ⟨oH, hH⟩, -, ⟨oG, -⟩, ⟨oP, -⟩, -⟩ := id ho
  have hl : (w.xHomes.map DHome.c).length = w.xHomes.length := List.length_map ..
  have gl : (w.xGrams.map DGram.c).length = w.xGrams.length := List.length_map ..
  have pl : (w.xParked.map DParked.c).length = w.xParked.length := List.length_map ..
  conv => whnf
  refine (i_CodeOk_ok w.xCode oC).mono ?_
  rintro _ _ ⟨rfl, rfl⟩
  conv => whnf
  refine br_if (fun h1 => ?_) (fun h1 => ?_) <;> (try rw [h1]) <;> (conv => whnf)
  · exact bR_eq (worldOk_ff fun h => by rw [notB_t, h.1] at h1; cases h1).symm
  rw [notB_f] at h1
  refine (i_within_ok _ _ _).mono ?_
  rintro _ _ ⟨rfl, rfl⟩
  conv => whnf
  refine br_if (fun h2 => ?_) (fun h2 => ?_) <;> (try rw [h2]) <;> (conv => whnf)
  · exact bR_eq (worldOk_ff fun h => by rw [notB_t, decide_eq_false_iff_not] at h2; exact h2 h.2.1).symm
  rw [notB_f, decide_eq_true_iff] at h2
  have wn : wrp .i64 (w.xPlaces - 1) = w.xPlaces - 1 := wrp_i64 (by omega) (by omega)
  refine br_if (fun h3 => ?_) (fun h3 => ?_) <;> (try rw [h3]) <;> (conv => whnf)
  · exact bR_eq (worldOk_ff fun h => by rw [ltI_t, hl] at h3; have := h.2.2.1; omega).symm
  rw [ltI_f, hl] at h3
  refine br_if (fun h4 => ?_) (fun h4 => ?_) <;> (try rw [h4]) <;> (conv => whnf)
  · exact bR_eq (worldOk_ff fun h => by rw [ltI_t, gl] at h4; have := h.2.2.2.1; omega).symm
  rw [ltI_f, gl] at h4
  refine br_if (fun h5 => ?_) (fun h5 => ?_) <;> (try rw [h5]) <;> (conv => whnf)
  · exact bR_eq (worldOk_ff fun h => by rw [ltI_t, pl] at h5; have := h.2.2.2.2.1; omega).symm
  rw [ltI_f, pl] at h5
  refine (i_within_ok _ _ _).mono ?_
  rintro _ _ ⟨rfl, rfl⟩
  conv => whnf
  refine br_if (fun h6 => ?_) (fun h6 => ?_) <;> (try rw [h6]) <;> (conv => whnf)
  · exact bR_eq (worldOk_ff fun h => by rw [notB_t, decide_eq_false_iff_not] at h6; exact h6 h.2.2.2.2.2.1).symm
  rw [notB_f, decide_eq_true_iff] at h6
  refine (i_linksOk_ok w ho h2).mono ?_
  rintro _ _ ⟨rfl, rfl⟩
  conv => whnf
  refine br_if (fun h7 => ?_) (fun h7 => ?_) <;> (try rw [h7]) <;> (conv => whnf)
  · exact bR_eq (worldOk_ff fun h => by rw [notB_t, h.2.2.2.2.2.2.1] at h7; cases h7).symm
  rw [notB_f] at h7
  refine ⟨fun m s => ∃ (k : Int), s = ⟨[(1, .bptr 1 0 0), (2, .vals false [.sc (.bool false)]), (45, .vals false [.rd none 12 (w.xHomes.map DHome.c)]), (46, .vals false [.sc (.int .i64 w.xHomes.length)]), (47, .vals false [.sc (.int .i64 k)])], [(1, ⟨0, w.x⟩)], []⟩ ∧ m = w.xHomes.length - k.toNat ∧ 0 ≤ k ∧ k ≤ w.xHomes.length ∧
      ∀ h ∈ w.xHomes.take k.toNat, (0 ≤ h.xAt ∧ h.xAt < w.xPlaces) ∧ procOk w.xCode h.xP = true,
    ⟨_, _, norm_wk (keep := [1, 2, 45, 46, 47]) (kb := [1]) (ρ := []) rfl, ⟨0, by rw [hl], rfl, by omega, by omega, by simp⟩⟩, ?_⟩
  rintro m _ ⟨k, rfl, rfl, k0, k1, hk⟩
  conv => whnf
  refine br_if (fun h => ?_) (fun h => ?_) <;> (try rw [h]) <;> (conv => whnf)
  · rw [ltI_t] at h
    obtain ⟨x, hx⟩ : ∃ x, w.xHomes[k.toNat]? = some x := ⟨_, List.getElem?_eq_getElem (by omega)⟩
    have hxm := List.mem_of_getElem? hx
    have wk : wrp .i64 (k + 1) = k + 1 := wrp_i64 (by omega) (by omega)
    refine ⟨k0, _, by rw [List.getElem?_map, hx]; rfl, ?_⟩
    conv => whnf
    refine (i_within_ok _ _ _).mono ?_
    rintro _ _ ⟨rfl, rfl⟩
    conv => whnf
    rw [wn]
    refine br_if (fun h8 => ?_) (fun h8 => ?_) <;> (try rw [h8]) <;> (conv => whnf)
    · exact bR_eq (worldOk_ff fun h => by
        rw [notB_t, decide_eq_false_iff_not] at h8
        have := (h.2.2.2.2.2.2.2.1 x hxm).1
        omega).symm
    rw [notB_f, decide_eq_true_iff] at h8
    refine (i_ProcOk_ok w.xCode x.xP oC (hH x hxm).2 (hb x hxm)).mono ?_
    rintro _ _ ⟨rfl, rfl⟩
    conv => whnf
    refine br_if (fun h9 => ?_) (fun h9 => ?_) <;> (try rw [h9]) <;> (conv => whnf)
    · exact bR_eq (worldOk_ff fun h => by rw [notB_t, (h.2.2.2.2.2.2.2.1 x hxm).2] at h9; cases h9).symm
    rw [notB_f] at h9
    rw [wk]
    refine ⟨w.xHomes.length - (k + 1).toNat, _, by omega, norm_wk (keep := [1, 2, 45, 46, 47]) (kb := [1]) (ρ := []) rfl, ⟨k + 1, rfl, rfl, by omega, by omega, ?_⟩⟩
    rw [show (k + 1).toNat = k.toNat + 1 by omega]
    exact all_snoc hx hk ⟨⟨by omega, by omega⟩, h9⟩
  rw [ltI_f] at h
  rw [List.take_of_length_le (by omega)] at hk
  refine (i_Grams_cf w h2 w.xGrams oG).mono ?_
  rintro _ _ ⟨rfl, rfl⟩
  conv => whnf
  refine br_if (fun h8 => ?_) (fun h8 => ?_) <;> (try rw [h8]) <;> (conv => whnf)
  · rw [notB_t, List.any_eq_false] at h8
    refine (i_Parked_cf w h2 w.xParked oP).mono ?_
    rintro _ _ ⟨rfl, rfl⟩
    conv => whnf
    refine bR_eq (Bool.eq_iff_iff.2 ?_)
    rw [worldOk_t, notB_t, List.any_eq_false]
    refine ⟨fun h => ⟨h1, h2, by omega, by omega, by omega, h6, h7, hk, fun g hg => ?_, fun p hp => ?_⟩, fun h p hp => ?_⟩
    · have := h8 g hg
      rw [Bool.not_eq_true, notB_f] at this
      exact this
    · have := h p hp
      rw [Bool.not_eq_true, notB_f, decide_eq_true_iff] at this
      exact this
    · rw [Bool.not_eq_true, notB_f, decide_eq_true_iff]
      exact h.2.2.2.2.2.2.2.2.2 p hp
  · rw [notB_f, List.any_eq_true] at h8
    obtain ⟨g, hg, h9⟩ := h8
    rw [notB_t] at h9
    exact bR_eq (worldOk_ff fun h => by rw [h.2.2.2.2.2.2.2.2.1 g hg] at h9; cases h9).symm

end Go.Proofs.YtcaonpncopfeoaaGreat.V
