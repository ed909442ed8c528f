/- Judges: of order, of queues. -/
import Derived.Test.YtcaonpncopfeoaaGreatQ24
set_option linter.unusedVariables false
set_option linter.unusedSimpArgs false
namespace Go.Proofs.YtcaonpncopfeoaaGreat.V
open Go

def MdE27 (f : Nat) : List Mode :=
  match f with
  | 27 => [.rd]
  | 29 => [.rd]
  | 125 => [.rd, .rd]
  | 126 => [.rd, .rd]
  | 127 => [.rd, .clo]
  | 128 => [.rd, .mptr]
  | 220 => [.rd, .clo]
  | _ => []
def E27 : Env := ⟨τ, MdE27⟩

@[reducible] def ssV (l : List ByteArray) : AV := .rdv false [.sl true 1 (ssC l)]
theorem ssC_at {l : List ByteArray} {k : Nat} {x : ByteArray} (h : l[k]? = some x) : (ssC l)[k]? = some [.sc (.string x)] := by rw [List.getElem?_map, h]; rfl
theorem take_eq_succ {α : Type} {a b : List α} {k : Nat} {x y : α} (ha : a[k]? = some x) (hb : b[k]? = some y) (h : a.take k = b.take k) (e : x = y) : a.take (k + 1) = b.take (k + 1) := by
  rw [List.take_add_one, List.take_add_one, ha, hb, h, e]

set_option maxRecDepth 100000 in
theorem sl_EqualS_ok (a b : List ByteArray) (ha : a.length ≤ 9223372036854775807) : FnV Tryz.prog 126 [ssV a, ssV b] fun rs outs => rs = [bR (clB (a = b))] ∧ outs = [] := by
  refine fn_ok (E := E27) τ_ok mixed Tryz.func126 (by rfl) (by rfl) false (by simp [Tryz.f126]) ?_
  conv => whnf
  rw [ssC_len, ssC_len]
  refine br_if (fun h0 => ?_) (fun h0 => ?_) <;> (try rw [h0]) <;> (conv => whnf)
  · rw [notB_t, eqI_f] at h0
    exact bR_eq (clB_f.2 fun e => h0 (by rw [e])).symm
  rw [notB_f, eqI_t] at h0
  refine ⟨fun m s => ∃ (k : Int), s = ⟨[(0, .vals false [.rd none 1 (ssC a)]), (1, .vals false [.rd none 1 (ssC b)]), (4, .vals false [.sc (.bool false)]), (12, .vals false [.sc (.int .i64 a.length)]), (13, .vals false [.sc (.int .i64 k)])], [], []⟩ ∧ m = a.length - k.toNat ∧ 0 ≤ k ∧ k ≤ a.length ∧ a.take k.toNat = b.take k.toNat,
    ⟨_, _, norm_wk (keep := [0, 1, 4, 12, 13]) (kb := []) (ρ := []) rfl, ⟨0, by rw [ssC_len], rfl, by omega, by omega, by simp⟩⟩, ?_⟩
  rintro m _ ⟨k, rfl, rfl, k0, k1, hk⟩
  conv => whnf
  refine br_if (fun h => ?_) (fun h => ?_) <;> (try rw [h]) <;> (conv => whnf)
  · rw [ltI_t] at h
    obtain ⟨x, hx⟩ : ∃ x, a[k.toNat]? = some x := ⟨_, List.getElem?_eq_getElem (by omega)⟩
    obtain ⟨y, hy⟩ : ∃ x, b[k.toNat]? = some x := ⟨_, List.getElem?_eq_getElem (by omega)⟩
    refine ⟨.one (.calm 0 (.calm 1 (.calm 2 (.calm 3 (.calm 4 (.calm 5 (.calm 6 (.calm 7 (.calm 8 .done))))))))), by rfl, ?_⟩
    conv => whnf
    refine ⟨k0, _, ssC_at hx, ?_⟩
    conv => whnf
    refine ⟨k0, _, ssC_at hy, ?_⟩
    conv => whnf
    refine br_if (fun h2 => ?_) (fun h2 => ?_) <;> (try rw [h2]) <;> (conv => whnf)
    · rw [notB_t, eqStr_f] at h2
      exact bR_eq (clB_f.2 fun e => h2 (by subst e; rw [hx] at hy; cases hy; rfl)).symm
    · rw [notB_f, eqStr_t] at h2
      rw [wrp_i64 (x := k + 1) (by omega) (by omega)]
      refine ⟨a.length - (k + 1).toNat, _, by omega, norm_wk (keep := [0, 1, 4, 12, 13]) (kb := []) (ρ := []) rfl, ⟨k + 1, rfl, rfl, by omega, by omega, ?_⟩⟩
      rw [show (k + 1).toNat = k.toNat + 1 by omega]
      exact take_eq_succ hx hy hk h2
  · rw [ltI_f] at h
    rw [List.take_of_length_le (by omega), List.take_of_length_le (by omega)] at hk
    exact bR_eq (clB_t.2 hk).symm

set_option maxRecDepth 100000 in
theorem i_begins_ok (a b : List ByteArray) (ha : a.length ≤ 9223372036854775807) (hb : b.length ≤ 9223372036854775807) : FnV Tryz.prog 125 [ssV a, ssV b] fun rs outs => rs = [bR (clB (a.length ≤ b.length ∧ a = b.take a.length))] ∧ outs = [] := by
  refine fn_ok (E := E27) τ_ok mixed Tryz.func125 (by rfl) (by rfl) false (by simp [Tryz.f125]) ?_
  have h1 := ssC_len a
  have h2 := ssC_len b
  conv => whnf
  rw [h1, h2]
  refine br_if (fun h => ?_) (fun h => ?_) <;> (try rw [h]) <;> (conv => whnf)
  · rw [leI_t] at h
    refine ⟨by omega, by omega, by omega, ?_⟩
    conv => whnf
    have e : ((ssC b).take ((((ssC a).length : Nat) : Int)).toNat).drop (Int.toNat 0) = ssC (b.take a.length) := by
      rw [Int.toNat_natCast, h1, ssC, ssC, ← List.map_take]
      rfl
    rw [e]
    refine (sl_EqualS_ok a (b.take a.length) ha).mono ?_
    rintro _ _ ⟨rfl, rfl⟩
    conv => whnf
    refine bR_eq (Bool.eq_iff_iff.2 ?_)
    rw [clB_t, clB_t]
    exact ⟨fun h2 => ⟨by omega, h2⟩, fun h2 => h2.2⟩
  · rw [leI_f] at h
    exact bR_eq (clB_f.2 fun h2 => by omega).symm

def OrdOk (w : DWorld) : Prop := ∀ (i : Nat) (t g : List ByteArray), w.xTook[i]? = some t → w.xGave[i]? = some g → t.length ≤ g.length ∧ t = g.take t.length
noncomputable def judgeO (w : DWorld) : Bool := clB (worldOk w = true ∧ OrdOk w)

/-- What is known of a world that is right. -/
theorem world_parts {w : DWorld} (h : worldOk w = true) : (1 ≤ w.xPlaces ∧ w.xPlaces ≤ 3) ∧ LinksOk w := by
  obtain ⟨-, h1, -, -, -, -, h2, -⟩ := worldOk_t.1 h
  exact ⟨h1, clB_t.1 h2⟩
theorem places9 {n : Int} (h : 1 ≤ n ∧ n ≤ 3) : 1 ≤ n * n ∧ n * n ≤ 9 := by
  rcases (show n = 1 ∨ n = 2 ∨ n = 3 by omega) with h | h | h <;> rw [h] <;> omega
/-- A link, and what it gave and took. -/
theorem link_at {w : DWorld} (h : worldOk w = true) {i : Nat} (hi : i < w.xLinks.length) : ∃ l g t, w.xLinks[i]? = some l ∧ w.xGave[i]? = some g ∧ w.xTook[i]? = some t ∧ LinkOk l ∧ (g.length : Int) = l.xSent ∧ (t.length : Int) = l.xGot := by
  obtain ⟨h1, h2, h3, h4, h5⟩ := world_parts h
  obtain ⟨l, hl⟩ : ∃ x, w.xLinks[i]? = some x := ⟨_, List.getElem?_eq_getElem (by omega)⟩
  obtain ⟨g, hg⟩ : ∃ x, w.xGave[i]? = some x := ⟨_, List.getElem?_eq_getElem (by omega)⟩
  obtain ⟨t, ht⟩ : ∃ x, w.xTook[i]? = some x := ⟨_, List.getElem?_eq_getElem (by omega)⟩
  obtain ⟨a, b, c⟩ := h5 i l hl
  exact ⟨l, g, t, hl, hg, ht, linkOk_t.1 a, b g hg, c t ht⟩
theorem sssC_len (l : List (List ByteArray)) : (sssC l).length = l.length := List.length_map ..
theorem sssC_at {l : List (List ByteArray)} {k : Nat} {x : List ByteArray} (h : l[k]? = some x) : (sssC l)[k]? = some [.sl true 1 (ssC x)] := by rw [List.getElem?_map, h]; rfl
theorem lkC_len (l : List DLink) : (l.map DLink.c).length = l.length := List.length_map ..
theorem lkC_at {l : List DLink} {k : Nat} {x : DLink} (h : l[k]? = some x) : (l.map DLink.c)[k]? = some x.c := by rw [List.getElem?_map, h]; rfl

set_option maxRecDepth 100000 in
set_option maxHeartbeats 1000000 in
theorem i_JudgeOrder_ok (w : DWorld) (ho : w.ok) (hb : ∀ h ∈ w.xHomes, ∀ s ∈ h.xP.xBox, s.size ≤ 1000000000) : FnV Tryz.prog 32 [wV w] fun rs outs => rs = [bR (judgeO w)] ∧ outs = [] := by
  refine fn_ok (E := E27) τ_ok mixed Tryz.func32 (by rfl) (by rfl) false (by simp [Tryz.f32]) ?_
  conv => whnf
  refine (i_WorldOk_ok w ho hb).mono ?_
  rintro _ _ ⟨rfl, rfl⟩
  conv => whnf
  refine br_if (fun h1 => ?_) (fun h1 => ?_) <;> (try rw [h1]) <;> (conv => whnf)
  · exact bR_eq (clB_f.2 fun h => by rw [notB_t, h.1] at h1; cases h1).symm
  rw [notB_f] at h1
  obtain ⟨p1, p2, p3, p4, -⟩ := world_parts h1
  have n9 := places9 p1
  rw [sssC_len]
  refine ⟨fun m s => ∃ (k : Int), s = ⟨[(1, .bptr 1 0 0), (2, .vals false [.sc (.bool false)]), (9, .vals false [.rd none 1 (sssC w.xTook)]), (10, .vals false [.sc (.int .i64 w.xTook.length)]), (11, .vals false [.sc (.int .i64 k)])], [(1, ⟨0, w.x⟩)], []⟩ ∧ m = w.xTook.length - k.toNat ∧ 0 ≤ k ∧ k ≤ w.xTook.length ∧
      ∀ (i : Nat) (t g : List ByteArray), i < k.toNat → w.xTook[i]? = some t → w.xGave[i]? = some g → t.length ≤ g.length ∧ t = g.take t.length,
    ⟨_, _, norm_wk (keep := [1, 2, 9, 10, 11]) (kb := [1]) (ρ := []) rfl, ⟨0, rfl, rfl, by omega, by omega, fun i t g h => absurd h (by simp)⟩⟩, ?_⟩
  rintro m _ ⟨k, rfl, rfl, k0, k1, hk⟩
  conv => whnf
  refine br_if (fun h => ?_) (fun h => ?_) <;> (try rw [h]) <;> (conv => whnf)
  · rw [ltI_t] at h
    obtain ⟨l, g, t, hl, hg, ht, lo, lg, lt⟩ := link_at h1 (i := k.toNat) (by omega)
    have := lo.1
    have := lo.2.1
    refine ⟨k0, _, sssC_at ht, ?_⟩
    conv => whnf
    refine ⟨k0, _, sssC_at hg, ?_⟩
    conv => whnf
    refine (i_begins_ok t g (by omega) (by omega)).mono ?_
    rintro _ _ ⟨rfl, rfl⟩
    conv => whnf
    refine br_if (fun h2 => ?_) (fun h2 => ?_) <;> (try rw [h2]) <;> (conv => whnf)
    · rw [notB_t, clB_f] at h2
      exact bR_eq (clB_f.2 fun h3 => h2 (h3.2 k.toNat t g ht hg)).symm
    · rw [notB_f, clB_t] at h2
      rw [wrp_i64 (x := k + 1) (by omega) (by omega)]
      refine ⟨w.xTook.length - (k + 1).toNat, _, by omega, norm_wk (keep := [1, 2, 9, 10, 11]) (kb := [1]) (ρ := []) rfl, ⟨k + 1, rfl, rfl, by omega, by omega, ?_⟩⟩
      intro i t' g' hi ht' hg'
      by_cases e : i = k.toNat
      · subst e
        rw [ht] at ht'
        rw [hg] at hg'
        cases ht'
        cases hg'
        exact h2
      · exact hk i t' g' (by omega) ht' hg'
  · rw [ltI_f] at h
    exact bR_eq (clB_t.2 ⟨h1, fun i t g ht hg => hk i t g (by have := (List.getElem?_eq_some_iff.1 ht).1; omega) ht hg⟩).symm

set_option maxRecDepth 100000 in
set_option maxHeartbeats 1000000 in
theorem s_JudgeOrder_ok (w : DWorld) (ho : w.ok) (hb : ∀ h ∈ w.xHomes, ∀ s ∈ h.xP.xBox, s.size ≤ 1000000000) : FnV Tryz.prog 31 [wV w] fun rs outs => rs = [bR (judgeO w)] ∧ outs = [] := by
  refine fn_ok (E := E27) τ_ok mixed Tryz.func31 (by rfl) (by rfl) false (by simp [Tryz.f31]) ?_
  conv => whnf
  refine (s_WorldOk_ok w ho hb).mono ?_
  rintro _ _ ⟨rfl, rfl⟩
  conv => whnf
  refine br_if (fun h1 => ?_) (fun h1 => ?_) <;> (try rw [h1]) <;> (conv => whnf)
  · exact bR_eq (clB_f.2 fun h => by rw [notB_t, h.1] at h1; cases h1).symm
  rw [notB_f] at h1
  obtain ⟨p1, p2, p3, p4, -⟩ := world_parts h1
  have n9 := places9 p1
  refine ⟨fun m s => ∃ (k : Int), s = ⟨[(1, .bptr 1 0 0), (2, .vals false [.sc (.bool false)]), (3, .vals false [.sc (.int .i64 k)])], [(1, ⟨0, w.x⟩)], []⟩ ∧ m = w.xLinks.length - k.toNat ∧ 0 ≤ k ∧ k ≤ w.xLinks.length ∧
      ∀ (i : Nat) (t g : List ByteArray), i < k.toNat → w.xTook[i]? = some t → w.xGave[i]? = some g → t.length ≤ g.length ∧ t = g.take t.length,
    ⟨_, _, norm_wk (keep := [1, 2, 3]) (kb := [1]) (ρ := []) rfl, ⟨0, rfl, rfl, by omega, by omega, fun i t g h => absurd h (by simp)⟩⟩, ?_⟩
  rintro m _ ⟨k, rfl, rfl, k0, k1, hk⟩
  conv => whnf
  rw [lkC_len]
  refine br_if (fun h => ?_) (fun h => ?_) <;> (try rw [h]) <;> (conv => whnf)
  · rw [ltI_t] at h
    obtain ⟨l, g, t, hl, hg, ht, lo, lg, lt⟩ := link_at h1 (i := k.toNat) (by omega)
    have := lo.1
    have := lo.2.1
    refine ⟨fun m s => ∃ (j : Int), s = ⟨[(1, .bptr 1 0 0), (2, .vals false [.sc (.bool false)]), (3, .vals false [.sc (.int .i64 k)]), (4, .vals false [.sc (.int .i64 j)])], [(1, ⟨0, w.x⟩)], []⟩ ∧ m = t.length - j.toNat ∧ 0 ≤ j ∧ j ≤ t.length ∧ t.take j.toNat = g.take j.toNat,
      ⟨_, _, norm_wk (keep := [1, 2, 3, 4]) (kb := [1]) (ρ := []) rfl, ⟨0, rfl, rfl, by omega, by omega, by simp⟩⟩, ?_⟩
    rintro m _ ⟨j, rfl, rfl, j0, j1, hj⟩
    conv => whnf
    refine ⟨k0, _, sssC_at ht, ?_⟩
    conv => whnf
    rw [ssC_len]
    refine br_if (fun h2 => ?_) (fun h2 => ?_) <;> (try rw [h2]) <;> (conv => whnf)
    · rw [ltI_t] at h2
      obtain ⟨x, hx⟩ : ∃ x, t[j.toNat]? = some x := ⟨_, List.getElem?_eq_getElem (by omega)⟩
      obtain ⟨y, hy⟩ : ∃ x, g[j.toNat]? = some x := ⟨_, List.getElem?_eq_getElem (by omega)⟩
      refine ⟨.one (.calm 0 (.calm 1 (.calm 2 (.calm 3 (.calm 4 (.calm 5 (.calm 6 (.calm 7 (.calm 8 (.calm 9 (.calm 10 (.calm 11 (.calm 12 (.calm 13 (.calm 14 (.calm 15 (.calm 16 .done))))))))))))))))), by rfl, ?_⟩
      conv => whnf
      repeat (first
        | (refine ⟨k0, _, sssC_at ht, ?_⟩; conv => whnf)
        | (refine ⟨k0, _, sssC_at hg, ?_⟩; conv => whnf)
        | (refine ⟨j0, _, ssC_at hx, ?_⟩; conv => whnf)
        | (refine ⟨j0, _, ssC_at hy, ?_⟩; conv => whnf))
      refine br_if (fun h3 => ?_) (fun h3 => ?_) <;> (try rw [h3]) <;> (conv => whnf)
      · rw [notB_t, eqStr_f] at h3
        refine bR_eq (clB_f.2 fun h4 => h3 ?_).symm
        have h5 := (h4.2 k.toNat t g ht hg).2
        have h6 : t[j.toNat]? = g[j.toNat]? := by
          rw [h5, List.getElem?_take]
          simp
          omega
        rw [hx, hy] at h6
        cases h6
        rfl
      · rw [notB_f, eqStr_t] at h3
        rw [wrp_i64 (x := j + 1) (by omega) (by omega)]
        refine ⟨t.length - (j + 1).toNat, _, by omega, norm_wk (keep := [1, 2, 3, 4]) (kb := [1]) (ρ := []) rfl, ⟨j + 1, rfl, rfl, by omega, by omega, ?_⟩⟩
        rw [show (j + 1).toNat = j.toNat + 1 by omega]
        exact take_eq_succ hx hy hj h3
    · rw [ltI_f] at h2
      rw [wrp_i64 (x := k + 1) (by omega) (by omega)]
      refine ⟨w.xLinks.length - (k + 1).toNat, _, by omega, norm_wk (keep := [1, 2, 3]) (kb := [1]) (ρ := []) rfl, ⟨k + 1, rfl, rfl, by omega, by omega, ?_⟩⟩
      intro i t' g' hi ht' hg'
      by_cases e : i = k.toNat
      · subst e
        rw [ht] at ht'
        rw [hg] at hg'
        cases ht'
        cases hg'
        rw [show j.toNat = t.length by omega, List.take_length] at hj
        exact ⟨by omega, hj⟩
      · exact hk i t' g' (by omega) ht' hg'
  · rw [ltI_f] at h
    exact bR_eq (clB_t.2 ⟨h1, fun i t g ht hg => hk i t g (by have := (List.getElem?_eq_some_iff.1 ht).1; omega) ht hg⟩).symm

/-! ### queues -/
def QueueOk (l : DLink) (g : List ByteArray) : Prop := l.xQueue = g.drop (g.length - l.xQueue.length) ∧ ∀ p ∈ l.xHeld, g[p.xNo.toNat]? = some p.xText
def QueuesOk (w : DWorld) : Prop := ∀ (i : Nat) (l : DLink) (g : List ByteArray), w.xLinks[i]? = some l → w.xGave[i]? = some g → QueueOk l g
noncomputable def judgeQ (w : DWorld) : Bool := clB (worldOk w = true ∧ QueuesOk w)

noncomputable def badP (g : List ByteArray) (p : DPiece) : Bool := clB (g[p.xNo.toNat]? ≠ some p.xText)
set_option maxRecDepth 100000 in
theorem i_JudgeQueue1_ok (g : List ByteArray) (hg : g.length ≤ 9223372036854775807) (p : DPiece) (h0 : 0 ≤ p.xNo) : FnV Tryz.prog 128 [.rdv true p.c, .mptr none [.sl false 1 (ssC g)]] fun rs outs => rs = [bR (badP g p)] ∧ outs = [[.sl false 1 (ssC g)]] := by
  refine fn_ok (E := E27) τ_ok mixed Tryz.func128 (by rfl) (by rfl) false (by simp [Tryz.f128]) ?_
  have hl := ssC_len g
  have fin : ∀ {x y : Bool}, x = y → [bR x] = [bR y] ∧ [[C.sl false 1 (ssC g)]] = [[C.sl false 1 (ssC g)]] := fun h => ⟨by rw [h], rfl⟩
  conv => whnf
  refine ⟨.one (.calm 0 (.calm 1 (.calm 2 (.calm 3 (.calm 4 (.calm 5 (.calm 6 (.calm 7 (.calm 8 (.calm 9 (.calm 10 (.calm 11 (.calm 12 (.calm 13 (.calm 14 (.calm 15 .done)))))))))))))))), by rfl, ?_⟩
  conv => whnf
  refine br_if (fun hL => ?_) (fun hL => ?_) <;> (try rw [hL]) <;> (conv => whnf)
  · rw [leI_t] at hL
    refine fin (clB_t.2 ?_).symm
    rw [List.getElem?_eq_none (by omega)]
    simp
  · rw [leI_f] at hL
    obtain ⟨y, hy⟩ : ∃ x, g[p.xNo.toNat]? = some x := ⟨_, List.getElem?_eq_getElem (by omega)⟩
    refine ⟨h0, _, ssC_at hy, ?_⟩
    conv => whnf
    refine fin (Bool.eq_iff_iff.2 ?_)
    unfold badP
    rw [notB_t, eqStr_f, clB_t, hy]
    simp

set_option maxRecDepth 100000 in
theorem i_Held_ix (g : List ByteArray) (hg : g.length ≤ 9223372036854775807) (xs : List DPiece) (hl : xs.length ≤ 9223372036854775807) (hs : ∀ x ∈ xs, 0 ≤ x.xNo) : FnV Tryz.prog 220 [.rdv false [.sl true 2 (xs.map (fun x : DPiece => x.c))], .mptr (some 128) [.sl false 1 (ssC g)]] fun rs outs => rs = [iR (fidx (fun x : DPiece => badP g x) xs 0)] ∧ outs = [[.sl false 1 (ssC g)]] := by
  refine fn_ok (E := E27) τ_ok mixed Tryz.func220 (by rfl) (by rfl) false (by simp [Tryz.f220]) ?_
  conv => whnf
  rw [List.length_map]
  refine ⟨fun m s => ∃ (k : Int), s = ⟨[(0, .vals false [.rd none 2 (xs.map (fun x : DPiece => x.c))]), (1, .clo 128 1000001 0), (4, .vals false [.sc (.int .i64 0)]), (7, .vals false [.sc (.int .i64 (xs.length : Nat))]), (8, .vals false [.sc (.int .i64 k)])], [(1000001, ⟨0, [.rd none 1 (ssC g)]⟩)], []⟩ ∧ m = xs.length - k.toNat ∧ 0 ≤ k ∧ k ≤ xs.length ∧ fidx (fun x : DPiece => badP g x) (xs.drop k.toNat) k = fidx (fun x : DPiece => badP g x) xs 0,
    ⟨_, _, norm_wk (keep := [0, 1, 4, 7, 8]) (kb := [1000001]) (ρ := []) rfl, ⟨0, rfl, rfl, by omega, by omega, rfl⟩⟩, ?_⟩
  rintro m _ ⟨k, rfl, rfl, k0, k1, hk⟩
  conv => whnf
  refine br_if (fun h => ?_) (fun h => ?_) <;> (try rw [h]) <;> (conv => whnf)
  · rw [ltI_t] at h
    obtain ⟨x, hx⟩ : ∃ x, xs[k.toNat]? = some x := ⟨_, List.getElem?_eq_getElem (by omega)⟩
    have hss := fidx_step (p := (fun x : DPiece => badP g x)) hx
    rw [Int.toNat_of_nonneg k0] at hss
    rw [hss] at hk
    refine ⟨by omega, _, by rw [List.getElem?_map, hx]; rfl, ?_⟩
    conv => whnf
    refine (i_JudgeQueue1_ok g hg x (hs x (List.mem_of_getElem? hx))).mono ?_
    rintro _ _ ⟨rfl, rfl⟩
    conv => whnf
    refine br_if (fun h2 => ?_) (fun h2 => ?_) <;> (try rw [h2]) <;> (conv => whnf)
    · rw [if_pos h2] at hk
      rw [← hk]
      exact ⟨rfl, rfl⟩
    · rw [if_neg (by rw [h2]; decide)] at hk
      rw [wrp_i64 (x := k + 1) (by omega) (by omega)]
      have ek : (k + 1).toNat = k.toNat + 1 := by omega
      exact ⟨xs.length - (k + 1).toNat, _, by omega, norm_wk (keep := [0, 1, 4, 7, 8]) (kb := [1000001]) (ρ := []) rfl, ⟨k + 1, rfl, rfl, by omega, by omega, by rw [ek]; exact hk⟩⟩
  · rw [ltI_f] at h
    rw [List.drop_eq_nil_of_le (by omega)] at hk
    rw [← hk]
    exact ⟨rfl, rfl⟩

set_option maxRecDepth 100000 in
theorem i_Held_cf (g : List ByteArray) (hg : g.length ≤ 9223372036854775807) (xs : List DPiece) (hl : xs.length ≤ 9223372036854775807) (hs : ∀ x ∈ xs, 0 ≤ x.xNo) : FnV Tryz.prog 127 [.rdv false [.sl true 2 (xs.map (fun x : DPiece => x.c))], .mptr (some 128) [.sl false 1 (ssC g)]] fun rs outs => rs = [bR (xs.any (fun x : DPiece => badP g x))] ∧ outs = [[.sl false 1 (ssC g)]] := by
  refine fn_ok (E := E27) τ_ok mixed Tryz.func127 (by rfl) (by rfl) false (by simp [Tryz.f127]) ?_
  conv => whnf
  refine (i_Held_ix g hg xs hl hs).mono ?_
  rintro _ _ ⟨rfl, rfl⟩
  conv => whnf
  rw [fidx_any]
  exact ⟨rfl, rfl⟩

theorem queue_parts {l : DLink} {g : List ByteArray} (h : LinkOk l) (hg : (g.length : Int) = l.xSent) : l.xQueue.length ≤ g.length ∧ (g.length : Int) - l.xQueue.length = l.xAcked ∧ ∀ p ∈ l.xHeld, 1 ≤ p.xNo ∧ p.xNo < g.length := by
  obtain ⟨h1, h2, h3, h4, h5, h6⟩ := h
  refine ⟨by omega, by omega, fun p hp => ?_⟩
  obtain ⟨i, hi⟩ := List.getElem?_of_mem hp
  obtain ⟨a, -⟩ := h6 i p hi
  omega

set_option maxRecDepth 100000 in
set_option maxHeartbeats 1000000 in
theorem i_JudgeQueue_ok (w : DWorld) (ho : w.ok) (hb : ∀ h ∈ w.xHomes, ∀ s ∈ h.xP.xBox, s.size ≤ 1000000000) : FnV Tryz.prog 34 [wV w] fun rs outs => rs = [bR (judgeQ w)] ∧ outs = [] := by
  refine fn_ok (E := E27) τ_ok mixed Tryz.func34 (by rfl) (by rfl) false (by simp [Tryz.f34]) ?_
  conv => whnf
  refine (i_WorldOk_ok w ho hb).mono ?_
  rintro _ _ ⟨rfl, rfl⟩
  conv => whnf
  refine br_if (fun h1 => ?_) (fun h1 => ?_) <;> (try rw [h1]) <;> (conv => whnf)
  · exact bR_eq (clB_f.2 fun h => by rw [notB_t, h.1] at h1; cases h1).symm
  rw [notB_f] at h1
  obtain ⟨p1, p2, p3, p4, -⟩ := world_parts h1
  have n9 := places9 p1
  rw [lkC_len]
  refine ⟨fun m s => ∃ (k : Int), s = ⟨[(1, .bptr 1 0 0), (2, .vals false [.sc (.bool false)]), (10, .vals false [.rd none 5 (w.xLinks.map DLink.c)]), (11, .vals false [.sc (.int .i64 w.xLinks.length)]), (12, .vals false [.sc (.int .i64 k)])], [(1, ⟨0, w.x⟩)], []⟩ ∧ m = w.xLinks.length - k.toNat ∧ 0 ≤ k ∧ k ≤ w.xLinks.length ∧
      ∀ (i : Nat) (l : DLink) (g : List ByteArray), i < k.toNat → w.xLinks[i]? = some l → w.xGave[i]? = some g → QueueOk l g,
    ⟨_, _, norm_wk (keep := [1, 2, 10, 11, 12]) (kb := [1]) (ρ := []) rfl, ⟨0, rfl, rfl, by omega, by omega, fun i l g h => absurd h (by simp)⟩⟩, ?_⟩
  rintro m _ ⟨k, rfl, rfl, k0, k1, hk⟩
  conv => whnf
  refine br_if (fun h => ?_) (fun h => ?_) <;> (try rw [h]) <;> (conv => whnf)
  · rw [ltI_t] at h
    obtain ⟨l, g, t, hl, hg, ht, lo, lg, lt⟩ := link_at h1 (i := k.toNat) (by omega)
    obtain ⟨q1, q2, q3⟩ := queue_parts lo lg
    have := lo.1
    refine ⟨k0, _, lkC_at hl, ?_⟩
    conv => whnf
    refine ⟨k0, _, sssC_at hg, ?_⟩
    conv => whnf
    have gl := ssC_len g
    have ql := ssC_len l.xQueue
    have wd : wrp .i64 ((((ssC g).length : Nat) : Int) - (((ssC l.xQueue).length : Nat) : Int)) = (g.length : Int) - l.xQueue.length := by rw [gl, ql]; exact wrp_i64 (by omega) (by omega)
    have e : ((ssC g).take ((((ssC g).length : Nat) : Int)).toNat).drop (wrp .i64 ((((ssC g).length : Nat) : Int) - (((ssC l.xQueue).length : Nat) : Int))).toNat = ssC (g.drop (g.length - l.xQueue.length)) := by
      rw [Int.toNat_natCast, List.take_length, wd, ssC, ssC, ← List.map_drop, show ((g.length : Int) - l.xQueue.length).toNat = g.length - l.xQueue.length by omega]
    refine ⟨.take 0 (.take 5 (.or 1 (.or 2 (.or 3 (.take 4 (.or 6 (.take 7 (.take 8 (.or 9 (.or 10 (.take 11 .done) .nil) .nil))) .nil)) (.or 6 (.take 7 (.or 3 (.take 4 (.take 8 (.or 9 (.or 10 (.take 11 .done) .nil) .nil))) .nil)) .nil)) (.or 3 (.take 4 (.or 2 (.or 6 (.take 7 (.take 8 (.or 9 (.or 10 (.take 11 .done) .nil) .nil))) .nil) (.or 6 (.take 7 (.take 8 (.or 2 (.or 9 (.or 10 (.take 11 .done) .nil) .nil) .nil))) .nil))) (.or 6 (.take 7 (.or 2 (.or 3 (.take 4 (.take 8 (.or 9 (.or 10 (.take 11 .done) .nil) .nil))) .nil) (.or 3 (.take 4 (.take 8 (.or 2 (.or 9 (.or 10 (.take 11 .done) .nil) .nil) .nil))) .nil))) .nil))) (.or 2 (.or 1 (.or 3 (.take 4 (.or 6 (.take 7 (.take 8 (.or 9 (.or 10 (.take 11 .done) .nil) .nil))) .nil)) (.or 6 (.take 7 (.or 3 (.take 4 (.take 8 (.or 9 (.or 10 (.take 11 .done) .nil) .nil))) .nil)) .nil)) (.or 3 (.take 4 (.or 1 (.or 6 (.take 7 (.take 8 (.or 9 (.or 10 (.take 11 .done) .nil) .nil))) .nil) (.or 6 (.take 7 (.take 8 (.or 1 (.or 9 (.or 10 (.take 11 .done) .nil) .nil) (.or 9 (.or 1 (.or 10 (.take 11 .done) .nil) .nil) .nil)))) .nil))) (.or 6 (.take 7 (.or 1 (.or 3 (.take 4 (.take 8 (.or 9 (.or 10 (.take 11 .done) .nil) .nil))) .nil) (.or 3 (.take 4 (.take 8 (.or 1 (.or 9 (.or 10 (.take 11 .done) .nil) .nil) (.or 9 (.or 1 (.or 10 (.take 11 .done) .nil) .nil) .nil)))) .nil))) .nil))) (.or 3 (.take 4 (.or 1 (.or 2 (.or 6 (.take 7 (.take 8 (.or 9 (.or 10 (.take 11 .done) .nil) .nil))) .nil) (.or 6 (.take 7 (.take 8 (.or 2 (.or 9 (.or 10 (.take 11 .done) .nil) .nil) .nil))) .nil)) (.or 2 (.or 1 (.or 6 (.take 7 (.take 8 (.or 9 (.or 10 (.take 11 .done) .nil) .nil))) .nil) (.or 6 (.take 7 (.take 8 (.or 1 (.or 9 (.or 10 (.take 11 .done) .nil) .nil) (.or 9 (.or 1 (.or 10 (.take 11 .done) .nil) .nil) .nil)))) .nil)) (.or 6 (.take 7 (.take 8 (.or 1 (.or 2 (.or 9 (.or 10 (.take 11 .done) .nil) .nil) .nil) (.or 2 (.or 1 (.or 9 (.or 10 (.take 11 .done) .nil) .nil) (.or 9 (.or 1 (.or 10 (.take 11 .done) .nil) .nil) .nil)) .nil)))) .nil)))) (.or 6 (.take 7 (.or 1 (.or 2 (.or 3 (.take 4 (.take 8 (.or 9 (.or 10 (.take 11 .done) .nil) .nil))) .nil) (.or 3 (.take 4 (.take 8 (.or 2 (.or 9 (.or 10 (.take 11 .done) .nil) .nil) .nil))) .nil)) (.or 2 (.or 1 (.or 3 (.take 4 (.take 8 (.or 9 (.or 10 (.take 11 .done) .nil) .nil))) .nil) (.or 3 (.take 4 (.take 8 (.or 1 (.or 9 (.or 10 (.take 11 .done) .nil) .nil) (.or 9 (.or 1 (.or 10 (.take 11 .done) .nil) .nil) .nil)))) .nil)) (.or 3 (.take 4 (.take 8 (.or 1 (.or 2 (.or 9 (.or 10 (.take 11 .done) .nil) .nil) .nil) (.or 2 (.or 1 (.or 9 (.or 10 (.take 11 .done) .nil) .nil) (.or 9 (.or 1 (.or 10 (.take 11 .done) .nil) .nil) .nil)) .nil)))) .nil)))) .nil))))), by rfl, ?_⟩
    apply Exists.intro
    refine ⟨?_, ?_⟩
    · conv => whnf
      repeat' (first
        | (refine ⟨rfl, ?_⟩; conv => whnf)
        | (refine ⟨by rw [wd]; omega, by rw [wd]; omega, by omega, ?_⟩; conv => whnf)
        | (rw [e]; refine (sl_EqualS_ok l.xQueue (g.drop (g.length - l.xQueue.length)) (by omega)).mono ?_; rintro _ _ ⟨rfl, rfl⟩; conv => whnf)
        | exact norm_wk (keep := [1, 2, 3, 10, 11, 12, 4, 5, 33]) (kb := [1, 4, 5]) (ρ := []) rfl
        | (refine ⟨?_, ?_⟩ <;> conv => whnf)
        | fail)
    conv => whnf
    refine br_if (fun h2 => ?_) (fun h2 => ?_) <;> (try rw [h2]) <;> (conv => whnf)
    · rw [notB_t, clB_f] at h2
      exact bR_eq (clB_f.2 fun h3 => h2 (h3.2 k.toNat l g hl hg).1).symm
    rw [notB_f, clB_t] at h2
    have hlo : l.xHeld.length ≤ 9223372036854775807 := by
      obtain ⟨-, -, -, ⟨-, hL⟩, -⟩ := ho
      obtain ⟨-, -, -, -, hh⟩ := hL l (List.mem_of_getElem? hl)
      exact hh.1
    refine (i_Held_cf g (by omega) l.xHeld hlo (fun p hp => by have := q3 p hp; omega)).mono ?_
    rintro _ _ ⟨rfl, rfl⟩
    conv => whnf
    refine br_if (fun h3 => ?_) (fun h3 => ?_) <;> (try rw [h3]) <;> (conv => whnf)
    · rw [List.any_eq_true] at h3
      obtain ⟨p, hp, hb'⟩ := h3
      unfold badP at hb'
      rw [clB_t] at hb'
      exact bR_eq (clB_f.2 fun h4 => hb' ((h4.2 k.toNat l g hl hg).2 p hp)).symm
    · rw [List.any_eq_false] at h3
      rw [wrp_i64 (x := k + 1) (by omega) (by omega)]
      refine ⟨w.xLinks.length - (k + 1).toNat, _, by omega, norm_wk (keep := [1, 2, 10, 11, 12]) (kb := [1]) (ρ := []) rfl, ⟨k + 1, rfl, rfl, by omega, by omega, ?_⟩⟩
      intro i l' g' hi hl' hg'
      by_cases e : i = k.toNat
      · subst e
        rw [hl] at hl'
        rw [hg] at hg'
        cases hl'
        cases hg'
        refine ⟨h2, fun p hp => ?_⟩
        have := h3 p hp
        unfold badP at this
        rw [clB_t] at this
        exact Classical.byContradiction this
      · exact hk i l' g' (by omega) hl' hg'
  · rw [ltI_f] at h
    exact bR_eq (clB_t.2 ⟨h1, fun i l g hl hg => hk i l g (by have := (List.getElem?_eq_some_iff.1 hl).1; omega) hl hg⟩).symm

theorem pcC_at {l : List DPiece} {k : Nat} {x : DPiece} (h : l[k]? = some x) : (l.map DPiece.c)[k]? = some x.c := by rw [List.getElem?_map, h]; rfl
set_option maxRecDepth 100000 in
set_option maxHeartbeats 2000000 in
theorem s_JudgeQueue_ok (w : DWorld) (ho : w.ok) (hb : ∀ h ∈ w.xHomes, ∀ s ∈ h.xP.xBox, s.size ≤ 1000000000) : FnV Tryz.prog 33 [wV w] fun rs outs => rs = [bR (judgeQ w)] ∧ outs = [] := by
  refine fn_ok (E := E27) τ_ok mixed Tryz.func33 (by rfl) (by rfl) false (by simp [Tryz.f33]) ?_
  conv => whnf
  refine (s_WorldOk_ok w ho hb).mono ?_
  rintro _ _ ⟨rfl, rfl⟩
  conv => whnf
  refine br_if (fun h1 => ?_) (fun h1 => ?_) <;> (try rw [h1]) <;> (conv => whnf)
  · exact bR_eq (clB_f.2 fun h => by rw [notB_t, h.1] at h1; cases h1).symm
  rw [notB_f] at h1
  obtain ⟨p1, p2, p3, p4, -⟩ := world_parts h1
  have n9 := places9 p1
  refine ⟨fun m s => ∃ (k : Int), s = ⟨[(1, .bptr 1 0 0), (2, .vals false [.sc (.bool false)]), (3, .vals false [.sc (.int .i64 k)])], [(1, ⟨0, w.x⟩)], []⟩ ∧ m = w.xLinks.length - k.toNat ∧ 0 ≤ k ∧ k ≤ w.xLinks.length ∧
      ∀ (i : Nat) (l : DLink) (g : List ByteArray), i < k.toNat → w.xLinks[i]? = some l → w.xGave[i]? = some g → QueueOk l g,
    ⟨_, _, norm_wk (keep := [1, 2, 3]) (kb := [1]) (ρ := []) rfl, ⟨0, rfl, rfl, by omega, by omega, fun i l g h => absurd h (by simp)⟩⟩, ?_⟩
  rintro m _ ⟨k, rfl, rfl, k0, k1, hk⟩
  conv => whnf
  rw [lkC_len]
  refine br_if (fun h => ?_) (fun h => ?_) <;> (try rw [h]) <;> (conv => whnf)
  · rw [ltI_t] at h
    obtain ⟨l, g, t, hl, hg, ht, lo, lg, lt⟩ := link_at h1 (i := k.toNat) (by omega)
    obtain ⟨q1, q2, q3⟩ := queue_parts lo lg
    have lo1 := lo.1
    have lo2 := lo.2.1
    have lo3 := lo.2.2.1
    refine ⟨k0, _, lkC_at hl, ?_⟩
    conv => whnf
    refine ⟨fun m s => ∃ (j : Int), s = ⟨[(1, .bptr 1 0 0), (2, .vals false [.sc (.bool false)]), (3, .vals false [.sc (.int .i64 k)]), (4, .bptr 4 0 0), (5, .vals false [.sc (.int .i64 j)])], [(1, ⟨0, w.x⟩), (4, ⟨0, l.x⟩)], []⟩ ∧ m = l.xQueue.length - j.toNat ∧ 0 ≤ j ∧ j ≤ l.xQueue.length ∧
        ∀ i : Nat, i < j.toNat → l.xQueue[i]? = g[l.xAcked.toNat + i]?,
      ⟨_, _, norm_wk (keep := [1, 2, 3, 4, 5]) (kb := [1, 4]) (ρ := []) rfl, ⟨0, rfl, rfl, by omega, by omega, fun i h => absurd h (by simp)⟩⟩, ?_⟩
    rintro m _ ⟨j, rfl, rfl, j0, j1, hj⟩
    conv => whnf
    rw [ssC_len]
    refine br_if (fun h2 => ?_) (fun h2 => ?_) <;> (try rw [h2]) <;> (conv => whnf)
    · rw [ltI_t] at h2
      obtain ⟨x, hx⟩ : ∃ x, l.xQueue[j.toNat]? = some x := ⟨_, List.getElem?_eq_getElem (by omega)⟩
      obtain ⟨y, hy⟩ : ∃ x, g[(l.xAcked + j).toNat]? = some x := ⟨_, List.getElem?_eq_getElem (by omega)⟩
      have wj : wrp .i64 (l.xAcked + j) = l.xAcked + j := wrp_i64 (by omega) (by omega)
      have aj0 : 0 ≤ l.xAcked + j := by omega
      refine ⟨.one (.calm 0 (.calm 1 (.calm 2 (.calm 3 (.calm 4 (.calm 5 (.calm 6 (.calm 7 (.calm 8 (.calm 9 (.calm 10 (.calm 11 (.calm 12 (.calm 13 (.calm 14 (.calm 15 (.calm 16 .done))))))))))))))))), by rfl, ?_⟩
      conv => whnf
      repeat (first
        | (rw [wj])
        | (refine ⟨k0, _, sssC_at hg, ?_⟩; conv => whnf)
        | (refine ⟨j0, _, ssC_at hx, ?_⟩; conv => whnf)
        | (refine ⟨aj0, _, ssC_at hy, ?_⟩; conv => whnf))
      refine br_if (fun h3 => ?_) (fun h3 => ?_) <;> (try rw [h3]) <;> (conv => whnf)
      · rw [notB_t, eqStr_f] at h3
        refine bR_eq (clB_f.2 fun h4 => h3 ?_).symm
        have h5 := (h4.2 k.toNat l g hl hg).1
        have h6 : l.xQueue[j.toNat]? = g[(l.xAcked + j).toNat]? := by
          rw [h5, List.getElem?_drop]
          congr 1
          omega
        rw [hx, hy] at h6
        cases h6
        rfl
      · rw [notB_f, eqStr_t] at h3
        rw [wrp_i64 (x := j + 1) (by omega) (by omega)]
        refine ⟨l.xQueue.length - (j + 1).toNat, _, by omega, norm_wk (keep := [1, 2, 3, 4, 5]) (kb := [1, 4]) (ρ := []) rfl, ⟨j + 1, rfl, rfl, by omega, by omega, ?_⟩⟩
        intro i hi
        by_cases e : i = j.toNat
        · subst e
          rw [hx, show l.xAcked.toNat + j.toNat = (l.xAcked + j).toNat by omega, hy, h3]
        · exact hj i (by omega)
    · rw [ltI_f] at h2
      have hq : l.xQueue = g.drop (g.length - l.xQueue.length) := by
        apply List.ext_getElem?
        intro i
        rw [List.getElem?_drop]
        rcases Nat.lt_or_ge i l.xQueue.length with hi | hi
        · rw [hj i (by omega)]
          congr 1
          omega
        · rw [List.getElem?_eq_none hi, List.getElem?_eq_none (by omega)]
      refine ⟨fun m s => ∃ (j : Int), s = ⟨[(1, .bptr 1 0 0), (2, .vals false [.sc (.bool false)]), (3, .vals false [.sc (.int .i64 k)]), (4, .bptr 4 0 0), (6, .vals false [.sc (.int .i64 j)])], [(1, ⟨0, w.x⟩), (4, ⟨0, l.x⟩)], []⟩ ∧ m = l.xHeld.length - j.toNat ∧ 0 ≤ j ∧ j ≤ l.xHeld.length ∧
          ∀ p ∈ l.xHeld.take j.toNat, g[p.xNo.toNat]? = some p.xText,
        ⟨_, _, norm_wk (keep := [1, 2, 3, 4, 6]) (kb := [1, 4]) (ρ := []) rfl, ⟨0, rfl, rfl, by omega, by omega, by simp⟩⟩, ?_⟩
      rintro m _ ⟨i, rfl, rfl, i0, i1, hi⟩
      conv => whnf
      rw [List.length_map]
      refine br_if (fun h4 => ?_) (fun h4 => ?_) <;> (try rw [h4]) <;> (conv => whnf)
      · rw [ltI_t] at h4
        obtain ⟨p, hp⟩ : ∃ x, l.xHeld[i.toNat]? = some x := ⟨_, List.getElem?_eq_getElem (by omega)⟩
        have hpm := List.mem_of_getElem? hp
        have hpq := q3 p hpm
        have p0 : 0 ≤ p.xNo := by omega
        obtain ⟨y, hy⟩ : ∃ x, g[p.xNo.toNat]? = some x := ⟨_, List.getElem?_eq_getElem (by omega)⟩
        have hlo : l.xHeld.length ≤ 9223372036854775807 := by
          obtain ⟨-, -, -, ⟨-, hL⟩, -⟩ := ho
          obtain ⟨-, -, -, -, hh⟩ := hL l (List.mem_of_getElem? hl)
          exact hh.1
        refine ⟨.one (.calm 0 (.calm 1 (.calm 2 (.calm 3 (.calm 4 (.calm 5 (.calm 6 (.calm 7 (.calm 8 (.calm 9 (.calm 10 (.calm 11 (.calm 12 (.calm 13 (.calm 14 (.calm 15 (.calm 16 (.calm 17 (.calm 18 (.calm 19 .done)))))))))))))))))))), by rfl, ?_⟩
        conv => whnf
        repeat (first
          | (refine ⟨k0, _, sssC_at hg, ?_⟩; conv => whnf)
          | (refine ⟨i0, _, pcC_at hp, ?_⟩; conv => whnf)
          | (refine ⟨p0, _, ssC_at hy, ?_⟩; conv => whnf))
        refine br_if (fun h5 => ?_) (fun h5 => ?_) <;> (try rw [h5]) <;> (conv => whnf)
        · rw [notB_t, eqStr_f] at h5
          refine bR_eq (clB_f.2 fun h6 => h5 ?_).symm
          have h7 := (h6.2 k.toNat l g hl hg).2 p hpm
          rw [hy] at h7
          cases h7
          rfl
        · rw [notB_f, eqStr_t] at h5
          rw [wrp_i64 (x := i + 1) (by omega) (by omega)]
          refine ⟨l.xHeld.length - (i + 1).toNat, _, by omega, norm_wk (keep := [1, 2, 3, 4, 6]) (kb := [1, 4]) (ρ := []) rfl, ⟨i + 1, rfl, rfl, by omega, by omega, ?_⟩⟩
          rw [show (i + 1).toNat = i.toNat + 1 by omega]
          exact all_snoc hp hi (by rw [hy, h5])
      · rw [ltI_f] at h4
        rw [List.take_of_length_le (by omega)] at hi
        rw [wrp_i64 (x := k + 1) (by omega) (by omega)]
        refine ⟨w.xLinks.length - (k + 1).toNat, _, by omega, norm_wk (keep := [1, 2, 3]) (kb := [1]) (ρ := []) rfl, ⟨k + 1, rfl, rfl, by omega, by omega, ?_⟩⟩
        intro q l' g' hi' hl' hg'
        by_cases e : q = k.toNat
        · subst e
          rw [hl] at hl'
          rw [hg] at hg'
          cases hl'
          cases hg'
          exact ⟨hq, hi⟩
        · exact hk q l' g' (by omega) hl' hg'
  · rw [ltI_f] at h
    exact bR_eq (clB_t.2 ⟨h1, fun i l g hl hg => hk i l g (by have := (List.getElem?_eq_some_iff.1 hl).1; omega) hl hg⟩).symm

end Go.Proofs.YtcaonpncopfeoaaGreat.V
