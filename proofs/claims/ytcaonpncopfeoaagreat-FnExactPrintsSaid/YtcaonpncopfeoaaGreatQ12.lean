/- Nodes put behind others, with what they hang on: l7Into, moveIn. -/
import Derived.Test.YtcaonpncopfeoaaGreatQ11
set_option linter.unusedVariables false
set_option linter.unusedSimpArgs false
namespace Go.Proofs.YtcaonpncopfeoaaGreat.V
open Go

def MdE12 (f : Nat) : List Mode :=
  match f with
  | 332 => [.pp [true], .rd]
  | 345 => [.pp [true], .rd]
  | 394 => [.rd, .rd]
  | _ => []
def E12 : Env := ⟨τ, MdE12⟩

def kid (l : List Int) (a : Int) : Int := (l[a.toNat]?).getD 0
def rmp (l : List Int) (x : DNode) : DNode :=
  if x.xKind = 5 then { x with xA := kid l x.xA, xB := kid l x.xB } else if x.xKind = 6 ∨ x.xKind = 7 then { x with xA := kid l x.xA } else x
/-- The nodes, and where each is, after so many. -/
def mvS (d : Int) (is : List Bool) (q pre : List DNode) : Nat → List DNode × List Int
  | 0 => (pre, [])
  | k + 1 => match q[k]? with
    | none => mvS d is q pre k
    | some x => if is[k]? = some true then ((mvS d is q pre k).1 ++ [rmp (mvS d is q pre k).2 x], (mvS d is q pre k).2 ++ [((mvS d is q pre k).1.length : Int)])
      else ((mvS d is q pre k).1, (mvS d is q pre k).2 ++ [d])
theorem mvS_yes {d : Int} {is : List Bool} {q pre : List DNode} {k : Nat} {x : DNode} (hx : q[k]? = some x) (h : is[k]? = some true) :
    mvS d is q pre (k + 1) = ((mvS d is q pre k).1 ++ [rmp (mvS d is q pre k).2 x], (mvS d is q pre k).2 ++ [((mvS d is q pre k).1.length : Int)]) := by
  simp only [mvS, hx, h, if_true]
theorem mvS_no {d : Int} {is : List Bool} {q pre : List DNode} {k : Nat} {x : DNode} (hx : q[k]? = some x) (h : is[k]? = some false) :
    mvS d is q pre (k + 1) = ((mvS d is q pre k).1, (mvS d is q pre k).2 ++ [d]) := by
  simp [mvS, hx, h]
theorem mvS_no' {d : Int} {is : List Bool} {q pre : List DNode} {k : Nat} {x : DNode} (hx : q[k]? = some x) (h : is[k]? ≠ some true) :
    mvS d is q pre (k + 1) = ((mvS d is q pre k).1, (mvS d is q pre k).2 ++ [d]) := by
  simp only [mvS, hx, if_neg h]
theorem mvS_len {d : Int} {is : List Bool} {q pre : List DNode} : ∀ {k : Nat}, k ≤ q.length → (mvS d is q pre k).2.length = k ∧ (mvS d is q pre k).1.length ≤ pre.length + k ∧ pre.length ≤ (mvS d is q pre k).1.length
  | 0, _ => ⟨rfl, Nat.le_refl _, Nat.le_refl _⟩
  | k + 1, h => by
    obtain ⟨h1, h2, h3⟩ := mvS_len (d := d) (is := is) (q := q) (pre := pre) (k := k) (by omega)
    have hq : q[k]? = some q[k] := List.getElem?_eq_getElem (by omega)
    by_cases hi : is[k]? = some true
    · rw [mvS_yes hq hi]
      simp only [List.length_append, List.length_singleton]
      omega
    · rw [mvS_no' hq hi]
      simp only [List.length_append, List.length_singleton]
      omega

def pad (n : Nat) (l : List Int) : List Int := l ++ List.replicate (n - l.length) 0
theorem pad_len {n : Nat} {l : List Int} (h : l.length ≤ n) : (pad n l).length = n := by simp [pad]; omega
theorem pad_set {n : Nat} {l : List Int} (h : l.length < n) (v : Int) : (pad n l).set l.length v = pad n (l ++ [v]) := by
  unfold pad
  rw [List.set_append_right _ _ (Nat.le_refl _), Nat.sub_self, show n - l.length = (n - (l ++ [v]).length) + 1 by simp; omega, List.replicate_succ, List.set_cons_zero, List.append_assoc]
  rfl
theorem pad_zero {n : Nat} {l : List Int} (h : l.length < n) : (pad n l)[l.length]? = some 0 := by
  unfold pad
  rw [List.getElem?_append_right (Nat.le_refl _), Nat.sub_self, List.getElem?_replicate]
  simp [show 0 < n - l.length by omega]
theorem pad_full {n : Nat} {l : List Int} (h : l.length = n) : pad n l = l := by simp [pad, h]
theorem pad_nil (n : Nat) : pad n [] = List.replicate n 0 := by simp [pad]
theorem pad_kid {n : Nat} {l : List Int} {a : Int} (h0 : 0 ≤ a) (h1 : a < l.length) : (nnC (pad n l))[a.toNat]? = some [.sc (.int .i64 (kid l a))] := by
  have : l[a.toNat]? = some l[a.toNat] := List.getElem?_eq_getElem (by omega)
  rw [List.getElem?_map, pad, List.getElem?_append_left (by omega), kid, this]
  rfl
theorem pad_snoc {n : Nat} {l : List Int} (h : l.length < n) : pad n (l ++ [0]) = pad n l := by
  rw [← pad_set h 0]
  apply List.ext_getElem?
  intro i
  rw [List.getElem?_set]
  split
  · rename_i e
    subst e
    rw [if_pos (by rw [pad_len (by omega)]; exact h), pad_zero h]
  · rfl
theorem pad_last {n : Nat} {l : List Int} (h : l.length < n) : (nnC (pad n l))[l.length]? = some [.sc (.int .i64 0)] := by
  rw [List.getElem?_map, pad_zero h]
  rfl
theorem rmp_5 {l : List Int} {x : DNode} (h : x.xKind = 5) : rmp l x = { x with xA := kid l x.xA, xB := kid l x.xB } := by simp [rmp, h]
theorem rmp_67 {l : List Int} {x : DNode} (h : x.xKind = 6 ∨ x.xKind = 7) : rmp l x = { x with xA := kid l x.xA } := by
  rcases h with h | h <;> simp [rmp, h]
theorem rmp_o {l : List Int} {x : DNode} (h5 : x.xKind ≠ 5) (h6 : x.xKind ≠ 6) (h7 : x.xKind ≠ 7) : rmp l x = x := by simp [rmp, h5, h6, h7]
theorem nnC_set (v : List Int) (i : Nat) (y : Int) : (nnC v).set i [.sc (.int .i64 y)] = nnC (v.set i y) := by rw [nnC, nnC, List.map_set]
theorem nnC_len (v : List Int) : (nnC v).length = v.length := List.length_map ..
theorem bbC_len (v : List Bool) : (bbC v).length = v.length := List.length_map ..
theorem npC_len (v : List DNode) : (npC v).length = v.length := List.length_map ..
@[reducible] def bbV (v : List Bool) : AV := .rdv false [.sl true 1 (bbC v)]
@[reducible] def nnR (v : List Int) : RV := ⟨false, [.own true 1 (nnC v)]⟩

set_option maxRecDepth 100000 in
set_option maxHeartbeats 1000000 in
theorem s_l7Into_ok (pre : List DNode) (q : DPool) (is : List Bool) (hpre : pre.length ≤ 400000) (hl : q.xNodes.length ≤ 400000) (hq : poolOk q.xNodes = true) (hi : is.length = q.xNodes.length) :
    FnV Tryz.prog 369 [ppV pre, pV q, bbV is] fun rs outs => rs = [nnR (mvS 0 is q.xNodes pre q.xNodes.length).2] ∧ outs = [[.sl true 5 (npC (mvS 0 is q.xNodes pre q.xNodes.length).1)]] := by
  refine fn_ok (E := E12) τ_ok mixed Tryz.func369 (by rfl) (by rfl) false (by simp [Tryz.f369]) ?_
  have hnl : (q.xNodes.map DNode.c).length = q.xNodes.length := List.length_map ..
  have hrep : List.replicate (((q.xNodes.map DNode.c).length : Int)).toNat (List.map zC d3.zero) = nnC (pad q.xNodes.length []) := by
    rw [List.length_map, Int.toNat_natCast, nnC, pad_nil, List.map_replicate]
    rfl
  conv => whnf
  refine ⟨by omega, rfl, by rw [hnl]; simp only [d3]; omega, by omega, ?_⟩
  rw [hrep]
  conv => whnf
  refine ⟨fun m s => ∃ (k : Int), s = ⟨[(0, .bptr 1000000 0 0), (2, .vals false [.rd none 1 (bbC is)]), (4, .bptr 4 0 0), (7, .vals false [.ref 100 0]), (8, .vals false [.sc (.int .i64 k)])],
      [(1000000, ⟨0, [.ref 200 0]⟩), (4, ⟨0, [.rd none 5 (npC q.xNodes)]⟩)],
      [(200, ⟨true, 0, 0, true, 5, npC (mvS 0 is q.xNodes pre k.toNat).1⟩), (100, ⟨true, 0, 0, true, 1, nnC (pad q.xNodes.length (mvS 0 is q.xNodes pre k.toNat).2)⟩)]⟩ ∧ m = q.xNodes.length - k.toNat ∧ 0 ≤ k ∧ k ≤ q.xNodes.length,
    ⟨_, _, norm_wk (keep := [0, 2, 4, 7, 8]) (kb := [1000000, 4]) (ρ := [(2000000, some 200), (13, some 100)]) rfl, ⟨0, rfl, rfl, by omega, by omega⟩⟩, ?_⟩
  rintro m _ ⟨k, rfl, rfl, k0, k1⟩
  conv => whnf
  refine br_if (fun h => ?_) (fun h => ?_) <;> (try rw [h]) <;> (conv => whnf)
  · rw [ltI_t] at h
    try rw [hnl] at h
    obtain ⟨x, hx⟩ : ∃ x, q.xNodes[k.toNat]? = some x := ⟨_, List.getElem?_eq_getElem (by omega)⟩
    obtain ⟨b, hvb, hat⟩ := bbC_at (v := is) k0 (by omega)
    obtain ⟨l1, l2, l3⟩ := mvS_len (d := 0) (is := is) (q := q.xNodes) (pre := pre) (k := k.toNat) (by omega)
    have wk : wrp .i64 (k + 1) = k + 1 := wrp_i64 (by omega) (by omega)
    have ek : (k + 1).toNat = k.toNat + 1 := by omega
    have setl : (nnC (pad q.xNodes.length (mvS 0 is q.xNodes pre k.toNat).2)).length = q.xNodes.length := by rw [nnC_len, pad_len (by omega)]
    have hk0 : (nnC (pad q.xNodes.length (mvS 0 is q.xNodes pre k.toNat).2))[k.toNat]? = some [.sc (.int .i64 0)] := by
      have := pad_last (n := q.xNodes.length) (l := (mvS 0 is q.xNodes pre k.toNat).2) (by omega)
      rwa [l1] at this
    have hset : ∀ y : Int, (nnC (pad q.xNodes.length (mvS 0 is q.xNodes pre k.toNat).2)).set k.toNat [.sc (.int .i64 y)] = nnC (pad q.xNodes.length ((mvS 0 is q.xNodes pre k.toNat).2 ++ [y])) := fun y => by
      rw [nnC_set, ← pad_set (by omega), l1]
    refine ⟨k0, _, hat, ?_⟩
    conv => whnf
    refine br_if (fun h2 => ?_) (fun h2 => ?_) <;> (try rw [h2]) <;> (conv => whnf)
    · rw [notB_t] at h2
      subst h2
      rw [wk]
      refine ⟨q.xNodes.length - (k + 1).toNat, _, by omega, norm_wk (keep := [0, 2, 4, 7, 8]) (kb := [1000000, 4]) (ρ := [(200, some 200), (100, some 100)]) rfl, ⟨k + 1, ?_, rfl, by omega, by omega⟩⟩
      rw [ek, mvS_no hx hvb, pad_snoc (by omega)]
      try rfl
    rw [notB_f] at h2
    subst h2
    refine ⟨k0, _, by rw [List.getElem?_map, hx]; rfl, ?_⟩
    conv => whnf
    refine br_if (fun h5 => ?_) (fun h5 => ?_) <;> (try rw [h5]) <;> (conv => whnf)
    · rw [eqI_t] at h5
      obtain ⟨⟨a0, a1⟩, b0, b1⟩ := kids_5 hq hx h5
      have hA := pad_kid (n := q.xNodes.length) (l := (mvS 0 is q.xNodes pre k.toNat).2) a0 (by omega)
      have hB := pad_kid (n := q.xNodes.length) (l := (mvS 0 is q.xNodes pre k.toNat).2) b0 (by omega)
      refine ⟨a0, by rw [setl]; omega, ?_⟩
      conv => whnf
      refine ⟨_, hA, ?_⟩
      conv => whnf
      refine ⟨b0, by rw [setl]; omega, ?_⟩
      conv => whnf
      refine ⟨_, hB, ?_⟩
      conv => whnf
      refine (s_l2Add_ok (mvS 0 is q.xNodes pre k.toNat).1 { x with xA := kid (mvS 0 is q.xNodes pre k.toNat).2 x.xA, xB := kid (mvS 0 is q.xNodes pre k.toNat).2 x.xB } (by omega)).mono ?_
      rintro _ _ ⟨rfl, rfl⟩
      conv => whnf
      refine ⟨k0, by rw [setl]; omega, ?_⟩
      conv => whnf
      refine ⟨_, hk0, ?_⟩
      conv => whnf
      rw [wk]
      refine ⟨q.xNodes.length - (k + 1).toNat, _, by omega, norm_wk (keep := [0, 2, 4, 7, 8]) (kb := [1000000, 4]) (ρ := [(200, some 200), (100, some 100)]) rfl, ⟨k + 1, ?_, rfl, by omega, by omega⟩⟩
      rw [ek, mvS_yes hx hvb, rmp_5 h5, ← hset _]
      try rfl
    rw [eqI_f] at h5
    refine br_if (fun h6 => ?_) (fun h6 => ?_) <;> (try rw [h6]) <;> (conv => whnf)
    · rw [eqI_t] at h6
      obtain ⟨a0, a1⟩ := kids_67 hq hx (.inl h6)
      have hA := pad_kid (n := q.xNodes.length) (l := (mvS 0 is q.xNodes pre k.toNat).2) a0 (by omega)
      refine ⟨a0, by rw [setl]; omega, ?_⟩
      conv => whnf
      refine ⟨_, hA, ?_⟩
      conv => whnf
      refine (s_l2Add_ok (mvS 0 is q.xNodes pre k.toNat).1 { x with xA := kid (mvS 0 is q.xNodes pre k.toNat).2 x.xA } (by omega)).mono ?_
      rintro _ _ ⟨rfl, rfl⟩
      conv => whnf
      refine ⟨k0, by rw [setl]; omega, ?_⟩
      conv => whnf
      refine ⟨_, hk0, ?_⟩
      conv => whnf
      rw [wk]
      refine ⟨q.xNodes.length - (k + 1).toNat, _, by omega, norm_wk (keep := [0, 2, 4, 7, 8]) (kb := [1000000, 4]) (ρ := [(200, some 200), (100, some 100)]) rfl, ⟨k + 1, ?_, rfl, by omega, by omega⟩⟩
      rw [ek, mvS_yes hx hvb, rmp_67 (.inl h6), ← hset _]
      try rfl
    rw [eqI_f] at h6
    refine br_if (fun h7 => ?_) (fun h7 => ?_) <;> (try rw [h7]) <;> (conv => whnf)
    · rw [eqI_t] at h7
      obtain ⟨a0, a1⟩ := kids_67 hq hx (.inr h7)
      have hA := pad_kid (n := q.xNodes.length) (l := (mvS 0 is q.xNodes pre k.toNat).2) a0 (by omega)
      refine ⟨a0, by rw [setl]; omega, ?_⟩
      conv => whnf
      refine ⟨_, hA, ?_⟩
      conv => whnf
      refine (s_l2Add_ok (mvS 0 is q.xNodes pre k.toNat).1 { x with xA := kid (mvS 0 is q.xNodes pre k.toNat).2 x.xA } (by omega)).mono ?_
      rintro _ _ ⟨rfl, rfl⟩
      conv => whnf
      refine ⟨k0, by rw [setl]; omega, ?_⟩
      conv => whnf
      refine ⟨_, hk0, ?_⟩
      conv => whnf
      rw [wk]
      refine ⟨q.xNodes.length - (k + 1).toNat, _, by omega, norm_wk (keep := [0, 2, 4, 7, 8]) (kb := [1000000, 4]) (ρ := [(200, some 200), (100, some 100)]) rfl, ⟨k + 1, ?_, rfl, by omega, by omega⟩⟩
      rw [ek, mvS_yes hx hvb, rmp_67 (.inr h7), ← hset _]
      try rfl
    rw [eqI_f] at h7
    refine (s_l2Add_ok (mvS 0 is q.xNodes pre k.toNat).1 x (by omega)).mono ?_
    rintro _ _ ⟨rfl, rfl⟩
    conv => whnf
    refine ⟨k0, by rw [setl]; omega, ?_⟩
    conv => whnf
    refine ⟨_, hk0, ?_⟩
    conv => whnf
    rw [wk]
    refine ⟨q.xNodes.length - (k + 1).toNat, _, by omega, norm_wk (keep := [0, 2, 4, 7, 8]) (kb := [1000000, 4]) (ρ := [(200, some 200), (100, some 100)]) rfl, ⟨k + 1, ?_, rfl, by omega, by omega⟩⟩
    rw [ek, mvS_yes hx hvb, rmp_o h5 h6 h7, ← hset _]
    try rfl
  · rw [ltI_f] at h
    try rw [hnl] at h
    have ek : k.toNat = q.xNodes.length := by omega
    rw [ek]
    obtain ⟨l1, l2, l3⟩ := mvS_len (d := 0) (is := is) (q := q.xNodes) (pre := pre) (k := q.xNodes.length) (by omega)
    rw [pad_full l1]
    exact ⟨rfl, rfl⟩

set_option maxRecDepth 100000 in
set_option maxHeartbeats 1000000 in
theorem i_moveIn_ok (pre : List DNode) (q : DPool) (roots : List Int) (hpre : pre.length ≤ 400000) (hl : q.xNodes.length ≤ 400000) (hq : poolOk q.xNodes = true) (hr : roots.length ≤ 1000000) (hR : ∀ r ∈ roots, Has q r) :
    FnV Tryz.prog 373 [ppV pre, pV q, nnV roots] fun rs outs => rs = [nnR (mvS (-1) (reachL q.xNodes roots) q.xNodes pre q.xNodes.length).2] ∧ outs = [[.sl true 5 (npC (mvS (-1) (reachL q.xNodes roots) q.xNodes pre q.xNodes.length).1)]] := by
  refine fn_ok (E := E12) τ_ok mixed Tryz.func373 (by rfl) (by rfl) false (by simp [Tryz.f373]) ?_
  have hnl : (q.xNodes.map DNode.c).length = q.xNodes.length := List.length_map ..
  have hrep : List.replicate (((q.xNodes.map DNode.c).length : Int)).toNat (List.map zC d3.zero) = nnC (pad q.xNodes.length []) := by
    rw [List.length_map, Int.toNat_natCast, nnC, pad_nil, List.map_replicate]
    rfl
  conv => whnf
  refine ⟨by omega, rfl, by rw [hnl]; simp only [d3]; omega, by omega, ?_⟩
  rw [hrep]
  conv => whnf
  refine (i_reach_ok q roots (by omega) hq hr hR).mono ?_
  rintro _ _ ⟨rfl, rfl⟩
  conv => whnf
  have hi : (reachL q.xNodes roots).length = q.xNodes.length := reachL_len _ _
  generalize reachL q.xNodes roots = is at *
  refine ⟨fun m s => ∃ (k : Int), s = ⟨[(0, .bptr 1000000 0 0), (4, .bptr 4 0 0), (7, .vals false [.ref 100 0]), (8, .vals false [.ref 300 0]), (19, .vals false [.rd none 5 (npC q.xNodes)]), (20, .vals false [.sc (.int .i64 q.xNodes.length)]), (21, .vals false [.sc (.int .i64 k)])],
      [(1000000, ⟨0, [.ref 200 0]⟩), (4, ⟨0, [.rd none 5 (npC q.xNodes)]⟩)],
      [(200, ⟨true, 0, 0, true, 5, npC (mvS (-1) is q.xNodes pre k.toNat).1⟩), (100, ⟨true, 0, 0, true, 1, nnC (pad q.xNodes.length (mvS (-1) is q.xNodes pre k.toNat).2)⟩), (300, ⟨true, 0, 0, true, 1, bbC is⟩)]⟩ ∧ m = q.xNodes.length - k.toNat ∧ 0 ≤ k ∧ k ≤ q.xNodes.length,
    ⟨_, _, norm_wk (keep := [0, 4, 7, 8, 19, 20, 21]) (kb := [1000000, 4]) (ρ := [(2000000, some 200), (14, some 100), (17, some 300)]) rfl, ⟨0, by rw [hnl]; rfl, rfl, by omega, by omega⟩⟩, ?_⟩
  rintro m _ ⟨k, rfl, rfl, k0, k1⟩
  conv => whnf
  refine br_if (fun h => ?_) (fun h => ?_) <;> (try rw [h]) <;> (conv => whnf)
  · rw [ltI_t] at h
    try rw [hnl] at h
    obtain ⟨x, hx⟩ : ∃ x, q.xNodes[k.toNat]? = some x := ⟨_, List.getElem?_eq_getElem (by omega)⟩
    obtain ⟨b, hvb, hat⟩ := bbC_at (v := is) k0 (by omega)
    obtain ⟨l1, l2, l3⟩ := mvS_len (d := (-1)) (is := is) (q := q.xNodes) (pre := pre) (k := k.toNat) (by omega)
    have wk : wrp .i64 (k + 1) = k + 1 := wrp_i64 (by omega) (by omega)
    have ek : (k + 1).toNat = k.toNat + 1 := by omega
    have setl : (nnC (pad q.xNodes.length (mvS (-1) is q.xNodes pre k.toNat).2)).length = q.xNodes.length := by rw [nnC_len, pad_len (by omega)]
    have hk0 : (nnC (pad q.xNodes.length (mvS (-1) is q.xNodes pre k.toNat).2))[k.toNat]? = some [.sc (.int .i64 0)] := by
      have := pad_last (n := q.xNodes.length) (l := (mvS (-1) is q.xNodes pre k.toNat).2) (by omega)
      rwa [l1] at this
    have hset : ∀ y : Int, ((nnC (pad q.xNodes.length (mvS (-1) is q.xNodes pre k.toNat).2)).set k.toNat [.sc (.int .i64 (-1))]).set k.toNat [.sc (.int .i64 y)] = nnC (pad q.xNodes.length ((mvS (-1) is q.xNodes pre k.toNat).2 ++ [y])) := fun y => by
      rw [List.set_set, nnC_set, ← pad_set (by omega), l1]
    have hset1 : (nnC (pad q.xNodes.length (mvS (-1) is q.xNodes pre k.toNat).2)).set k.toNat [.sc (.int .i64 (-1))] = nnC (pad q.xNodes.length ((mvS (-1) is q.xNodes pre k.toNat).2 ++ [-1])) := by
      rw [nnC_set, ← pad_set (by omega), l1]
    have hk1 : ((nnC (pad q.xNodes.length (mvS (-1) is q.xNodes pre k.toNat).2)).set k.toNat [.sc (.int .i64 (-1))])[k.toNat]? = some [.sc (.int .i64 (-1))] := by
      rw [List.getElem?_set, if_pos rfl, if_pos (by omega)]
    refine ⟨k0, _, by rw [List.getElem?_map, hx]; rfl, ?_⟩
    conv => whnf
    refine ⟨k0, by rw [setl]; omega, ?_⟩
    conv => whnf
    refine ⟨_, hk0, ?_⟩
    conv => whnf
    refine ⟨k0, by show k < ((bbC is).length : Int); rw [bbC_len]; omega, ?_⟩
    conv => whnf
    refine ⟨_, hat, ?_⟩
    conv => whnf
    refine br_if (fun h2 => ?_) (fun h2 => ?_) <;> (try rw [h2]) <;> (conv => whnf)
    · rw [notB_t] at h2
      subst h2
      rw [wk]
      refine ⟨q.xNodes.length - (k + 1).toNat, _, by omega, norm_wk (keep := [0, 4, 7, 8, 19, 20, 21]) (kb := [1000000, 4]) (ρ := [(200, some 200), (100, some 100), (300, some 300)]) rfl, ⟨k + 1, ?_, rfl, by omega, by omega⟩⟩
      rw [ek, mvS_no hx hvb, ← hset1]
      try rfl
    rw [notB_f] at h2
    subst h2
    have hM : ∀ {a : Int}, 0 ≤ a → a < k → ((nnC (pad q.xNodes.length (mvS (-1) is q.xNodes pre k.toNat).2)).set k.toNat [.sc (.int .i64 (-1))])[a.toNat]? = some [.sc (.int .i64 (kid (mvS (-1) is q.xNodes pre k.toNat).2 a))] := fun {a} h0 h1 => by
      rw [List.getElem?_set, if_neg (by omega)]
      exact pad_kid h0 (by omega)
    refine br_if (fun h5 => ?_) (fun h5 => ?_) <;> (try rw [h5]) <;> (conv => whnf)
    · rw [eqI_t] at h5
      obtain ⟨⟨a0, a1⟩, b0, b1⟩ := kids_5 hq hx h5
      have hA := hM a0 (by omega)
      have hB := hM b0 (by omega)
      refine ⟨.take 0 (.take 1 (.take 5 (.take 6 (.or 2 (.take 3 (.early 4 (.or 7 (.take 8 (.take 10 (.early 9 (.or 11 (.take 12 (.or 13 .done .nil)) .nil)))) .nil))) (.or 7 (.take 8 (.early 9 (.or 2 (.take 3 (.or 4 (.take 10 (.or 11 (.take 12 (.or 13 .done .nil)) .nil)) .nil)) .nil))) .nil))))), by rfl, ?_⟩
      apply Exists.intro
      refine ⟨?_, ?_⟩
      · conv => whnf
        refine ⟨?_, ?_⟩
        all_goals conv => whnf
        all_goals repeat (first | (refine ⟨rfl, ?_⟩; conv => whnf) | (refine ⟨_, hA, ?_⟩; conv => whnf) | (refine ⟨_, hB, ?_⟩; conv => whnf) | (refine ⟨a0, by show _ < (((nnC (pad q.xNodes.length (mvS (-1) is q.xNodes pre k.toNat).2)).set k.toNat [.sc (.int .i64 (-1))]).length : Int); rw [List.length_set, setl]; omega, ?_⟩; conv => whnf) | (refine ⟨b0, by show _ < (((nnC (pad q.xNodes.length (mvS (-1) is q.xNodes pre k.toNat).2)).set k.toNat [.sc (.int .i64 (-1))]).length : Int); rw [List.length_set, setl]; omega, ?_⟩; conv => whnf))
        all_goals exact norm_wk (keep := [0, 4, 7, 8, 9, 10, 19, 20, 21]) (kb := [1000000, 4, 10]) (ρ := [(200, some 200), (100, some 100), (300, some 300)]) rfl
      conv => whnf
      refine (i_add_ok (mvS (-1) is q.xNodes pre k.toNat).1 { x with xA := kid (mvS (-1) is q.xNodes pre k.toNat).2 x.xA, xB := kid (mvS (-1) is q.xNodes pre k.toNat).2 x.xB } (by omega)).mono ?_
      rintro _ _ ⟨rfl, rfl⟩
      conv => whnf
      refine ⟨k0, by show k < (((nnC (pad q.xNodes.length (mvS (-1) is q.xNodes pre k.toNat).2)).set k.toNat [.sc (.int .i64 (-1))]).length : Int); rw [List.length_set, setl]; omega, ?_⟩
      conv => whnf
      refine ⟨_, hk1, ?_⟩
      conv => whnf
      rw [wk]
      refine ⟨q.xNodes.length - (k + 1).toNat, _, by omega, norm_wk (keep := [0, 4, 7, 8, 19, 20, 21]) (kb := [1000000, 4]) (ρ := [(200, some 200), (100, some 100), (300, some 300)]) rfl, ⟨k + 1, ?_, rfl, by omega, by omega⟩⟩
      rw [ek, mvS_yes hx hvb, rmp_5 h5, ← hset _]
      try rfl
    rw [eqI_f] at h5
    refine br_if (fun h6 => ?_) (fun h6 => ?_) <;> (try rw [h6]) <;> (conv => whnf)
    · rw [eqI_t] at h6
      obtain ⟨a0, a1⟩ := kids_67 hq hx (.inl h6)
      have hA := hM a0 (by omega)
      refine ⟨a0, by show _ < (((nnC (pad q.xNodes.length (mvS (-1) is q.xNodes pre k.toNat).2)).set k.toNat [.sc (.int .i64 (-1))]).length : Int); rw [List.length_set, setl]; omega, ?_⟩
      conv => whnf
      refine ⟨_, hA, ?_⟩
      conv => whnf
      refine (i_add_ok (mvS (-1) is q.xNodes pre k.toNat).1 { x with xA := kid (mvS (-1) is q.xNodes pre k.toNat).2 x.xA } (by omega)).mono ?_
      rintro _ _ ⟨rfl, rfl⟩
      conv => whnf
      refine ⟨k0, by show k < (((nnC (pad q.xNodes.length (mvS (-1) is q.xNodes pre k.toNat).2)).set k.toNat [.sc (.int .i64 (-1))]).length : Int); rw [List.length_set, setl]; omega, ?_⟩
      conv => whnf
      refine ⟨_, hk1, ?_⟩
      conv => whnf
      rw [wk]
      refine ⟨q.xNodes.length - (k + 1).toNat, _, by omega, norm_wk (keep := [0, 4, 7, 8, 19, 20, 21]) (kb := [1000000, 4]) (ρ := [(200, some 200), (100, some 100), (300, some 300)]) rfl, ⟨k + 1, ?_, rfl, by omega, by omega⟩⟩
      rw [ek, mvS_yes hx hvb, rmp_67 (.inl h6), ← hset _]
      try rfl
    rw [eqI_f] at h6
    refine br_if (fun h7 => ?_) (fun h7 => ?_) <;> (try rw [h7]) <;> (conv => whnf)
    · rw [eqI_t] at h7
      obtain ⟨a0, a1⟩ := kids_67 hq hx (.inr h7)
      have hA := hM a0 (by omega)
      refine ⟨a0, by show _ < (((nnC (pad q.xNodes.length (mvS (-1) is q.xNodes pre k.toNat).2)).set k.toNat [.sc (.int .i64 (-1))]).length : Int); rw [List.length_set, setl]; omega, ?_⟩
      conv => whnf
      refine ⟨_, hA, ?_⟩
      conv => whnf
      refine (i_add_ok (mvS (-1) is q.xNodes pre k.toNat).1 { x with xA := kid (mvS (-1) is q.xNodes pre k.toNat).2 x.xA } (by omega)).mono ?_
      rintro _ _ ⟨rfl, rfl⟩
      conv => whnf
      refine ⟨k0, by show k < (((nnC (pad q.xNodes.length (mvS (-1) is q.xNodes pre k.toNat).2)).set k.toNat [.sc (.int .i64 (-1))]).length : Int); rw [List.length_set, setl]; omega, ?_⟩
      conv => whnf
      refine ⟨_, hk1, ?_⟩
      conv => whnf
      rw [wk]
      refine ⟨q.xNodes.length - (k + 1).toNat, _, by omega, norm_wk (keep := [0, 4, 7, 8, 19, 20, 21]) (kb := [1000000, 4]) (ρ := [(200, some 200), (100, some 100), (300, some 300)]) rfl, ⟨k + 1, ?_, rfl, by omega, by omega⟩⟩
      rw [ek, mvS_yes hx hvb, rmp_67 (.inr h7), ← hset _]
      try rfl
    rw [eqI_f] at h7
    refine (i_add_ok (mvS (-1) is q.xNodes pre k.toNat).1 x (by omega)).mono ?_
    rintro _ _ ⟨rfl, rfl⟩
    conv => whnf
    refine ⟨k0, by show k < (((nnC (pad q.xNodes.length (mvS (-1) is q.xNodes pre k.toNat).2)).set k.toNat [.sc (.int .i64 (-1))]).length : Int); rw [List.length_set, setl]; omega, ?_⟩
    conv => whnf
    refine ⟨_, hk1, ?_⟩
    conv => whnf
    rw [wk]
    refine ⟨q.xNodes.length - (k + 1).toNat, _, by omega, norm_wk (keep := [0, 4, 7, 8, 19, 20, 21]) (kb := [1000000, 4]) (ρ := [(200, some 200), (100, some 100), (300, some 300)]) rfl, ⟨k + 1, ?_, rfl, by omega, by omega⟩⟩
    rw [ek, mvS_yes hx hvb, rmp_o h5 h6 h7, ← hset _]
    try rfl
  · rw [ltI_f] at h
    try rw [hnl] at h
    have ek : k.toNat = q.xNodes.length := by omega
    rw [ek]
    obtain ⟨l1, l2, l3⟩ := mvS_len (d := (-1)) (is := is) (q := q.xNodes) (pre := pre) (k := q.xNodes.length) (by omega)
    rw [pad_full l1]
    exact ⟨rfl, rfl⟩

end Go.Proofs.YtcaonpncopfeoaaGreat.V
