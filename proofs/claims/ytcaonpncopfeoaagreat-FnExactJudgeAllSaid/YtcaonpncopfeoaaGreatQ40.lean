/- The judge of doubles: the program's, by a map. -/
import Derived.Test.YtcaonpncopfeoaaGreatQ39
import Derived.Test.YtcaonpncopfeoaaGreatD5
set_option linter.unusedVariables false
set_option linter.unusedSimpArgs false
namespace Go.Proofs.YtcaonpncopfeoaaGreat.V
open Go

def MdE40 (f : Nat) : List Mode :=
  match f with
  | 29 => [.rd]
  | 112 => [.rd, .rd, .rd]
  | 152 => [.mptr, .rd]
  | _ => []
def E40 : Env := ⟨τ, MdE40⟩

/-! ### what a map of counts holds -/
@[reducible] def kI (p : Int) : Value := .int .i64 p
open Classical in
theorem updM_look {es : List (Value × Int)} {v u : Value} {n : Int} : lookM (updM es v n) u = if u = v then n else lookM es u := by
  induction es with
  | nil => simp [updM, lookM]
  | cons q r ih =>
    simp only [updM, lookM]
    by_cases h : v = q.1
    · rw [if_pos h]
      simp only [lookM]
      by_cases h2 : u = v
      · rw [if_pos h2, if_pos h2]
      · rw [if_neg h2, if_neg h2, if_neg (by rw [← h]; exact h2)]
    · rw [if_neg h]
      simp only [lookM]
      by_cases h2 : u = q.1
      · rw [if_pos h2, if_pos h2, if_neg (fun e : u = v => h (by rw [← e]; exact h2))]
      · rw [if_neg h2, if_neg h2, ih]
theorem updM_spec {v : Value} {n : Int} : ∀ {es : List (Value × Int)}, (es.map (·.1)).Nodup → ((updM es v n).map (·.1)).Nodup ∧ (∀ u, u ∈ (updM es v n).map (·.1) ↔ u = v ∨ u ∈ es.map (·.1)) ∧ ∀ q ∈ updM es v n, q = (v, n) ∨ (q ∈ es ∧ q.1 ≠ v)
  | [], _ => by simp [updM]
  | p :: r, h => by
    obtain ⟨h1, h2⟩ := List.nodup_cons.1 (show (p.1 :: r.map (·.1)).Nodup from h)
    obtain ⟨i1, i2, i3⟩ := updM_spec (v := v) (n := n) h2
    simp only [updM]
    by_cases hv : v = p.1
    · rw [if_pos hv]
      subst hv
      refine ⟨h, fun u => by simp, fun q hq => ?_⟩
      rcases List.mem_cons.1 hq with rfl | hq
      · exact .inl rfl
      · exact .inr ⟨List.mem_cons_of_mem _ hq, fun e => h1 (List.mem_map.2 ⟨q, hq, e⟩)⟩
    · rw [if_neg hv]
      refine ⟨List.nodup_cons.2 ⟨fun hm => ?_, i1⟩, fun u => ?_, fun q hq => ?_⟩
      · rcases (i2 p.1).1 hm with e | e
        · exact hv e.symm
        · exact h1 e
      · rw [List.map_cons, List.mem_cons, i2 u, List.map_cons, List.mem_cons]
        constructor
        · rintro (a | a | a)
          · exact .inr (.inl a)
          · exact .inl a
          · exact .inr (.inr a)
        · rintro (a | a | a)
          · exact .inr (.inl a)
          · exact .inl a
          · exact .inr (.inr a)
      · rcases List.mem_cons.1 hq with rfl | hq
        · exact .inr ⟨List.mem_cons_self .., fun e => hv e.symm⟩
        · rcases i3 q hq with e | ⟨e, e2⟩
          · exact .inl e
          · exact .inr ⟨List.mem_cons_of_mem _ e, e2⟩
/-- The map tells how often each is in the list. -/
structure MapC (es : List (Value × Int)) (xs : List Int) : Prop where
  nod : (es.map (·.1)).Nodup
  look : ∀ p : Int, lookM es (kI p) = xs.count p
  rows : ∀ q ∈ es, ∃ p : Int, q.1 = kI p ∧ q.2 = xs.count p
  all : ∀ p ∈ xs, kI p ∈ es.map (·.1)
theorem MapC.nil : MapC [] [] := ⟨by simp, fun p => (by simp [lookM]), fun q hq => (by cases hq), fun p hp => (by cases hp)⟩
theorem kI_inj {p q : Int} : kI p = kI q ↔ p = q := ⟨fun h => by cases h; rfl, fun h => by rw [h]⟩
theorem MapC.add {es : List (Value × Int)} {xs : List Int} (h : MapC es xs) (p : Int) : MapC (updM es (kI p) (lookM es (kI p) + 1)) (xs ++ [p]) := by
  obtain ⟨i1, i2, i3⟩ := updM_spec (v := kI p) (n := lookM es (kI p) + 1) h.nod
  have hp : lookM es (kI p) + 1 = ((xs ++ [p]).count p : Nat) := by rw [cnt_snoc, h.look, if_pos rfl]
  refine ⟨i1, fun u => ?_, fun q hq => ?_, fun u hu => ?_⟩
  · rw [updM_look]
    by_cases e : u = p
    · subst e
      rw [if_pos rfl, hp]
    · rw [if_neg (fun e2 => e (kI_inj.1 e2)), h.look, cnt_snoc, if_neg (fun e2 => e e2.symm)]
      omega
  · rcases i3 q hq with rfl | ⟨a, b⟩
    · exact ⟨p, rfl, hp⟩
    · obtain ⟨u, e1, e2⟩ := h.rows q a
      refine ⟨u, e1, ?_⟩
      rw [cnt_snoc, if_neg (fun e => b (by rw [e1, e])), e2]
      omega
  · rw [i2]
    rcases List.mem_append.1 hu with hu | hu
    · exact .inr (h.all u hu)
    · rw [List.mem_singleton.1 hu]
      exact .inl rfl
theorem MapC.len {es : List (Value × Int)} {xs : List Int} (h : MapC es xs) (p : Int) : 0 ≤ lookM es (.int .i64 p) ∧ lookM es (.int .i64 p) ≤ xs.length := by
  have := List.count_le_length (a := p) (l := xs)
  have e := h.look p
  rw [show lookM es (.int .i64 p) = lookM es (kI p) from rfl, e]
  omega

set_option maxRecDepth 100000 in
set_option maxHeartbeats 2000000 in
theorem i_JudgeOnce_ok (w : DWorld) (ho : w.ok) (hb' : ∀ h ∈ w.xHomes, ∀ s ∈ h.xP.xBox, s.size ≤ 1000000000) (hb : ∀ g ∈ w.xGave, ∀ s ∈ g, s.size ≤ 2000000) : FnV Tryz.prog 47 [wV w] fun rs outs => rs = [bR (judgeN w)] ∧ outs = [] := by
  refine fn_ok (E := E40) τ_ok mixed Tryz.func47 (by rfl) (by rfl) false (by simp [Tryz.f47]) ?_
  conv => whnf
  refine (i_WorldOk_ok w ho hb').mono ?_
  rintro _ _ ⟨rfl, rfl⟩
  conv => whnf
  refine br_if (fun h1 => ?_) (fun h1 => ?_) <;> (try rw [h1]) <;> (conv => whnf)
  · exact bR_eq (clB_f.2 fun h => by rw [notB_t, h.1] at h1; cases h1).symm
  rw [notB_f] at h1
  have hh8 := (worldOk_t.1 h1).2.2.1
  obtain ⟨p1, p2, p3, p4, -⟩ := world_parts h1
  have n9 := places9 p1
  refine ⟨none, ?_⟩
  intro b
  conv => whnf
  rw [hmC_len]
  refine ⟨fun m s => ∃ (k : Int) (es : List (Value × Int)), s = ⟨[(1, .bptr 1 0 0), (2, .vals false [.sc (.bool false)]), (3, .mapv b 100 0 none es), (17, .vals false [.rd none 12 (w.xHomes.map DHome.c)]), (18, .vals false [.sc (.int .i64 w.xHomes.length)]), (19, .vals false [.sc (.int .i64 k)])], [(1, ⟨0, w.x⟩)], [(100, ⟨true, 0, 0, true, 1, []⟩)]⟩ ∧ m = w.xHomes.length - k.toNat ∧ 0 ≤ k ∧ k ≤ w.xHomes.length ∧ MapC es ((occ0 w).take k.toNat),
    ⟨_, _, norm_wk (keep := [1, 2, 3, 17, 18, 19]) (kb := [1]) (ρ := [(15, some 100)]) rfl, ⟨0, [], rfl, rfl, by omega, by omega, MapC.nil⟩⟩, ?_⟩
  rintro m _ ⟨k, es, rfl, rfl, k0, k1, hk⟩
  conv => whnf
  refine br_if (fun h2 => ?_) (fun h2 => ?_) <;> (try rw [h2]) <;> (conv => whnf)
  · rw [ltI_t] at h2
    obtain ⟨x, hx⟩ : ∃ x, w.xHomes[k.toNat]? = some x := ⟨_, List.getElem?_eq_getElem (by omega)⟩
    refine ⟨k0, _, hmC_at hx, ?_⟩
    conv => whnf
    refine ⟨mapTyInt, ⟨_, rfl⟩, ?_⟩
    conv => whnf
    refine ⟨mapTyInt, ⟨_, rfl⟩, [3, 23], ⟨rfl, rfl, trivial⟩, ?_⟩
    conv => whnf
    have ek : (k + 1).toNat = k.toNat + 1 := by omega
    have hl := hk.len x.xP.xPid
    have hl2 : ((occ0 w).take k.toNat).length ≤ 8 := by rw [List.length_take, occ0, List.length_map]; omega
    rw [wrp_i64 (x := lookM es (.int .i64 x.xP.xPid) + 1) (by omega) (by omega), wrp_i64 (x := k + 1) (by omega) (by omega)]
    exact ⟨w.xHomes.length - (k + 1).toNat, _, by omega, norm_wk (keep := [1, 2, 3, 17, 18, 19]) (kb := [1]) (ρ := [(100, some 100)]) rfl, ⟨k + 1, _, rfl, rfl, by omega, by omega, by rw [ek, take_snoc (occ_get0 hx)]; exact hk.add x.xP.xPid⟩⟩
  rw [ltI_f] at h2
  rw [List.take_of_length_le (by rw [occ0, List.length_map]; omega)] at hk
  have hl0 : (occ0 w).length ≤ 8 := by rw [occ0, List.length_map]; omega
  rw [lkC_len]
  refine ⟨fun m s => ∃ (k : Int) (es : List (Value × Int)), s = ⟨[(1, .bptr 1 0 0), (2, .vals false [.sc (.bool false)]), (3, .mapv b 100 0 none es), (31, .vals false [.rd none 5 (w.xLinks.map DLink.c)]), (32, .vals false [.sc (.int .i64 w.xLinks.length)]), (33, .vals false [.sc (.int .i64 k)])], [(1, ⟨0, w.x⟩)], [(100, ⟨true, 0, 0, true, 1, []⟩)]⟩ ∧ m = w.xLinks.length - k.toNat ∧ 0 ≤ k ∧ k ≤ w.xLinks.length ∧ MapC es (occN w k.toNat) ∧ ((occN w k.toNat).length : Int) ≤ 8 + k * 100000,
    ⟨_, _, norm_wk (keep := [1, 2, 3, 31, 32, 33]) (kb := [1]) (ρ := [(100, some 100)]) rfl, ⟨0, es, rfl, rfl, by omega, by omega, by rw [show (0 : Int).toNat = 0 from rfl, occN_0]; exact hk, by rw [show (0 : Int).toNat = 0 from rfl, occN_0]; omega⟩⟩, ?_⟩
  clear hk h2 k0 k1 k es
  rintro m _ ⟨k, es, rfl, rfl, k0, k1, hk, hkl⟩
  conv => whnf
  refine br_if (fun h2 => ?_) (fun h2 => ?_) <;> (try rw [h2]) <;> (conv => whnf)
  · rw [ltI_t] at h2
    obtain ⟨l, g, t, hl, hg, ht, lo, lg, lt⟩ := link_at h1 (i := k.toNat) (by omega)
    have lo1 := lo.1
    have lo2 := lo.2.1
    have gl := ssC_len g
    have gb := hb g (List.mem_of_getElem? hg)
    have ol := occI_len hl hg
    refine ⟨k0, _, lkC_at hl, ?_⟩
    conv => whnf
    have eM : ((ssC g).take (((ssC g).length : Nat) : Int).toNat).drop l.xGot.toNat = ssC (g.drop l.xGot.toNat) := by
      rw [Int.toNat_natCast, List.take_length, ssC, ssC, List.map_drop]
    refine ⟨.take 0 (.take 2 (.take 5 (.take 9 (.early 6 (.or 1 (.take 3 (.or 4 (.or 7 (.take 8 .done) .nil) .nil)) .nil))))), by rfl, ?_⟩
    apply Exists.intro
    refine ⟨?_, ?_⟩
    · conv => whnf
      repeat' (first
        | (refine ⟨rfl, ?_⟩; conv => whnf)
        | (refine ⟨k0, _, sssC_at hg, ?_⟩; conv => whnf)
        | (refine ⟨by omega, by omega, by omega, ?_⟩; conv => whnf)
        | (rw [eM]; exact norm_wk (keep := [1, 2, 3, 31, 32, 33, 45, 46, 47]) (kb := [1]) (ρ := [(100, some 100)]) rfl)
        | (refine ⟨?_, ?_⟩ <;> conv => whnf)
        | fail)
    conv => whnf
    rw [ssC_len, List.length_drop]
    refine ⟨fun m s => ∃ (j : Int) (es : List (Value × Int)), s = ⟨[(1, .bptr 1 0 0), (2, .vals false [.sc (.bool false)]), (3, .mapv b 100 0 none es), (31, .vals false [.rd none 5 (w.xLinks.map DLink.c)]), (32, .vals false [.sc (.int .i64 w.xLinks.length)]), (33, .vals false [.sc (.int .i64 k)]), (45, .vals false [.rd none 1 (ssC (g.drop l.xGot.toNat))]), (46, .vals false [.sc (.int .i64 (g.length - l.xGot.toNat : Nat))]), (47, .vals false [.sc (.int .i64 j)])], [(1, ⟨0, w.x⟩)], [(100, ⟨true, 0, 0, true, 1, []⟩)]⟩ ∧ m = g.length - l.xGot.toNat - j.toNat ∧ 0 ≤ j ∧ j ≤ (g.length - l.xGot.toNat : Nat) ∧ MapC es (occN w k.toNat ++ (occI w k.toNat).take j.toNat),
      ⟨_, _, norm_wk (keep := [1, 2, 3, 31, 32, 33, 45, 46, 47]) (kb := [1]) (ρ := [(100, some 100)]) rfl, ⟨0, es, rfl, rfl, by omega, by omega, by simpa using hk⟩⟩, ?_⟩
    clear hk es
    rintro m _ ⟨j, es, rfl, rfl, j0, j1, hj⟩
    conv => whnf
    refine br_if (fun h3 => ?_) (fun h3 => ?_) <;> (try rw [h3]) <;> (conv => whnf)
    · rw [ltI_t] at h3
      obtain ⟨x, hx⟩ : ∃ x, g[l.xGot.toNat + j.toNat]? = some x := ⟨_, List.getElem?_eq_getElem (by omega)⟩
      have hx' : (g.drop l.xGot.toNat)[j.toNat]? = some x := by rw [List.getElem?_drop, hx]
      refine ⟨j0, _, ssC_at hx', ?_⟩
      conv => whnf
      refine (i_moved_ok w ho x (gb x (List.mem_of_getElem? hx))).mono ?_
      rintro _ _ ⟨rfl, rfl⟩
      conv => whnf
      refine ⟨mapTyInt, ⟨_, rfl⟩, ?_⟩
      conv => whnf
      refine ⟨mapTyInt, ⟨_, rfl⟩, [3, 51], ⟨rfl, rfl, trivial⟩, ?_⟩
      conv => whnf
      have ek : (j + 1).toNat = j.toNat + 1 := by omega
      have hl' := hj.len (movesI w.xCode x)
      have hl2 : ((occN w k.toNat ++ (occI w k.toNat).take j.toNat).length : Int) ≤ 8 + k * 100000 + 100000 := by rw [List.length_append, List.length_take]; omega
      rw [wrp_i64 (x := lookM es (.int .i64 (movesI w.xCode x)) + 1) (by omega) (by omega), wrp_i64 (x := j + 1) (by omega) (by omega)]
      exact ⟨g.length - l.xGot.toNat - (j + 1).toNat, _, by omega, norm_wk (keep := [1, 2, 3, 31, 32, 33, 45, 46, 47]) (kb := [1]) (ρ := [(100, some 100)]) rfl, ⟨j + 1, _, rfl, rfl, by omega, by omega, by rw [ek, take_snoc (occI_get hl hg hx), ← List.append_assoc]; exact hj.add (movesI w.xCode x)⟩⟩
    · rw [ltI_f] at h3
      rw [List.take_of_length_le (by omega), ← occN_succ] at hj
      have hl2 : ((occN w (k.toNat + 1)).length : Int) ≤ 8 + (k + 1) * 100000 := by rw [occN_succ, List.length_append]; omega
      rw [wrp_i64 (x := k + 1) (by omega) (by omega)]
      exact ⟨w.xLinks.length - (k + 1).toNat, _, by omega, norm_wk (keep := [1, 2, 3, 31, 32, 33]) (kb := [1]) (ρ := [(100, some 100)]) rfl, ⟨k + 1, es, rfl, rfl, by omega, by omega, by rw [show (k + 1).toNat = k.toNat + 1 by omega]; exact hj, by rw [show (k + 1).toNat = k.toNat + 1 by omega]; exact hl2⟩⟩
  rw [ltI_f] at h2
  rw [show k.toNat = w.xLinks.length by omega] at hk
  change MapC es (occ w) at hk
  refine ⟨mapTyInt, ?_⟩
  intro bi
  conv => whnf
  have n1 := next_1 h1
  refine ⟨fun m s => ∃ (left : List (Value × Int)) (cur : Option (Value × Int)), s = ⟨[(1, .bptr 1 0 0), (2, .vals false [.sc (.bool false)]), (59, .itv bi 200 0 b 100 0 left cur)], [(1, ⟨0, w.x⟩)], [(100, ⟨true, 0, 0, true, 1, []⟩), (200, ⟨true, 0, 0, true, 1, []⟩)]⟩ ∧ m = left.length ∧ (∀ q ∈ left, q ∈ es) ∧ ∀ q ∈ es, q ∈ left ∨ ∀ p, q.1 = kI p → 1 ≤ p → p < w.xNext → (occ w).count p ≤ 1,
    ⟨_, _, norm_wk (keep := [1, 2, 59]) (kb := [1]) (ρ := [(100, some 100), (59, some 200)]) rfl, ⟨es, none, rfl, rfl, fun q hq => hq, fun q hq => .inl hq⟩⟩, ?_⟩
  rintro m _ ⟨left, cur, rfl, rfl, hs, hq⟩
  conv => whnf
  refine ⟨fun hl => ?_, [59], ⟨rfl, trivial⟩, fun l1 p l2 hl => ?_⟩
  · conv => whnf
    subst hl
    refine bR_eq (clB_t.2 ⟨h1, fun p e1 e2 => ?_⟩).symm
    by_cases hp : p ∈ occ w
    · obtain ⟨q, hq1, hq2⟩ := List.mem_map.1 (hk.all p hp)
      rcases hq q hq1 with h | h
      · cases h
      · exact h p hq2 e1 e2
    · rw [List.count_eq_zero.2 hp]
      omega
  · subst hl
    obtain ⟨u, e1, e2⟩ := hk.rows p (hs p (List.mem_append_right _ (List.mem_cons_self ..)))
    obtain ⟨pk, pn⟩ := p
    simp only at e1 e2
    subst e1 e2
    conv => whnf
    rw [wrp_i64 (x := w.xNext - 1) (by omega) (by omega)]
    refine (i_within_ok _ _ _).mono ?_
    rintro _ _ ⟨rfl, rfl⟩
    conv => whnf
    have nx : (1 ≤ u → u < w.xNext → (occ w).count u ≤ 1) → ∀ q ∈ es, q ∈ l1 ++ l2 ∨ ∀ p, q.1 = kI p → 1 ≤ p → p < w.xNext → (occ w).count p ≤ 1 := fun e q hq' => by
      rcases hq q hq' with h | h
      · rcases List.mem_append.1 h with h | h
        · exact .inl (List.mem_append_left _ h)
        · rcases List.mem_cons.1 h with rfl | h
          · exact .inr fun p hp => by rw [kI_inj.1 hp] at e; exact e
          · exact .inl (List.mem_append_right _ h)
      · exact .inr h
    have nl : (l1 ++ l2).length < (l1 ++ (kI u, ((occ w).count u : Int)) :: l2).length := by simp
    have ns : ∀ q ∈ l1 ++ l2, q ∈ es := fun q hq' => hs q (by
      rcases List.mem_append.1 hq' with h | h
      · exact List.mem_append_left _ h
      · exact List.mem_append_right _ (List.mem_cons_of_mem _ h))
    refine br_if (fun h3 => ?_) (fun h3 => ?_) <;> rw [h3] <;> (conv => whnf)
    · rw [decide_eq_true_eq] at h3
      refine br_if (fun h4 => ?_) (fun h4 => ?_) <;> (try rw [h4]) <;> (conv => whnf)
      · rw [ltI_t] at h4
        refine bR_eq (clB_f.2 fun h => ?_).symm
        have := h.2 u h3.1 (by omega)
        omega
      · rw [ltI_f] at h4
        exact ⟨_, _, nl, norm_wk (keep := [1, 2, 59]) (kb := [1]) (ρ := [(100, some 100), (200, some 200)]) rfl, ⟨_, _, rfl, rfl, ns, nx fun _ _ => by omega⟩⟩
    · rw [decide_eq_false_iff_not] at h3
      exact ⟨_, _, nl, norm_wk (keep := [1, 2, 59]) (kb := [1]) (ρ := [(100, some 100), (200, some 200)]) rfl, ⟨_, _, rfl, rfl, ns, nx fun e1 e2 => absurd (show 1 ≤ u ∧ u ≤ w.xNext - 1 from ⟨e1, by omega⟩) h3⟩⟩

end Go.Proofs.YtcaonpncopfeoaaGreat.V
