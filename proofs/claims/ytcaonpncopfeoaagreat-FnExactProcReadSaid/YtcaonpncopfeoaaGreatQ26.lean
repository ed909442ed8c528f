/- What readers leave, told alike; what is read is written as it was. (plain) -/
import Derived.Test.YtcaonpncopfeoaaGreatQ22
set_option linter.unusedVariables false
set_option linter.unusedSimpArgs false
namespace Go.Proofs.YtcaonpncopfeoaaGreat.V
open Go

/-- What a reader leaves. -/
def RdPost {α : Type} (p : Option (α × Int)) (ok : Bool) (x : α) (a' : Int) (ok' : Bool) : Prop :=
  (ok' = true ∧ ok = true ∧ p = some (x, a')) ∨ (ok' = false ∧ (ok = false ∨ p = none))
theorem RdPost.bind {α β : Type} {p : Option (α × Int)} {q : α → Int → Option (β × Int)} {ok ok1 ok2 : Bool} {x : α} {y : β} {a1 a2 : Int} (h1 : RdPost p ok x a1 ok1) (h2 : RdPost (q x a1) ok1 y a2 ok2) : RdPost (p.bind fun r => q r.1 r.2) ok y a2 ok2 := by
  rcases h1 with ⟨e1, e2, e3⟩ | ⟨e1, e2⟩
  · rcases h2 with ⟨f1, f2, f3⟩ | ⟨f1, f2⟩
    · exact .inl ⟨f1, e2, by rw [e3]; exact f3⟩
    · rcases f2 with f2 | f2
      · rw [e1] at f2; cases f2
      · exact .inr ⟨f1, .inr (by rw [e3]; exact f2)⟩
  · rcases h2 with ⟨f1, f2, f3⟩ | ⟨f1, f2⟩
    · rw [e1] at f2; cases f2
    · rcases e2 with e2 | e2
      · exact .inr ⟨f1, .inl e2⟩
      · exact .inr ⟨f1, .inr (by rw [e2]; rfl)⟩
theorem RdPost.yes {α : Type} {p : Option (α × Int)} {x : α} {a' : Int} (h : RdPost p true x a' true) : p = some (x, a') := by
  rcases h with ⟨_, _, h⟩ | ⟨h, _⟩
  · exact h
  · cases h
theorem RdPost.no {α : Type} {p : Option (α × Int)} {x : α} {a' : Int} (h : RdPost p true x a' false) : p = none := by
  rcases h with ⟨h, _⟩ | ⟨_, h | h⟩
  · cases h
  · cases h
  · exact h
noncomputable def numP (zs : List Int) (a : Int) : Option (Int × Int) := if gB zs a = true then some (gX zs a, gJ zs a) else none
noncomputable def txtP (zs : List Int) (a : Int) : Option (ByteArray × Int) := if tB zs a = true then some (tS zs a, tJ zs a) else none

/-! ### a part of the bytes -/
def segI (zs : List Int) (a b : Int) : List Int := (zs.take b.toNat).drop a.toNat
theorem segI_app {zs : List Int} {a b c : Int} (h0 : 0 ≤ a) (h1 : a ≤ b) (h2 : b ≤ c) (h3 : c ≤ zs.length) : segI zs a b ++ segI zs b c = segI zs a c := by
  unfold segI
  have e1 : zs.take b.toNat = (zs.take c.toNat).take b.toNat := by rw [List.take_take, Nat.min_eq_left (by omega)]
  have hl : (zs.take c.toNat).length = c.toNat := by rw [List.length_take]; omega
  have e2 := List.take_append_drop b.toNat (zs.take c.toNat)
  rw [e1]
  generalize zs.take c.toNat = L at *
  have hb : (L.take b.toNat).length = b.toNat := by rw [List.length_take]; omega
  conv => rhs; rw [← e2]
  rw [List.drop_append_of_le_length (by omega)]
theorem segI_all {zs : List Int} : segI zs 0 zs.length = zs := by
  unfold segI
  simp
theorem segI_nil (zs : List Int) (a : Int) : segI zs a a = [] := by
  unfold segI
  rw [List.drop_eq_nil_iff, List.length_take]
  omega
theorem segI_len {zs : List Int} {a b : Int} (h0 : 0 ≤ a) (h1 : a ≤ b) (h3 : b ≤ zs.length) : ((segI zs a b).length : Int) = b - a := by
  unfold segI
  rw [List.length_drop, List.length_take]
  omega
theorem take_drop_cons {zs : List Int} {i j : Nat} {d : Int} (h : zs[i]? = some d) (hij : i < j) : (zs.take j).drop i = d :: (zs.take j).drop (i + 1) := by
  have hi : i < zs.length := (List.getElem?_eq_some_iff.1 h).1
  have hl : i < (zs.take j).length := by rw [List.length_take]; omega
  rw [List.drop_eq_getElem_cons hl]
  congr 1
  rw [List.getElem_take]
  exact (List.getElem?_eq_some_iff.1 h).2

/-! ### what is read is written as it was -/
theorem gn_canon {zs : List Int} (hz : Bytes zs) : ∀ (f i : Nat) (x : Int) (j : Nat), gn zs f i = some (x, j) → f ≤ 9 → i < j ∧ numL x.toNat = (zs.take j).drop i ∧ 0 ≤ x ∧ (x = 0 → f = 9)
  | 0, i, x, j, h, _ => by cases h
  | f + 1, i, x, j, h, hf => by
    cases hd : zs[i]? with
    | none => simp [gn, hd] at h
    | some d =>
      obtain ⟨d0, d1⟩ := hz d (List.mem_of_getElem? hd)
      by_cases hs : d < 128
      · rw [gn_small hd hs] at h
        split at h
        · cases h
        · rename_i hc
          simp only [Option.some.injEq, Prod.mk.injEq] at h
          obtain ⟨rfl, rfl⟩ := h
          refine ⟨by omega, ?_, d0, fun h => by omega⟩
          rw [numL_small (by omega), take_drop_cons hd (by omega), Int.toNat_of_nonneg d0]
          congr 1
          symm
          rw [List.drop_eq_nil_iff, List.length_take]
          omega
      · rw [gn_big hd hs] at h
        cases hr : gn zs f (i + 1) with
        | none => rw [hr] at h; cases h
        | some p =>
          obtain ⟨y, j'⟩ := p
          rw [hr] at h
          simp only [Option.map_some, Option.some.injEq, Prod.mk.injEq] at h
          obtain ⟨rfl, rfl⟩ := h
          obtain ⟨h1, h2, h3, h4⟩ := gn_canon hz f (i + 1) y j' hr (by omega)
          have hy : y ≠ 0 := fun e => by have := h4 e; omega
          refine ⟨by omega, ?_, by omega, fun h => by omega⟩
          rw [numL_big (by omega), take_drop_cons hd (by omega), ← h2]
          have e1 : (((d % 128 + 128 * y).toNat % 128 + 128 : Nat) : Int) = d := by omega
          have e2 : (d % 128 + 128 * y).toNat / 128 = y.toNat := by omega
          rw [e1, e2]
theorem num_canon {zs : List Int} (hz : Bytes zs) {a x b : Int} (h : numP zs a = some (x, b)) : 0 ≤ a ∧ a < b ∧ b ≤ zs.length ∧ 0 ≤ x ∧ x ≤ 9223372036854775807 ∧ numI x = segI zs a b := by
  unfold numP at h
  split at h
  · rename_i hB
    cases hg : getNum zs a with
    | none => rw [(g_none hg).2.2] at hB; cases hB
    | some p =>
      obtain ⟨y, j⟩ := p
      obtain ⟨e1, e2, _⟩ := g_some hg
      rw [e1, e2] at h
      simp only [Option.some.injEq, Prod.mk.injEq] at h
      obtain ⟨rfl, rfl⟩ := h
      obtain ⟨h0, h1, h2, h3, h4⟩ := getNum_bounds hz hg
      rw [getNum_pos h0] at hg
      obtain ⟨g1, g2, g3, -⟩ := gn_canon hz 9 a.toNat y j hg (Nat.le_refl _)
      refine ⟨h0, h3, by omega, h1, h2, ?_⟩
      rw [numI_pos h1, g2, segI, Int.toNat_natCast]
  · cases h
theorem txt_canon {zs : List Int} (hz : Bytes zs) {a b : Int} {s : ByteArray} (h : txtP zs a = some (s, b)) : 0 ≤ a ∧ a < b ∧ b ≤ zs.length ∧ s.size ≤ zs.length ∧ putText s = segI zs a b := by
  unfold txtP at h
  split at h
  · rename_i hB
    have hB' := hB
    unfold tB at hB'
    simp only [Bool.and_eq_true, decide_eq_true_eq] at hB'
    obtain ⟨hg, hle⟩ := hB'
    simp only [Option.some.injEq, Prod.mk.injEq] at h
    obtain ⟨rfl, rfl⟩ := h
    obtain ⟨n0, n1, n2, n3, n4, n5⟩ := num_canon hz (a := a) (x := gX zs a) (b := gJ zs a) (by unfold numP; rw [if_pos hg])
    have hJ : tJ zs a = gJ zs a + gX zs a := by unfold tJ; rw [if_pos hB]
    have hS : tS zs a = strOfNums (segI zs (gJ zs a) (gJ zs a + gX zs a)) := by unfold tS; rw [if_pos hB]; rfl
    have hl : ((segI zs (gJ zs a) (gJ zs a + gX zs a)).length : Int) = gX zs a := by rw [segI_len (by omega) (by omega) (by omega)]; omega
    have hby : Bytes (segI zs (gJ zs a) (gJ zs a + gX zs a)) := fun z hz' => hz z (List.mem_of_mem_take (List.mem_of_mem_drop hz'))
    have hsz : ((tS zs a).size : Int) = gX zs a := by rw [hS, strOfNums_size]; exact hl
    refine ⟨n0, by omega, by omega, by omega, ?_⟩
    unfold putText
    rw [hsz, n5, hS, sb_strOfNums hby, hJ]
    exact segI_app n0 (by omega) (by omega) (by omega)
  · cases h

/-! ### lists of texts -/
noncomputable def seqS {α : Type} (p : Int → Option (α × Int)) (a : Int) : Nat → Option (List α × Int)
  | 0 => some ([], a)
  | k + 1 => match seqS p a k with
    | none => none
    | some (l, b) => match p b with
      | none => none
      | some (x, b') => some (l ++ [x], b')
theorem seqS_none {α : Type} {p : Int → Option (α × Int)} {a : Int} {k : Nat} (h : seqS p a k = none) : ∀ n : Nat, k ≤ n → seqS p a n = none
  | 0, hn => by obtain rfl : k = 0 := by omega
                exact h
  | n + 1, hn => by
    rcases Nat.lt_or_ge n k with h1 | h1
    · obtain rfl : k = n + 1 := by omega
      exact h
    · simp only [seqS, seqS_none h n h1]
theorem seqS_step {α : Type} {p : Int → Option (α × Int)} {a b b' : Int} {k : Nat} {l : List α} {x : α} (h : seqS p a k = some (l, b)) (hx : p b = some (x, b')) : seqS p a (k + 1) = some (l ++ [x], b') := by
  simp only [seqS, h, hx]
theorem seqS_fail {α : Type} {p : Int → Option (α × Int)} {a b : Int} {k : Nat} {l : List α} (h : seqS p a k = some (l, b)) (hx : p b = none) : seqS p a (k + 1) = none := by
  simp only [seqS, h, hx]
theorem seqS_len {α : Type} {p : Int → Option (α × Int)} {a : Int} : ∀ {k : Nat} {b : Int} {l : List α}, seqS p a k = some (l, b) → l.length = k
  | 0, b, l, h => by cases h; rfl
  | k + 1, b, l, h => by
    cases h1 : seqS p a k with
    | none => simp [seqS, h1] at h
    | some q =>
      obtain ⟨l', b'⟩ := q
      cases h2 : p b' with
      | none => simp [seqS, h1, h2] at h
      | some r =>
        obtain ⟨x, c⟩ := r
        rw [seqS_step h1 h2] at h
        cases h
        rw [List.length_append, seqS_len h1]
        rfl
noncomputable def txtsP (zs : List Int) (a : Int) : Option (List ByteArray × Int) := (numP zs a).bind fun r => seqS (txtP zs) r.2 r.1.toNat
def textsB (l : List ByteArray) : List Int := l.flatMap putText
def textsL (l : List ByteArray) : List Int := numI l.length ++ textsB l
theorem textsB_snoc (l : List ByteArray) (s : ByteArray) : textsB (l ++ [s]) = textsB l ++ putText s := by simp [textsB]
theorem textsB_step {l : List ByteArray} {k : Nat} {s : ByteArray} (h : l[k]? = some s) : textsB (l.take (k + 1)) = textsB (l.take k) ++ putText s := by
  rw [List.take_add_one, h]
  exact textsB_snoc _ _
theorem seq_canon {zs : List Int} (hz : Bytes zs) {a : Int} (h0 : 0 ≤ a) (h1 : a ≤ zs.length) : ∀ (k : Nat) {b : Int} {l : List ByteArray}, seqS (txtP zs) a k = some (l, b) → a + k ≤ b ∧ b ≤ zs.length ∧ textsB l = segI zs a b ∧ ∀ s ∈ l, s.size ≤ zs.length
  | 0, b, l, h => by
    cases h
    exact ⟨by omega, h1, (segI_nil _ _).symm, fun s hs => by cases hs⟩
  | k + 1, b, l, h => by
    cases e1 : seqS (txtP zs) a k with
    | none => simp [seqS, e1] at h
    | some q =>
      obtain ⟨l', b'⟩ := q
      cases e2 : txtP zs b' with
      | none => simp [seqS, e1, e2] at h
      | some r =>
        obtain ⟨x, c⟩ := r
        rw [seqS_step e1 e2] at h
        cases h
        obtain ⟨f1, f2, f3, f4⟩ := seq_canon hz h0 h1 k e1
        obtain ⟨g1, g2, g3, g4, g5⟩ := txt_canon hz e2
        refine ⟨by omega, g3, ?_, fun s hs => ?_⟩
        · rw [textsB_snoc, f3, g5]
          exact segI_app h0 (by omega) (by omega) g3
        · rcases List.mem_append.1 hs with hs | hs
          · exact f4 s hs
          · rw [List.mem_singleton.1 hs]
            exact g4
theorem texts_canon {zs : List Int} (hz : Bytes zs) {a b : Int} {l : List ByteArray} (h : txtsP zs a = some (l, b)) : 0 ≤ a ∧ a < b ∧ b ≤ zs.length ∧ textsL l = segI zs a b ∧ (∀ s ∈ l, s.size ≤ zs.length) ∧ l.length ≤ zs.length := by
  unfold txtsP at h
  cases e1 : numP zs a with
  | none => rw [e1] at h; cases h
  | some r =>
    obtain ⟨n, c⟩ := r
    rw [e1] at h
    replace h : seqS (txtP zs) c n.toNat = some (l, b) := h
    obtain ⟨n0, n1, n2, n3, n4, n5⟩ := num_canon hz e1
    obtain ⟨f1, f2, f3, f4⟩ := seq_canon hz (by omega) (by omega) _ h
    have hl := seqS_len h
    refine ⟨n0, by omega, f2, ?_, f4, by omega⟩
    unfold textsL
    rw [f3, hl, Int.toNat_of_nonneg n3, n5]
    exact segI_app n0 (by omega) (by omega) f2

/-! ### machines -/
def rootsM (m : DMachine) : List Int := [m.xS, m.xE, m.xD] ++ (if m.xState = 1 ∨ m.xState = 2 then [m.xArg] else [])
noncomputable def rootsOk (l : List DNode) (roots : List Int) : Bool := clB (poolOk l = true ∧ ∀ r ∈ roots, 0 ≤ r ∧ r < l.length)
def tblM (m : DMachine) : List Int := (mvS 0 (reachL m.xPool.xNodes (rootsM m)) m.xPool.xNodes [] m.xPool.xNodes.length).2
def tidyD (m : DMachine) : DMachine :=
  ⟨⟨keepN m.xPool.xNodes (rootsM m)⟩, m.xAt, kid (tblM m) m.xS, kid (tblM m) m.xE, kid (tblM m) m.xD, m.xState, m.xAsk, if m.xState = 1 ∨ m.xState = 2 then kid (tblM m) m.xArg else m.xArg⟩
noncomputable def tidyM (m : DMachine) : DMachine := if rootsOk m.xPool.xNodes (rootsM m) = true then tidyD m else m
theorem rootsM_ok {c : DCode} {m : DMachine} (h : machineOk c m = true) : poolOk m.xPool.xNodes = true ∧ ∀ r ∈ rootsM m, Has m.xPool r := by
  obtain ⟨-, h1, h2, h3, h4, h5⟩ := machineOk_t.1 h
  refine ⟨h1, fun r hr => ?_⟩
  unfold rootsM at hr
  rcases List.mem_append.1 hr with hr | hr
  · simp only [List.mem_cons, List.not_mem_nil, or_false] at hr
    rcases hr with rfl | rfl | rfl
    · exact h2
    · exact h3
    · exact h4
  · split at hr
    · rename_i hs
      rw [List.mem_singleton.1 hr]
      rcases hs with hs | hs
      · have := (mst_k1 hs).1 h5
        unfold Has
        omega
      · have := (mst_k2 hs).1 h5
        unfold Has
        omega
    · cases hr
theorem tidy_yes {c : DCode} {m : DMachine} (h : machineOk c m = true) : tidyM m = tidyD m := by
  unfold tidyM
  have e : rootsOk m.xPool.xNodes (rootsM m) = true := clB_t.2 (rootsM_ok h)
  rw [if_pos e]
def machB (m : DMachine) : List Int := numI m.xAt ++ (numI m.xState ++ (numI m.xAsk ++ (numI m.xS ++ (numI m.xE ++ (numI m.xD ++ (numI m.xArg ++ packL m.xPool.xNodes))))))
theorem machB_bytes (m : DMachine) : Bytes (machB m) :=
  (numI_bytes _).app ((numI_bytes _).app ((numI_bytes _).app ((numI_bytes _).app ((numI_bytes _).app ((numI_bytes _).app ((numI_bytes _).app (packA_bytes _ _)))))))
noncomputable def mpS (c : DCode) (m : DMachine) : ByteArray := if machineOk c m = true then strOfNums (machB (tidyM m)) else ⟨#[]⟩
noncomputable def machP (zs : List Int) (a : Int) : Option (DMachine × Int) :=
  (numP zs a).bind fun r1 => (numP zs r1.2).bind fun r2 => (numP zs r2.2).bind fun r3 => (numP zs r3.2).bind fun r4 => (numP zs r4.2).bind fun r5 => (numP zs r5.2).bind fun r6 => (numP zs r6.2).bind fun r7 =>
    (poolP zs r7.2).bind fun r8 => some (⟨⟨r8.1⟩, r1.1, r4.1, r5.1, r6.1, r2.1, r3.1, r7.1⟩, r8.2)
noncomputable def mrdP (c : DCode) (s : ByteArray) : Option DMachine :=
  match machP (sb s) 0 with
  | some (m, _) => if machineOk c m = true ∧ mpS c m = s then some m else none
  | none => none

theorem num_at (pre post : List Int) {x : Int} (h0 : 0 ≤ x) (h1 : x ≤ 9223372036854775807) : numP (pre ++ (numI x ++ post)) (pre.length : Nat) = some (x, (((pre ++ numI x).length : Nat) : Int)) := by
  obtain ⟨e1, e2, e3⟩ := num_mid pre post h0 h1
  rw [List.append_assoc] at e1 e2 e3
  unfold numP
  rw [if_pos e1, e2, e3, List.length_append]
theorem nds_mid (pre post : List Int) {l : List DNode} (h : NodesOk l) (hl : l.length ≤ 400000) : ∀ k : Nat, k ≤ l.length → ndsS (pre ++ packL l ++ post) (((pre ++ packA l 0).length : Nat) : Int) k = some (l.take k, (((pre ++ packA l k).length : Nat) : Int))
  | 0, _ => rfl
  | k + 1, hk => by
    have hx : l[k]? = some l[k] := List.getElem?_eq_getElem (by omega)
    obtain ⟨r, hr⟩ := packA_pre l (l.length - (k + 1)) (k + 1) (by omega)
    rw [packA_step hx] at hr
    have hn := node_mid (pre ++ packA l k) (r ++ post) (h k _ hx) (by omega)
    have e : pre ++ packA l k ++ nodeB l[k] ++ (r ++ post) = pre ++ packL l ++ post := by rw [hr]; simp
    rw [e] at hn
    rw [ndsS_step (nds_mid pre post h hl k (by omega)) hn, List.take_add_one, hx, packA_step hx]
    simp
    omega
theorem pool_at (pre post : List Int) {l : List DNode} (h : poolOk l = true) : poolP (pre ++ packL l ++ post) (pre.length : Nat) = some (l, (((pre ++ packL l).length : Nat) : Int)) := by
  obtain ⟨hl, hN⟩ := poolOk_t.1 h
  obtain ⟨r, hr⟩ := packA_pre l l.length 0 (by omega)
  obtain ⟨a1, a2, a3⟩ := num_mid pre (r ++ post) (x := l.length) (by omega) (by omega)
  have e : pre ++ packL l ++ post = pre ++ numI l.length ++ (r ++ post) := by rw [hr]; simp [packA]
  rw [← e] at a1 a2 a3
  have a4 : gJ (pre ++ packL l ++ post) (pre.length : Nat) = (((pre ++ packA l 0).length : Nat) : Int) := by
    rw [a3]
    simp [packA]
  unfold poolP
  rw [if_pos ⟨a1, by omega⟩, a2, a4, Int.toNat_natCast]
  have := nds_mid pre post hN (by omega) l.length (Nat.le_refl _)
  rw [List.take_length] at this
  exact this
theorem kid_reach {c : DCode} {m : DMachine} (h : machineOk c m = true) {r : Int} (hr : r ∈ rootsM m) : 0 ≤ kid (tblM m) r ∧ kid (tblM m) r < (keepN m.xPool.xNodes (rootsM m)).length := by
  obtain ⟨hp, hR⟩ := rootsM_ok h
  obtain ⟨r0, r1⟩ := hR r hr
  have hm := (mvS_ok (pre := []) hp (reach_closed hp (rootsM m)) (fun i x h => by simp at h) m.xPool.xNodes.length (Nat.le_refl _)).2 r.toNat (by omega) (reachL_root hr r0 r1)
  obtain ⟨j, e1, e2, e3⟩ := hm
  unfold kid tblM
  rw [e1]
  simp only [Option.getD_some]
  refine ⟨?_, e3⟩
  simp at e2
  omega
theorem mst_le {nl np : Int} {m : DMachine} (h : MState nl np m) : 0 ≤ m.xAt ∧ 0 ≤ m.xState ∧ m.xState ≤ 3 ∧ 0 ≤ m.xAsk ∧ m.xAsk ≤ 19 ∧ 0 ≤ m.xArg ∧ (m.xAt = 0 ∨ m.xAt < nl) ∧ (m.xArg = 0 ∨ m.xArg < np) := by
  by_cases h0 : m.xState = 0
  · have := (mst_k0 h0).1 h
    omega
  by_cases h1 : m.xState = 1
  · have := (mst_k1 h1).1 h
    omega
  by_cases h2 : m.xState = 2
  · have := (mst_k2 h2).1 h
    omega
  by_cases h3 : m.xState = 3
  · have := (mst_k3 h3).1 h
    omega
  exact absurd h (mst_ko h0 h1 h2 h3)
theorem mach_at {m : DMachine} (h1 : 0 ≤ m.xAt ∧ m.xAt ≤ 1000000000) (h2 : 0 ≤ m.xState ∧ m.xState ≤ 1000000000) (h3 : 0 ≤ m.xAsk ∧ m.xAsk ≤ 1000000000) (h4 : 0 ≤ m.xS ∧ m.xS ≤ 1000000000) (h5 : 0 ≤ m.xE ∧ m.xE ≤ 1000000000) (h6 : 0 ≤ m.xD ∧ m.xD ≤ 1000000000) (h7 : 0 ≤ m.xArg ∧ m.xArg ≤ 1000000000) (hp : poolOk m.xPool.xNodes = true) :
    machP (machB m) 0 = some (m, (((machB m).length : Nat) : Int)) := by
  obtain ⟨⟨l⟩, xAt, xS, xE, xD, xState, xAsk, xArg⟩ := m
  simp only at h1 h2 h3 h4 h5 h6 h7 hp
  have n1 := num_at [] (numI xState ++ (numI xAsk ++ (numI xS ++ (numI xE ++ (numI xD ++ (numI xArg ++ packL l)))))) (x := xAt) (by omega) (by omega)
  have n2 := num_at ([] ++ numI xAt) (numI xAsk ++ (numI xS ++ (numI xE ++ (numI xD ++ (numI xArg ++ packL l))))) (x := xState) (by omega) (by omega)
  have n3 := num_at ([] ++ numI xAt ++ numI xState) (numI xS ++ (numI xE ++ (numI xD ++ (numI xArg ++ packL l)))) (x := xAsk) (by omega) (by omega)
  have n4 := num_at ([] ++ numI xAt ++ numI xState ++ numI xAsk) (numI xE ++ (numI xD ++ (numI xArg ++ packL l))) (x := xS) (by omega) (by omega)
  have n5 := num_at ([] ++ numI xAt ++ numI xState ++ numI xAsk ++ numI xS) (numI xD ++ (numI xArg ++ packL l)) (x := xE) (by omega) (by omega)
  have n6 := num_at ([] ++ numI xAt ++ numI xState ++ numI xAsk ++ numI xS ++ numI xE) (numI xArg ++ packL l) (x := xD) (by omega) (by omega)
  have n7 := num_at ([] ++ numI xAt ++ numI xState ++ numI xAsk ++ numI xS ++ numI xE ++ numI xD) (packL l) (x := xArg) (by omega) (by omega)
  have n8 := pool_at ([] ++ numI xAt ++ numI xState ++ numI xAsk ++ numI xS ++ numI xE ++ numI xD ++ numI xArg) [] hp
  have E : machB ⟨⟨l⟩, xAt, xS, xE, xD, xState, xAsk, xArg⟩ = numI xAt ++ (numI xState ++ (numI xAsk ++ (numI xS ++ (numI xE ++ (numI xD ++ (numI xArg ++ packL l)))))) := rfl
  rw [E]
  generalize hZ : numI xAt ++ (numI xState ++ (numI xAsk ++ (numI xS ++ (numI xE ++ (numI xD ++ (numI xArg ++ packL l)))))) = Z
  have z1 : [] ++ (numI xAt ++ (numI xState ++ (numI xAsk ++ (numI xS ++ (numI xE ++ (numI xD ++ (numI xArg ++ packL l))))))) = Z := by rw [← hZ]; rfl
  have z2 : [] ++ numI xAt ++ (numI xState ++ (numI xAsk ++ (numI xS ++ (numI xE ++ (numI xD ++ (numI xArg ++ packL l)))))) = Z := by rw [← hZ]; simp only [List.append_assoc, List.nil_append]
  have z3 : [] ++ numI xAt ++ numI xState ++ (numI xAsk ++ (numI xS ++ (numI xE ++ (numI xD ++ (numI xArg ++ packL l))))) = Z := by rw [← hZ]; simp only [List.append_assoc, List.nil_append]
  have z4 : [] ++ numI xAt ++ numI xState ++ numI xAsk ++ (numI xS ++ (numI xE ++ (numI xD ++ (numI xArg ++ packL l)))) = Z := by rw [← hZ]; simp only [List.append_assoc, List.nil_append]
  have z5 : [] ++ numI xAt ++ numI xState ++ numI xAsk ++ numI xS ++ (numI xE ++ (numI xD ++ (numI xArg ++ packL l))) = Z := by rw [← hZ]; simp only [List.append_assoc, List.nil_append]
  have z6 : [] ++ numI xAt ++ numI xState ++ numI xAsk ++ numI xS ++ numI xE ++ (numI xD ++ (numI xArg ++ packL l)) = Z := by rw [← hZ]; simp only [List.append_assoc, List.nil_append]
  have z7 : [] ++ numI xAt ++ numI xState ++ numI xAsk ++ numI xS ++ numI xE ++ numI xD ++ (numI xArg ++ packL l) = Z := by rw [← hZ]; simp only [List.append_assoc, List.nil_append]
  have z8 : [] ++ numI xAt ++ numI xState ++ numI xAsk ++ numI xS ++ numI xE ++ numI xD ++ numI xArg ++ packL l ++ [] = Z := by rw [← hZ]; simp only [List.append_assoc, List.nil_append, List.append_nil]
  have z9 : [] ++ numI xAt ++ numI xState ++ numI xAsk ++ numI xS ++ numI xE ++ numI xD ++ numI xArg ++ packL l = Z := by rw [← hZ]; simp only [List.append_assoc, List.nil_append]
  rw [z1] at n1
  rw [z2] at n2
  rw [z3] at n3
  rw [z4] at n4
  rw [z5] at n5
  rw [z6] at n6
  rw [z7] at n7
  rw [z8, z9] at n8
  unfold machP
  replace n1 : numP Z 0 = some (xAt, ((([] ++ numI xAt : List Int).length : Nat) : Int)) := n1
  rw [n1]
  simp only [Option.bind_some]
  rw [n2]
  simp only [Option.bind_some]
  rw [n3]
  simp only [Option.bind_some]
  rw [n4]
  simp only [Option.bind_some]
  rw [n5]
  simp only [Option.bind_some]
  rw [n6]
  simp only [Option.bind_some]
  rw [n7]
  simp only [Option.bind_some]
  rw [n8]
  rfl
theorem tidy_at {c : DCode} {m : DMachine} (h : machineOk c m = true) : machP (machB (tidyM m)) 0 = some (tidyM m, (((machB (tidyM m)).length : Nat) : Int)) := by
  have hm := machineOk_t.1 h
  obtain ⟨hc, h1, h2, h3, h4, h5⟩ := hm
  have hcl := (codeOk_t.1 hc)
  have hle := mst_le h5
  have hkl := keep_len m.xPool.xNodes (rootsM m)
  have hp3 := (poolOk_t.1 h1).1
  have r1 := kid_reach h (r := m.xS) (by unfold rootsM; simp)
  have r2 := kid_reach h (r := m.xE) (by unfold rootsM; simp)
  have r3 := kid_reach h (r := m.xD) (by unfold rootsM; simp)
  have hnl : m.xAt ≤ 400 := by
    have : c.xList.length ≤ 400 := hcl.2.1
    omega
  rw [tidy_yes h]
  refine mach_at ?_ ?_ ?_ ?_ ?_ ?_ ?_ ?_
  · show 0 ≤ m.xAt ∧ m.xAt ≤ 1000000000
    omega
  · show 0 ≤ m.xState ∧ m.xState ≤ 1000000000
    omega
  · show 0 ≤ m.xAsk ∧ m.xAsk ≤ 1000000000
    omega
  · show 0 ≤ kid (tblM m) m.xS ∧ kid (tblM m) m.xS ≤ 1000000000
    omega
  · show 0 ≤ kid (tblM m) m.xE ∧ kid (tblM m) m.xE ≤ 1000000000
    omega
  · show 0 ≤ kid (tblM m) m.xD ∧ kid (tblM m) m.xD ≤ 1000000000
    omega
  · show 0 ≤ (if m.xState = 1 ∨ m.xState = 2 then kid (tblM m) m.xArg else m.xArg) ∧ (if m.xState = 1 ∨ m.xState = 2 then kid (tblM m) m.xArg else m.xArg) ≤ 1000000000
    split
    · rename_i hs
      have r4 := kid_reach h (r := m.xArg) (by unfold rootsM; rw [if_pos hs]; simp)
      omega
    · omega
  · exact keep_ok h1 _
/-- What is a machine is read to its end. -/
theorem mrd_all {c : DCode} {s : ByteArray} {m : DMachine} {b : Int} (h : machP (sb s) 0 = some (m, b)) (h1 : machineOk c m = true) (h2 : mpS c m = s) : b = ((sb s).length : Nat) ∧ tidyM m = m := by
  unfold mpS at h2
  rw [if_pos h1] at h2
  have e : sb s = machB (tidyM m) := by rw [← h2]; exact sb_strOfNums (machB_bytes _)
  have hq := tidy_at h1
  rw [← e, h] at hq
  simp only [Option.some.injEq, Prod.mk.injEq] at hq
  exact ⟨hq.2, hq.1.symm⟩
theorem mrd_some {c : DCode} {s : ByteArray} {m : DMachine} {b : Int} (h : machP (sb s) 0 = some (m, b)) (h1 : machineOk c m = true) (h2 : mpS c m = s) : mrdP c s = some m := by
  unfold mrdP
  rw [h]
  simp only
  rw [if_pos ⟨h1, h2⟩]
theorem mrd_no {c : DCode} {s : ByteArray} {m : DMachine} {b : Int} (h : machP (sb s) 0 = some (m, b)) (h1 : ¬ (machineOk c m = true ∧ mpS c m = s)) : mrdP c s = none := by
  unfold mrdP
  rw [h]
  simp only
  rw [if_neg h1]
theorem mrd_none {c : DCode} {s : ByteArray} (h : machP (sb s) 0 = none) : mrdP c s = none := by
  unfold mrdP
  rw [h]
theorem mrd_is {c : DCode} {s : ByteArray} {m : DMachine} (h : mrdP c s = some m) : machineOk c m = true ∧ mpS c m = s ∧ ∃ b, machP (sb s) 0 = some (m, b) := by
  unfold mrdP at h
  split at h
  · rename_i m' b hb
    split at h
    · rename_i hc
      cases h
      exact ⟨hc.1, hc.2, b, hb⟩
    · cases h
  · cases h

/-! ### processes -/
noncomputable def procB (c : DCode) (p : DProc) : List Int := numI p.xPid ++ putText (mpS c p.xM) ++ textsL p.xBox ++ textsL p.xOut
noncomputable def ppS (c : DCode) (p : DProc) : ByteArray := if procOk c p = true then strOfNums (procB c p) else ⟨#[]⟩
structure RawP where
  pid : Int
  text : ByteArray
  box : List ByteArray
  out : List ByteArray
noncomputable def rawP (zs : List Int) (a : Int) : Option (RawP × Int) :=
  (numP zs a).bind fun r1 => (txtP zs r1.2).bind fun r2 => (txtsP zs r2.2).bind fun r3 => (txtsP zs r3.2).bind fun r4 => some (⟨r1.1, r2.1, r3.1, r4.1⟩, r4.2)
noncomputable def prdP (c : DCode) (s : ByteArray) : Option DProc :=
  match rawP (sb s) 0 with
  | some (r, b) => (match mrdP c r.text with
    | some m => if b = ((sb s).length : Nat) ∧ procOk c ⟨r.pid, m, r.box, r.out⟩ = true then some ⟨r.pid, m, r.box, r.out⟩ else none
    | none => none)
  | none => none
theorem putText_bytes (s : ByteArray) : Bytes (putText s) := (numI_bytes _).app (sb_bytes _)
theorem textsL_bytes (l : List ByteArray) : Bytes (textsL l) := by
  refine (numI_bytes _).app fun z hz => ?_
  obtain ⟨s, _, h⟩ := List.mem_flatMap.1 hz
  exact putText_bytes s z h
theorem procB_bytes (c : DCode) (p : DProc) : Bytes (procB c p) := (((numI_bytes _).app (putText_bytes _)).app (textsL_bytes _)).app (textsL_bytes _)
theorem raw_parts {zs : List Int} {r : RawP} {b : Int} (h : rawP zs 0 = some (r, b)) : ∃ a1 a2 a3, numP zs 0 = some (r.pid, a1) ∧ txtP zs a1 = some (r.text, a2) ∧ txtsP zs a2 = some (r.box, a3) ∧ txtsP zs a3 = some (r.out, b) := by
  unfold rawP at h
  cases e1 : numP zs 0 with
  | none => rw [e1] at h; cases h
  | some q1 =>
    obtain ⟨x1, a1⟩ := q1
    rw [e1] at h
    simp only [Option.bind_some] at h
    cases e2 : txtP zs a1 with
    | none => rw [e2] at h; cases h
    | some q2 =>
      obtain ⟨x2, a2⟩ := q2
      rw [e2] at h
      simp only [Option.bind_some] at h
      cases e3 : txtsP zs a2 with
      | none => rw [e3] at h; cases h
      | some q3 =>
        obtain ⟨x3, a3⟩ := q3
        rw [e3] at h
        simp only [Option.bind_some] at h
        cases e4 : txtsP zs a3 with
        | none => rw [e4] at h; cases h
        | some q4 =>
          obtain ⟨x4, a4⟩ := q4
          rw [e4] at h
          simp only [Option.bind_some, Option.some.injEq, Prod.mk.injEq] at h
          obtain ⟨rfl, rfl⟩ := h
          exact ⟨a1, a2, a3, rfl, e2, e3, e4⟩
/-- What is read as a process is written as it was. -/
theorem raw_canon {zs : List Int} (hz : Bytes zs) {c : DCode} {r : RawP} {m : DMachine} {b : Int} (h : rawP zs 0 = some (r, b)) (hm : mrdP c r.text = some m) : procB c ⟨r.pid, m, r.box, r.out⟩ = segI zs 0 b ∧ 0 ≤ b ∧ b ≤ zs.length := by
  obtain ⟨a1, a2, a3, e1, e2, e3, e4⟩ := raw_parts h
  obtain ⟨n0, n1, n2, n3, n4, n5⟩ := num_canon hz e1
  obtain ⟨t0, t1, t2, t3, t4⟩ := txt_canon hz e2
  obtain ⟨u0, u1, u2, u3, -⟩ := texts_canon hz e3
  obtain ⟨v0, v1, v2, v3, -⟩ := texts_canon hz e4
  refine ⟨?_, by omega, v2⟩
  unfold procB
  simp only
  rw [(mrd_is hm).2.1, n5, t4, u3, v3, segI_app n0 (by omega) (by omega) t2, segI_app n0 (by omega) (by omega) u2, segI_app n0 (by omega) (by omega) v2]
theorem prd_some {c : DCode} {s : ByteArray} {r : RawP} {m : DMachine} {b : Int} (h : rawP (sb s) 0 = some (r, b)) (hm : mrdP c r.text = some m) (hp : procOk c ⟨r.pid, m, r.box, r.out⟩ = true) (hb : b = ((sb s).length : Nat)) : prdP c s = some ⟨r.pid, m, r.box, r.out⟩ := by
  unfold prdP
  rw [h]
  simp only
  rw [hm]
  simp only
  rw [if_pos ⟨hb, hp⟩]
theorem prd_iff {c : DCode} {s : ByteArray} {r : RawP} {m : DMachine} {b : Int} (h : rawP (sb s) 0 = some (r, b)) (hm : mrdP c r.text = some m) (hp : procOk c ⟨r.pid, m, r.box, r.out⟩ = true) : ppS c ⟨r.pid, m, r.box, r.out⟩ = s ↔ b = ((sb s).length : Nat) := by
  obtain ⟨h1, h2, h3⟩ := raw_canon (sb_bytes s) h hm
  unfold ppS
  rw [if_pos hp]
  constructor
  · intro e
    have e2 : sb s = procB c ⟨r.pid, m, r.box, r.out⟩ := by rw [← e]; exact sb_strOfNums (procB_bytes _ _)
    have hl := segI_len (zs := sb s) (a := 0) (b := b) (by omega) h2 h3
    rw [← h1, ← e2] at hl
    omega
  · rintro rfl
    rw [h1, segI_all, strOfNums_sb]
theorem prd_none1 {c : DCode} {s : ByteArray} (h : rawP (sb s) 0 = none) : prdP c s = none := by
  unfold prdP
  rw [h]
theorem prd_none2 {c : DCode} {s : ByteArray} {r : RawP} {b : Int} (h : rawP (sb s) 0 = some (r, b)) (hm : mrdP c r.text = none) : prdP c s = none := by
  unfold prdP
  rw [h]
  simp only
  rw [hm]
theorem prd_no {c : DCode} {s : ByteArray} {r : RawP} {m : DMachine} {b : Int} (h : rawP (sb s) 0 = some (r, b)) (hm : mrdP c r.text = some m) (hn : ¬ (b = ((sb s).length : Nat) ∧ procOk c ⟨r.pid, m, r.box, r.out⟩ = true)) : prdP c s = none := by
  unfold prdP
  rw [h]
  simp only
  rw [hm]
  simp only
  rw [if_neg hn]

end Go.Proofs.YtcaonpncopfeoaaGreat.V
