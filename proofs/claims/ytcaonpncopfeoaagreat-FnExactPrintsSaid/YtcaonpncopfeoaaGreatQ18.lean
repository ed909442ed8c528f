/- Pools read from bytes: the program's reader. -/
import Derived.Test.YtcaonpncopfeoaaGreatQ17
set_option linter.unusedVariables false
set_option linter.unusedSimpArgs false
namespace Go.Proofs.YtcaonpncopfeoaaGreat.V
open Go

def MdE18 (f : Nat) : List Mode :=
  match f with
  | 82 => [.mptr]
  | 264 => [.mptr]
  | _ => []
def E18 : Env := ⟨τ, MdE18⟩

/-- So many nodes read from a place on. -/
noncomputable def ndsS (zs : List Int) (a : Int) : Nat → Option (List DNode × Int)
  | 0 => some ([], a)
  | k + 1 => match ndsS zs a k with
    | none => none
    | some (l, b) => match ndP zs b with
      | none => none
      | some (x, b') => some (l ++ [x], b')
theorem ndsS_none {zs : List Int} {a : Int} {k : Nat} (h : ndsS zs a k = none) : ∀ n : Nat, k ≤ n → ndsS zs a n = none
  | 0, hn => by obtain rfl : k = 0 := by omega
                exact h
  | n + 1, hn => by
    rcases Nat.lt_or_ge n k with h1 | h1
    · obtain rfl : k = n + 1 := by omega
      exact h
    · simp only [ndsS, ndsS_none h n h1]
theorem ndsS_step {zs : List Int} {a b b' : Int} {k : Nat} {l : List DNode} {x : DNode} (h : ndsS zs a k = some (l, b)) (hx : ndP zs b = some (x, b')) : ndsS zs a (k + 1) = some (l ++ [x], b') := by
  simp only [ndsS, h, hx]
theorem ndsS_fail {zs : List Int} {a b : Int} {k : Nat} {l : List DNode} (h : ndsS zs a k = some (l, b)) (hx : ndP zs b = none) : ndsS zs a (k + 1) = none := by
  simp only [ndsS, h, hx]
/-- A pool read from a place on. -/
noncomputable def poolP (zs : List Int) (a : Int) : Option (List DNode × Int) :=
  if gB zs a = true ∧ gX zs a ≤ 3000 then ndsS zs (gJ zs a) (gX zs a).toNat else none
/-- What a reader of nodes leaves. -/
def PlPost (zs : List Int) (a : Int) (ok : Bool) (l : List DNode) (a' : Int) (ok' : Bool) : Prop :=
  (∀ x ∈ l, x.ok) ∧ l.length ≤ 3001 ∧ Pos zs a' ∧
    ((ok' = true ∧ ok = true ∧ poolP zs a = some (l, a')) ∨ (ok' = true ∧ ok = true ∧ l.length = 3001 ∧ poolP zs a = none) ∨ (ok' = false ∧ (ok = false ∨ poolP zs a = none)))
/-- On the way. -/
def PlInv (zs : List Int) (a : Int) (ok : Bool) (cnt : Int) (k : Int) (l : List DNode) (b : Int) (okb : Bool) : Prop :=
  (∀ x ∈ l, x.ok) ∧ (l.length : Int) = k ∧ k ≤ 3001 ∧ 0 ≤ k ∧ (k = 0 ∨ k ≤ cnt) ∧ Pos zs b ∧
    ((okb = true ∧ ok = true ∧ gB zs a = true ∧ cnt = gX zs a ∧ ndsS zs (gJ zs a) k.toNat = some (l, b)) ∨ (okb = false ∧ (ok = false ∨ gB zs a = false ∨ (cnt = gX zs a ∧ k ≤ cnt ∧ ndsS zs (gJ zs a) k.toNat = none) ∨ poolP zs a = none)))
theorem pl_start {zs : List Int} (hz : Bytes zs) {a : Int} {ok : Bool} (h : gB zs a = true) : PlInv zs a ok (gX zs a) 0 [] (gJ zs a) ok :=
  ⟨fun x hx => (by cases hx), rfl, by omega, by omega, .inl rfl, posJ hz a, by cases ok; exact .inr ⟨rfl, .inl rfl⟩; exact .inl ⟨rfl, rfl, h, rfl, rfl⟩⟩
theorem pl_start0 {zs : List Int} {a : Int} {ok : Bool} (hp : Pos zs a) (h : gB zs a = false) : PlInv zs a ok 0 0 [] a false :=
  ⟨fun x hx => (by cases hx), rfl, by omega, by omega, .inl rfl, hp, .inr ⟨rfl, .inr (.inl h)⟩⟩
theorem pl_step {zs : List Int} {a : Int} {ok : Bool} {cnt k : Int} {l : List DNode} {b b' : Int} {ok' : Bool} {x : DNode} (h : PlInv zs a ok cnt k l b true) (hk : k < cnt) (h3 : k ≤ 3000) (hx : NdPost zs b true x b' ok') : PlInv zs a ok cnt (k + 1) (l ++ [x]) b' ok' := by
  obtain ⟨h1, h2, h4, h5, h6, h7, h8⟩ := h
  obtain ⟨x1, x2, x3⟩ := hx
  refine ⟨fun y hy => ?_, by rw [List.length_append, List.length_singleton]; omega, by omega, by omega, .inr (by omega), x2, ?_⟩
  · rw [List.mem_append, List.mem_singleton] at hy
    rcases hy with hy | rfl
    · exact h1 y hy
    · exact x1
  · have ek : (k + 1).toNat = k.toNat + 1 := by omega
    rcases h8 with ⟨_, e2, e3, e4, e5⟩ | ⟨e1, _⟩
    · rcases x3 with ⟨f1, _, f3⟩ | ⟨f1, f2⟩
      · exact .inl ⟨f1, e2, e3, e4, by rw [ek]; exact ndsS_step e5 f3⟩
      · rcases f2 with f2 | f2
        · cases f2
        · exact .inr ⟨f1, .inr (.inr (.inl ⟨e4, by omega, by rw [ek]; exact ndsS_fail e5 f2⟩))⟩
    · cases e1
theorem pl_end {zs : List Int} {a : Int} {ok : Bool} {cnt k : Int} {l : List DNode} {b : Int} {okb : Bool} (h : PlInv zs a ok cnt k l b okb) (hc : 0 ≤ cnt) (he : cnt ≤ k ∨ okb = false ∨ 3000 < k) : PlPost zs a ok l b okb := by
  obtain ⟨h1, h2, h4, h5, h6, h7, h8⟩ := h
  refine ⟨h1, by omega, h7, ?_⟩
  rcases h8 with ⟨e1, e2, e3, e4, e5⟩ | ⟨e1, e2⟩
  · by_cases hb : 3000 < k
    · refine .inr (.inl ⟨e1, e2, by omega, ?_⟩)
      unfold poolP
      rw [if_neg (by omega)]
    · have : cnt ≤ k := by
        rcases he with he | he | he
        · exact he
        · rw [he] at e1; cases e1
        · omega
      refine .inl ⟨e1, e2, ?_⟩
      unfold poolP
      rw [if_pos ⟨e3, by omega⟩, ← e4, show cnt.toNat = k.toNat by omega]
      exact e5
  · refine .inr (.inr ⟨e1, ?_⟩)
    rcases e2 with e2 | e2 | ⟨e2, e3, e4⟩ | e2
    · exact .inl e2
    · right
      unfold poolP
      rw [if_neg (by rw [e2]; simp)]
    · right
      unfold poolP
      split
      · exact ndsS_none e4 _ (by omega)
      · rfl
    · exact .inr e2

set_option maxRecDepth 100000 in
set_option maxHeartbeats 4000000 in
theorem i_nodes_ok (zs : List Int) (a : Int) (ok : Bool) (hz : Bytes zs) (hl : zs.length ≤ 1000000000) (hp : Pos zs a) :
    FnV Tryz.prog 182 [curV zs a ok] fun rs outs => ∃ l a' ok', rs = [pR l] ∧ outs = [curC zs a' ok'] ∧ PlPost zs a ok l a' ok' := by
  refine fn_ok (E := E18) τ_ok mixed Tryz.func182 (by rfl) (by rfl) false (by simp [Tryz.f182]) ?_
  conv => whnf
  refine (rd_num _ hz hl hp).mono ?_
  have key : ∃ cnt b okb, 0 ≤ cnt ∧ cnt ≤ 9223372036854775807 ∧ PlInv zs a ok cnt 0 [] b okb ∧ ∀ rs outs, ((gB zs a = true ∧ rs = [iR (gX zs a)] ∧ outs = [curC zs (gJ zs a) ok]) ∨ (gB zs a = false ∧ rs = [iR 0] ∧ outs = [curC zs a false])) → rs = [iR cnt] ∧ outs = [curC zs b okb] := by
    cases h : gB zs a with
    | true =>
      have := gX_r hz a
      refine ⟨gX zs a, gJ zs a, ok, by omega, by omega, pl_start hz h, ?_⟩
      rintro _ _ (⟨_, rfl, rfl⟩ | ⟨h, _⟩)
      · exact ⟨rfl, rfl⟩
      · cases h
    | false =>
      refine ⟨0, a, false, by omega, by omega, pl_start0 hp h, ?_⟩
      rintro _ _ (⟨h, _⟩ | ⟨_, rfl, rfl⟩)
      · cases h
      · exact ⟨rfl, rfl⟩
  obtain ⟨cnt, b0, okb0, c0, c1, hI, hk⟩ := key
  intro rs outs hh
  obtain ⟨rfl, rfl⟩ := hk rs outs hh
  clear hh hk
  conv => whnf
  refine ⟨fun m s => ∃ (k : Int) (l : List DNode) (b : Int) (okb : Bool), PlInv zs a ok cnt k l b okb ∧ m = (3002 - k).toNat ∧
      ((l = [] ∧ s = ⟨[(0, .bptr 1000000 0 0), (2, .bptr 2 0 0), (3, .bptr 3 0 0), (4, .vals false [.sc (.int .i64 cnt)]), (5, .vals false [.sc (.int .i64 k)])],
        [(1000000, ⟨0, [.rd none 1 (bts zs), .sc (.int .i64 b), .sc (.bool okb)]⟩), (2, ⟨0, [.nil 5]⟩), (3, ⟨0, [.nil 5]⟩)], []⟩) ∨
       s = ⟨[(0, .bptr 1000000 0 0), (2, .bptr 2 0 0), (3, .bptr 3 0 0), (4, .vals false [.sc (.int .i64 cnt)]), (5, .vals false [.sc (.int .i64 k)])],
        [(1000000, ⟨0, [.rd none 1 (bts zs), .sc (.int .i64 b), .sc (.bool okb)]⟩), (2, ⟨0, [.nil 5]⟩), (3, ⟨0, [.ref 200 0]⟩)], [(200, ⟨true, 0, 0, true, 5, npC l⟩)]⟩),
    ⟨_, _, norm_wk (keep := [0, 2, 3, 4, 5]) (kb := [1000000, 2, 3]) (ρ := []) rfl, ⟨0, [], b0, okb0, hI, rfl, .inl ⟨rfl, rfl⟩⟩⟩, ?_⟩
  rintro m _ ⟨k, l, b, okb, hI, rfl, hs⟩
  have hk0 := hI.2.2.1
  have hk1 := hI.2.2.2.1
  have hll := hI.2.1
  have hpb := hI.2.2.2.2.2.1
  have hsz : ∀ n : Nat, n = 1 → ((npC l).length + n) * d274.bytes ≤ 140737488355328 := fun n hn => by
    rw [hn, npC_len]
    simp only [d274]
    omega
  rcases hs with ⟨rfl, rfl⟩ | rfl
  all_goals conv => whnf
  all_goals
    refine br_if (fun h1 => ?_) (fun h1 => ?_) <;> (try rw [h1]) <;> (conv => whnf)
  case' inr.refine_2 | inl.refine_2 =>
    rw [ltI_f] at h1
    exact ⟨_, _, _, rfl, rfl, pl_end hI c0 (.inl h1)⟩
  all_goals
    rw [ltI_t] at h1
    cases okb
  case' inl.refine_1.false | inr.refine_1.false =>
    conv => whnf
    exact ⟨_, _, _, rfl, rfl, pl_end hI c0 (.inr (.inl rfl))⟩
  all_goals conv => whnf
  all_goals
    refine br_if (fun h3 => ?_) (fun h3 => ?_) <;> (try rw [h3]) <;> (conv => whnf)
  case' inl.refine_1.true.refine_2 | inr.refine_1.true.refine_2 =>
    rw [leI_f] at h3
    exact ⟨_, _, _, rfl, rfl, pl_end hI c0 (.inr (.inr h3))⟩
  all_goals
    rw [leI_t] at h3
    refine (i_node_ok zs b true hz hl hpb).mono ?_
    rintro _ _ ⟨x, b', ok', rfl, rfl, hx⟩
    conv => whnf
    refine .inl ⟨flat_node x, ?_⟩
    conv => whnf
  all_goals
    refine ⟨hsz _ rfl, ?_⟩
    conv => whnf
    rw [wrp_i64 (x := k + 1) (by omega) (by omega)]
    refine ⟨(3002 - (k + 1)).toNat, _, by omega, norm_wk (keep := [0, 2, 3, 4, 5]) (kb := [1000000, 2, 3]) (ρ := [(31, some 200)]) rfl, ⟨k + 1, _, b', ok', pl_step hI h1 h3 hx, rfl, .inr ?_⟩⟩
    rw [← npC_app]
    rfl

end Go.Proofs.YtcaonpncopfeoaaGreat.V
