/- Pools read from bytes: the reference's reader. -/
import Derived.Test.YtcaonpncopfeoaaGreatQ18
set_option linter.unusedVariables false
set_option linter.unusedSimpArgs false
namespace Go.Proofs.YtcaonpncopfeoaaGreat.V
open Go

def MdE19 (f : Nat) : List Mode :=
  match f with
  | 74 => [.mptr]
  | 172 => [.rd, .rd]
  | 195 => [.rd]
  | _ => []
def E19 : Env := ⟨τ, MdE19⟩

theorem s_num {zs : List Int} {a : Int} (ok : Bool) (hz : Bytes zs) (hl : zs.length ≤ 1000000000) (hp : Pos zs a) :
    FnV Tryz.prog 74 [curV zs a ok] fun rs outs => ((gB zs a && ok) = true ∧ rs = [iR (gX zs a)] ∧ outs = [curC zs (gJ zs a) ok]) ∨ ((gB zs a && ok) = false ∧ rs = [iR 0] ∧ outs = [curC zs a false]) := by
  unfold Pos at hp
  exact s_l8Num_ok zs a ok hz hl (by omega) (by omega)
theorem s_num_t {zs : List Int} {a : Int} (hz : Bytes zs) (hl : zs.length ≤ 1000000000) (hp : Pos zs a) :
    FnV Tryz.prog 74 [curV zs a true] fun rs outs => (gB zs a = true ∧ rs = [iR (gX zs a)] ∧ outs = [curC zs (gJ zs a) true]) ∨ (gB zs a = false ∧ rs = [iR 0] ∧ outs = [curC zs a false]) := by
  refine (s_num true hz hl hp).mono ?_
  rintro _ _ (⟨h, rfl, rfl⟩ | ⟨h, rfl, rfl⟩)
  · rw [Bool.and_true] at h
    exact .inl ⟨h, rfl, rfl⟩
  · rw [Bool.and_true] at h
    exact .inr ⟨h, rfl, rfl⟩
theorem s_num_f {zs : List Int} {a : Int} (hz : Bytes zs) (hl : zs.length ≤ 1000000000) (hp : Pos zs a) :
    FnV Tryz.prog 74 [curV zs a false] fun rs outs => rs = [iR 0] ∧ outs = [curC zs a false] := by
  refine (s_num false hz hl hp).mono ?_
  rintro _ _ (⟨h, rfl, rfl⟩ | ⟨h, rfl, rfl⟩)
  · rw [Bool.and_false] at h
    cases h
  · exact ⟨rfl, rfl⟩
theorem s_text {zs : List Int} {a : Int} (hz : Bytes zs) (hl : zs.length ≤ 1000000000) (hp : Pos zs a) :
    FnV Tryz.prog 172 [bV zs, iV a] fun rs outs => rs = [sR (tS zs a), iR (tJ zs a), bR (tB zs a)] ∧ outs = [] := by
  unfold Pos at hp
  exact s_GetText_ok zs a hz hl (by omega) (by omega)
theorem flat5 (a b d e : Int) (c : ByteArray) : Flat 5 [[.sc (.int .i64 a), .sc (.int .i64 b), .sc (.string c), .sc (.int .i64 d), .sc (.int .i64 e)]] := flat_node ⟨a, b, c, d, e⟩

/-- A whole text of a pool. -/
noncomputable def allP (zs : List Int) (a : Int) : Option (List DNode) :=
  match poolP zs a with
  | some (l, b) => if b = zs.length ∧ poolOk l = true then some l else none
  | none => none

theorem end_f {zs : List Int} {a b : Int} {ok : Bool} {l : List DNode} (h : PlPost zs a ok l b false) : ok = false ∨ allP zs a = none := by
  obtain ⟨-, -, -, h⟩ := h
  rcases h with ⟨h, _⟩ | ⟨h, _⟩ | ⟨_, h | h⟩
  · cases h
  · cases h
  · exact .inl h
  · right
    unfold allP
    rw [h]
theorem end_t {zs : List Int} {a b : Int} {ok : Bool} {l : List DNode} (h : PlPost zs a ok l b true) (c : Bool) (hc : c = true ↔ b = zs.length ∧ poolOk l = true) :
    (c = true ∧ ok = true ∧ allP zs a = some l) ∨ (c = false ∧ (ok = false ∨ allP zs a = none)) := by
  obtain ⟨-, -, -, h⟩ := h
  rcases h with ⟨_, h1, h2⟩ | ⟨_, h1, h2, h3⟩ | ⟨h, _⟩
  · cases c with
    | true => exact .inl ⟨rfl, h1, by unfold allP; rw [h2]; simp only; rw [if_pos (hc.1 rfl)]⟩
    | false => exact .inr ⟨rfl, .inr (by unfold allP; rw [h2]; simp only; rw [if_neg (fun h => by cases hc.2 h)])⟩
  · refine .inr ⟨?_, .inr (by unfold allP; rw [h3])⟩
    cases c with
    | true =>
      have := (poolOk_t.1 (hc.1 rfl).2).1
      omega
    | false => rfl
  · cases h

set_option maxRecDepth 100000 in
set_option maxHeartbeats 8000000 in
theorem s_l8Read_ok (zs : List Int) (a : Int) (ok : Bool) (hz : Bytes zs) (hl : zs.length ≤ 1000000000) (hp : Pos zs a) :
    FnV Tryz.prog 173 [curV zs a ok] fun rs outs => ∃ l a' ok', rs = [pR l] ∧ outs = [curC zs a' ok'] ∧ (∀ x ∈ l, x.ok) ∧ l.length ≤ 3001 ∧ Pos zs a' ∧
      ((ok' = true ∧ ok = true ∧ allP zs a = some l) ∨ (ok' = false ∧ (ok = false ∨ allP zs a = none))) := by
  refine fn_ok (E := E19) τ_ok mixed Tryz.func173 (by rfl) (by rfl) false (by simp [Tryz.f173]) ?_
  conv => whnf
  have pJ : ∀ b, Pos zs (gJ zs b) := posJ hz
  have pT : ∀ b, Pos zs (tJ zs b) := posT hz
  have gr : ∀ b, 0 ≤ gX zs b ∧ gX zs b ≤ 9223372036854775807 := gX_r hz
  have ts : ∀ b, (tS zs b).size ≤ 9223372036854775807 := fun b => by have := tS_size zs b; omega
  have w1 : ∀ b, wrp .i64 (gX zs b - 1000000000) = gX zs b - 1000000000 := fun b => by have := gr b; exact wrp_i64 (by omega) (by omega)
  have w2 : wrp .i64 (0 - 1000000000) = -1000000000 := wrp_i64 (by decide) (by decide)
  refine (s_num _ hz hl hp).mono ?_
  have key : ∃ cnt b okb, 0 ≤ cnt ∧ cnt ≤ 9223372036854775807 ∧ PlInv zs a ok cnt 0 [] b okb ∧ (3000 < cnt → poolP zs a = none) ∧ ∀ rs outs, (((gB zs a && ok) = true ∧ rs = [iR (gX zs a)] ∧ outs = [curC zs (gJ zs a) ok]) ∨ ((gB zs a && ok) = false ∧ rs = [iR 0] ∧ outs = [curC zs a false])) → rs = [iR cnt] ∧ outs = [curC zs b okb] := by
    cases h : gB zs a with
    | true =>
      have := gX_r hz a
      cases ok with
      | true =>
        refine ⟨gX zs a, gJ zs a, true, by omega, by omega, pl_start hz h, fun h3 => by unfold poolP; rw [if_neg (by omega)], ?_⟩
        rintro _ _ (⟨_, rfl, rfl⟩ | ⟨h, _⟩)
        · exact ⟨rfl, rfl⟩
        · cases h
      | false =>
        refine ⟨0, a, false, by omega, by omega, ⟨fun x hx => (by cases hx), rfl, by omega, by omega, .inl rfl, hp, .inr ⟨rfl, .inl rfl⟩⟩, fun h3 => by omega, ?_⟩
        rintro _ _ (⟨h, _⟩ | ⟨_, rfl, rfl⟩)
        · cases h
        · exact ⟨rfl, rfl⟩
    | false =>
      refine ⟨0, a, false, by omega, by omega, pl_start0 hp h, fun h3 => by omega, ?_⟩
      rintro _ _ (⟨h, _⟩ | ⟨_, rfl, rfl⟩)
      · cases h
      · exact ⟨rfl, rfl⟩
  obtain ⟨cnt, b0, okb0, c0, c1, hI, hc, hk⟩ := key
  intro rs outs hh
  obtain ⟨rfl, rfl⟩ := hk rs outs hh
  clear hh hk
  conv => whnf
  have pre : ∃ okb1 : Bool, PlInv zs a ok cnt 0 [] b0 okb1 ∧ (okb1 = true → cnt ≤ 3000) ∧ okb1 = (if 3000 < cnt then false else okb0) := by
    by_cases h3 : 3000 < cnt
    · exact ⟨false, ⟨hI.1, hI.2.1, hI.2.2.1, hI.2.2.2.1, hI.2.2.2.2.1, hI.2.2.2.2.2.1, .inr ⟨rfl, .inr (.inr (.inr (hc h3)))⟩⟩, fun h => (by cases h), by rw [if_pos h3]⟩
    · exact ⟨okb0, hI, fun _ => by omega, by rw [if_neg h3]⟩
  obtain ⟨okb1, hI1, hc1, e1⟩ := pre
  refine br_if (fun h => ?_) (fun h => ?_) <;> (try rw [h]) <;> (conv => whnf)
  · rw [ltI_t] at h
    rw [if_pos h] at e1
    subst e1
    clear h hI hc
    refine ⟨fun m s => ∃ (k : Int) (l : List DNode) (b : Int) (okb : Bool), PlInv zs a ok cnt k l b okb ∧ (okb = true → cnt ≤ 3000) ∧ m = (3002 - k).toNat ∧
        ((l = [] ∧ s = ⟨[(0, .bptr 1000000 0 0), (2, .bptr 2 0 0), (3, .bptr 3 0 0), (4, .vals false [.sc (.int .i64 cnt)]), (5, .vals false [.sc (.int .i64 k)])],
          [(1000000, ⟨0, [.rd none 1 (bts zs), .sc (.int .i64 b), .sc (.bool okb)]⟩), (2, ⟨0, [.nil 5]⟩), (3, ⟨0, [.nil 5]⟩)], []⟩) ∨
         s = ⟨[(0, .bptr 1000000 0 0), (2, .bptr 2 0 0), (3, .bptr 3 0 0), (4, .vals false [.sc (.int .i64 cnt)]), (5, .vals false [.sc (.int .i64 k)])],
          [(1000000, ⟨0, [.rd none 1 (bts zs), .sc (.int .i64 b), .sc (.bool okb)]⟩), (2, ⟨0, [.nil 5]⟩), (3, ⟨0, [.ref 200 0]⟩)], [(200, ⟨true, 0, 0, true, 5, npC l⟩)]⟩),
      ⟨_, _, norm_wk (keep := [0, 2, 3, 4, 5]) (kb := [1000000, 2, 3]) (ρ := []) rfl, ⟨0, [], b0, _, hI1, hc1, rfl, .inl ⟨rfl, rfl⟩⟩⟩, ?_⟩
    clear hI1 hc1
    rintro m _ ⟨k, l, b, okb, hI, hct, rfl, hs⟩
    have hk0 := hI.2.2.1
    have hk1 := hI.2.2.2.1
    have hll := hI.2.1
    have hpb := hI.2.2.2.2.2.1
    have hsz : ∀ n : Nat, n = 1 → ((npC l).length + n) * d274.bytes ≤ 140737488355328 := fun n hn => by
      rw [hn, npC_len]
      simp only [d274]
      omega
    rcases hs with ⟨rfl, rfl⟩ | rfl
    · conv => whnf
      refine br_if (fun h1 => ?_) (fun h1 => ?_) <;> (try rw [h1]) <;> (conv => whnf)
      · rw [ltI_t] at h1
        cases okb
        · conv => whnf
          have hE := pl_end hI c0 (.inr (.inl rfl))
          obtain ⟨q1, q2, q3, -⟩ := id hE
          refine ⟨.one (.take 0 (.take 1 (.take 2 (.take 3 (.or 4 (.take 5 (.take 6 (.take 7 (.take 8 (.take 10 (.take 11 (.take 12 (.early 9 (.or 13 (.take 14 (.take 15 (.take 16 (.take 17 (.or 18 (.or 19 (.take 20 (.take 21 (.take 22 (.or 23 .done .nil)))) .nil) .nil))))) .nil))))))))) .nil))))), by rfl, ?_⟩
          conv => whnf
          repeat (refine ⟨rfl, ?_⟩; conv => whnf)
          exact ⟨_, _, _, rfl, rfl, q1, q2, q3, .inr ⟨rfl, end_f hE⟩⟩
        · conv => whnf
          have c3 := hct rfl
          refine (s_num_t hz hl hpb).mono ?_
          rintro _ _ (⟨hb, rfl, rfl⟩ | ⟨hb, rfl, rfl⟩) <;> (conv => whnf)
          repeat' (first
            | (refine br_if (fun h => ?_) (fun h => ?_) <;> (try rw [h]) <;> (conv => whnf))
            | (refine (s_num_t hz hl (by first | exact hpb | exact pJ _ | exact pT _)).mono ?_; rintro _ _ (⟨h, rfl, rfl⟩ | ⟨h, rfl, rfl⟩) <;> (conv => whnf))
            | (refine (s_num_f hz hl (by first | exact hpb | exact pJ _ | exact pT _)).mono ?_; rintro _ _ ⟨rfl, rfl⟩; conv => whnf)
            | (refine ⟨.one (.take 0 (.take 1 (.take 2 (.take 4 (.take 5 (.take 6 (.early 7 (.or 3 (.or 8 (.calm 9 (.calm 10 (.calm 11 (.calm 12 (.calm 13 (.calm 14 (.calm 15 .done))))))) .nil) .nil)))))))), by rfl, ?_⟩; conv => whnf)
            | (refine ⟨rfl, ?_⟩; conv => whnf)
            | (refine (s_text hz hl (by first | exact hpb | exact pJ _ | exact pT _)).mono ?_; rintro _ _ ⟨rfl, rfl⟩; conv => whnf)
            | (refine .inl ⟨flat5 _ _ _ _ _, ?_⟩; conv => whnf)
            | (refine ⟨hsz _ rfl, ?_⟩; conv => whnf)
            | fail)
          all_goals rw [wrp_i64 (x := k + 1) (by omega) (by omega)]
          all_goals refine ⟨(3002 - (k + 1)).toNat, _, by omega, norm_wk (keep := [0, 2, 3, 4, 5]) (kb := [1000000, 2, 3]) (ρ := [(103, some 200)]) rfl, ⟨k + 1, [] ++ [⟨_, _, _, _, _⟩], _, _, pl_step hI h1 (by omega) ?_, fun _ => c3, rfl, .inr (by rw [← npC_app]; rfl)⟩⟩
          all_goals simp only [eqI_t, eqI_f, w1, w2] at *
          all_goals refine ⟨⟨?_, ?_, ?_, ?_, ?_⟩, ?_, ?_⟩
          all_goals first
            | exact hpb
            | exact pJ _
            | exact pT _
            | exact ts _
            | exact Nat.zero_le _
            | (have := gr; simp only; constructor <;> first | omega | (have := gr (gJ zs b); omega) | (have := gr b; omega) | (have := gr (gJ zs (gJ zs b)); omega))
            | skip
          all_goals first
            | (exfalso; omega)
            | (refine .inr ⟨rfl, .inr ?_⟩; simp [ndP, nd0, *]; done)
            | (refine .inl ⟨rfl, rfl, ?_⟩; simp [ndP, nd0, *]; done)
            | (rcases hb2 : tB zs (gJ zs b) with _ | _
               · exact .inr ⟨rfl, .inr (by simp [ndP, *])⟩
               · exact .inl ⟨rfl, rfl, by simp [ndP, *]⟩)
      · rw [ltI_f] at h1
        cases okb
        · have hE := pl_end hI c0 (.inl h1)
          obtain ⟨q1, q2, q3, -⟩ := id hE
          refine ⟨.one (.take 0 (.take 1 (.take 2 (.take 3 (.or 4 (.take 5 (.take 6 (.take 7 (.take 8 (.take 10 (.take 11 (.take 12 (.early 9 (.or 13 (.take 14 (.take 15 (.take 16 (.take 17 (.or 18 (.or 19 (.take 20 (.take 21 (.take 22 (.or 23 .done .nil)))) .nil) .nil))))) .nil))))))))) .nil))))), by rfl, ?_⟩
          conv => whnf
          repeat (refine ⟨rfl, ?_⟩; conv => whnf)
          exact ⟨_, _, _, rfl, rfl, q1, q2, q3, .inr ⟨rfl, end_f hE⟩⟩
        · have hE := pl_end hI c0 (.inl h1)
          obtain ⟨q1, q2, q3, -⟩ := id hE
          refine ⟨.one (.take 0 (.take 1 (.take 2 (.take 3 (.or 4 (.take 5 (.take 6 (.take 7 (.take 8 (.take 10 (.take 11 (.take 12 (.early 9 (.or 13 (.take 14 (.take 15 (.take 16 (.take 17 (.or 18 (.or 19 (.take 20 (.take 21 (.take 22 (.or 23 .done .nil)))) .nil) .nil))))) .nil))))))))) .nil))))), by rfl, ?_⟩
          conv => whnf
          repeat (refine ⟨rfl, ?_⟩; conv => whnf)
          refine br_if (fun h9 => ?_) (fun h9 => ?_) <;> (try rw [h9]) <;> (conv => whnf)
          · repeat (refine ⟨rfl, ?_⟩; conv => whnf)
            refine (s_PoolOk_ok ⟨[]⟩ ⟨by show ([] : List DNode).length ≤ _; omega, q1⟩).mono ?_
            rintro _ _ ⟨rfl, rfl⟩
            conv => whnf
            repeat (refine ⟨rfl, ?_⟩; conv => whnf)
            rw [eqI_t, bts_len] at h9
            exact ⟨_, _, _, rfl, rfl, q1, q2, q3, end_t hE _ ⟨fun h => ⟨h9, h⟩, fun h => h.2⟩⟩
          · repeat (refine ⟨rfl, ?_⟩; conv => whnf)
            rw [eqI_f, bts_len] at h9
            exact ⟨_, _, _, rfl, rfl, q1, q2, q3, end_t hE false ⟨fun h => (by cases h), fun h => absurd h.1 h9⟩⟩
    · conv => whnf
      refine br_if (fun h1 => ?_) (fun h1 => ?_) <;> (try rw [h1]) <;> (conv => whnf)
      · rw [ltI_t] at h1
        cases okb
        · conv => whnf
          have hE := pl_end hI c0 (.inr (.inl rfl))
          obtain ⟨q1, q2, q3, -⟩ := id hE
          refine ⟨.one (.take 0 (.take 1 (.take 2 (.take 3 (.or 4 (.take 5 (.take 6 (.take 7 (.take 8 (.take 10 (.take 11 (.take 12 (.early 9 (.or 13 (.take 14 (.take 15 (.take 16 (.take 17 (.or 18 (.or 19 (.take 20 (.take 21 (.take 22 (.or 23 .done .nil)))) .nil) .nil))))) .nil))))))))) .nil))))), by rfl, ?_⟩
          conv => whnf
          repeat (refine ⟨rfl, ?_⟩; conv => whnf)
          exact ⟨_, _, _, rfl, rfl, q1, q2, q3, .inr ⟨rfl, end_f hE⟩⟩
        · conv => whnf
          have c3 := hct rfl
          refine (s_num_t hz hl hpb).mono ?_
          rintro _ _ (⟨hb, rfl, rfl⟩ | ⟨hb, rfl, rfl⟩) <;> (conv => whnf)
          repeat' (first
            | (refine br_if (fun h => ?_) (fun h => ?_) <;> (try rw [h]) <;> (conv => whnf))
            | (refine (s_num_t hz hl (by first | exact hpb | exact pJ _ | exact pT _)).mono ?_; rintro _ _ (⟨h, rfl, rfl⟩ | ⟨h, rfl, rfl⟩) <;> (conv => whnf))
            | (refine (s_num_f hz hl (by first | exact hpb | exact pJ _ | exact pT _)).mono ?_; rintro _ _ ⟨rfl, rfl⟩; conv => whnf)
            | (refine ⟨.one (.take 0 (.take 1 (.take 2 (.take 4 (.take 5 (.take 6 (.early 7 (.or 3 (.or 8 (.calm 9 (.calm 10 (.calm 11 (.calm 12 (.calm 13 (.calm 14 (.calm 15 .done))))))) .nil) .nil)))))))), by rfl, ?_⟩; conv => whnf)
            | (refine ⟨rfl, ?_⟩; conv => whnf)
            | (refine (s_text hz hl (by first | exact hpb | exact pJ _ | exact pT _)).mono ?_; rintro _ _ ⟨rfl, rfl⟩; conv => whnf)
            | (refine .inl ⟨flat5 _ _ _ _ _, ?_⟩; conv => whnf)
            | (refine ⟨hsz _ rfl, ?_⟩; conv => whnf)
            | fail)
          all_goals rw [wrp_i64 (x := k + 1) (by omega) (by omega)]
          all_goals refine ⟨(3002 - (k + 1)).toNat, _, by omega, norm_wk (keep := [0, 2, 3, 4, 5]) (kb := [1000000, 2, 3]) (ρ := [(103, some 200)]) rfl, ⟨k + 1, l ++ [⟨_, _, _, _, _⟩], _, _, pl_step hI h1 (by omega) ?_, fun _ => c3, rfl, .inr (by rw [← npC_app]; rfl)⟩⟩
          all_goals simp only [eqI_t, eqI_f, w1, w2] at *
          all_goals refine ⟨⟨?_, ?_, ?_, ?_, ?_⟩, ?_, ?_⟩
          all_goals first
            | exact hpb
            | exact pJ _
            | exact pT _
            | exact ts _
            | exact Nat.zero_le _
            | (have := gr; simp only; constructor <;> first | omega | (have := gr (gJ zs b); omega) | (have := gr b; omega) | (have := gr (gJ zs (gJ zs b)); omega))
            | skip
          all_goals first
            | (exfalso; omega)
            | (refine .inr ⟨rfl, .inr ?_⟩; simp [ndP, nd0, *]; done)
            | (refine .inl ⟨rfl, rfl, ?_⟩; simp [ndP, nd0, *]; done)
            | (rcases hb2 : tB zs (gJ zs b) with _ | _
               · exact .inr ⟨rfl, .inr (by simp [ndP, *])⟩
               · exact .inl ⟨rfl, rfl, by simp [ndP, *]⟩)
      · rw [ltI_f] at h1
        cases okb
        · have hE := pl_end hI c0 (.inl h1)
          obtain ⟨q1, q2, q3, -⟩ := id hE
          refine ⟨.one (.take 0 (.take 1 (.take 2 (.take 3 (.or 4 (.take 5 (.take 6 (.take 7 (.take 8 (.take 10 (.take 11 (.take 12 (.early 9 (.or 13 (.take 14 (.take 15 (.take 16 (.take 17 (.or 18 (.or 19 (.take 20 (.take 21 (.take 22 (.or 23 .done .nil)))) .nil) .nil))))) .nil))))))))) .nil))))), by rfl, ?_⟩
          conv => whnf
          repeat (refine ⟨rfl, ?_⟩; conv => whnf)
          exact ⟨_, _, _, rfl, rfl, q1, q2, q3, .inr ⟨rfl, end_f hE⟩⟩
        · have hE := pl_end hI c0 (.inl h1)
          obtain ⟨q1, q2, q3, -⟩ := id hE
          refine ⟨.one (.take 0 (.take 1 (.take 2 (.take 3 (.or 4 (.take 5 (.take 6 (.take 7 (.take 8 (.take 10 (.take 11 (.take 12 (.early 9 (.or 13 (.take 14 (.take 15 (.take 16 (.take 17 (.or 18 (.or 19 (.take 20 (.take 21 (.take 22 (.or 23 .done .nil)))) .nil) .nil))))) .nil))))))))) .nil))))), by rfl, ?_⟩
          conv => whnf
          repeat (refine ⟨rfl, ?_⟩; conv => whnf)
          refine br_if (fun h9 => ?_) (fun h9 => ?_) <;> (try rw [h9]) <;> (conv => whnf)
          · repeat (refine ⟨rfl, ?_⟩; conv => whnf)
            refine (s_PoolOk_ok ⟨l⟩ ⟨by show (l : List DNode).length ≤ _; omega, q1⟩).mono ?_
            rintro _ _ ⟨rfl, rfl⟩
            conv => whnf
            repeat (refine ⟨rfl, ?_⟩; conv => whnf)
            rw [eqI_t, bts_len] at h9
            exact ⟨_, _, _, rfl, rfl, q1, q2, q3, end_t hE _ ⟨fun h => ⟨h9, h⟩, fun h => h.2⟩⟩
          · repeat (refine ⟨rfl, ?_⟩; conv => whnf)
            rw [eqI_f, bts_len] at h9
            exact ⟨_, _, _, rfl, rfl, q1, q2, q3, end_t hE false ⟨fun h => (by cases h), fun h => absurd h.1 h9⟩⟩
  · rw [ltI_f] at h
    rw [if_neg (by omega)] at e1
    subst e1
    clear h hI hc
    refine ⟨fun m s => ∃ (k : Int) (l : List DNode) (b : Int) (okb : Bool), PlInv zs a ok cnt k l b okb ∧ (okb = true → cnt ≤ 3000) ∧ m = (3002 - k).toNat ∧
        ((l = [] ∧ s = ⟨[(0, .bptr 1000000 0 0), (2, .bptr 2 0 0), (3, .bptr 3 0 0), (4, .vals false [.sc (.int .i64 cnt)]), (5, .vals false [.sc (.int .i64 k)])],
          [(1000000, ⟨0, [.rd none 1 (bts zs), .sc (.int .i64 b), .sc (.bool okb)]⟩), (2, ⟨0, [.nil 5]⟩), (3, ⟨0, [.nil 5]⟩)], []⟩) ∨
         s = ⟨[(0, .bptr 1000000 0 0), (2, .bptr 2 0 0), (3, .bptr 3 0 0), (4, .vals false [.sc (.int .i64 cnt)]), (5, .vals false [.sc (.int .i64 k)])],
          [(1000000, ⟨0, [.rd none 1 (bts zs), .sc (.int .i64 b), .sc (.bool okb)]⟩), (2, ⟨0, [.nil 5]⟩), (3, ⟨0, [.ref 200 0]⟩)], [(200, ⟨true, 0, 0, true, 5, npC l⟩)]⟩),
      ⟨_, _, norm_wk (keep := [0, 2, 3, 4, 5]) (kb := [1000000, 2, 3]) (ρ := []) rfl, ⟨0, [], b0, _, hI1, hc1, rfl, .inl ⟨rfl, rfl⟩⟩⟩, ?_⟩
    clear hI1 hc1
    rintro m _ ⟨k, l, b, okb, hI, hct, rfl, hs⟩
    have hk0 := hI.2.2.1
    have hk1 := hI.2.2.2.1
    have hll := hI.2.1
    have hpb := hI.2.2.2.2.2.1
    have hsz : ∀ n : Nat, n = 1 → ((npC l).length + n) * d274.bytes ≤ 140737488355328 := fun n hn => by
      rw [hn, npC_len]
      simp only [d274]
      omega
    rcases hs with ⟨rfl, rfl⟩ | rfl
    · conv => whnf
      refine br_if (fun h1 => ?_) (fun h1 => ?_) <;> (try rw [h1]) <;> (conv => whnf)
      · rw [ltI_t] at h1
        cases okb
        · conv => whnf
          have hE := pl_end hI c0 (.inr (.inl rfl))
          obtain ⟨q1, q2, q3, -⟩ := id hE
          refine ⟨.one (.take 0 (.take 1 (.take 2 (.take 3 (.or 4 (.take 5 (.take 6 (.take 7 (.take 8 (.take 10 (.take 11 (.take 12 (.early 9 (.or 13 (.take 14 (.take 15 (.take 16 (.take 17 (.or 18 (.or 19 (.take 20 (.take 21 (.take 22 (.or 23 .done .nil)))) .nil) .nil))))) .nil))))))))) .nil))))), by rfl, ?_⟩
          conv => whnf
          repeat (refine ⟨rfl, ?_⟩; conv => whnf)
          exact ⟨_, _, _, rfl, rfl, q1, q2, q3, .inr ⟨rfl, end_f hE⟩⟩
        · conv => whnf
          have c3 := hct rfl
          refine (s_num_t hz hl hpb).mono ?_
          rintro _ _ (⟨hb, rfl, rfl⟩ | ⟨hb, rfl, rfl⟩) <;> (conv => whnf)
          repeat' (first
            | (refine br_if (fun h => ?_) (fun h => ?_) <;> (try rw [h]) <;> (conv => whnf))
            | (refine (s_num_t hz hl (by first | exact hpb | exact pJ _ | exact pT _)).mono ?_; rintro _ _ (⟨h, rfl, rfl⟩ | ⟨h, rfl, rfl⟩) <;> (conv => whnf))
            | (refine (s_num_f hz hl (by first | exact hpb | exact pJ _ | exact pT _)).mono ?_; rintro _ _ ⟨rfl, rfl⟩; conv => whnf)
            | (refine ⟨.one (.take 0 (.take 1 (.take 2 (.take 4 (.take 5 (.take 6 (.early 7 (.or 3 (.or 8 (.calm 9 (.calm 10 (.calm 11 (.calm 12 (.calm 13 (.calm 14 (.calm 15 .done))))))) .nil) .nil)))))))), by rfl, ?_⟩; conv => whnf)
            | (refine ⟨rfl, ?_⟩; conv => whnf)
            | (refine (s_text hz hl (by first | exact hpb | exact pJ _ | exact pT _)).mono ?_; rintro _ _ ⟨rfl, rfl⟩; conv => whnf)
            | (refine .inl ⟨flat5 _ _ _ _ _, ?_⟩; conv => whnf)
            | (refine ⟨hsz _ rfl, ?_⟩; conv => whnf)
            | fail)
          all_goals rw [wrp_i64 (x := k + 1) (by omega) (by omega)]
          all_goals refine ⟨(3002 - (k + 1)).toNat, _, by omega, norm_wk (keep := [0, 2, 3, 4, 5]) (kb := [1000000, 2, 3]) (ρ := [(103, some 200)]) rfl, ⟨k + 1, [] ++ [⟨_, _, _, _, _⟩], _, _, pl_step hI h1 (by omega) ?_, fun _ => c3, rfl, .inr (by rw [← npC_app]; rfl)⟩⟩
          all_goals simp only [eqI_t, eqI_f, w1, w2] at *
          all_goals refine ⟨⟨?_, ?_, ?_, ?_, ?_⟩, ?_, ?_⟩
          all_goals first
            | exact hpb
            | exact pJ _
            | exact pT _
            | exact ts _
            | exact Nat.zero_le _
            | (have := gr; simp only; constructor <;> first | omega | (have := gr (gJ zs b); omega) | (have := gr b; omega) | (have := gr (gJ zs (gJ zs b)); omega))
            | skip
          all_goals first
            | (exfalso; omega)
            | (refine .inr ⟨rfl, .inr ?_⟩; simp [ndP, nd0, *]; done)
            | (refine .inl ⟨rfl, rfl, ?_⟩; simp [ndP, nd0, *]; done)
            | (rcases hb2 : tB zs (gJ zs b) with _ | _
               · exact .inr ⟨rfl, .inr (by simp [ndP, *])⟩
               · exact .inl ⟨rfl, rfl, by simp [ndP, *]⟩)
      · rw [ltI_f] at h1
        cases okb
        · have hE := pl_end hI c0 (.inl h1)
          obtain ⟨q1, q2, q3, -⟩ := id hE
          refine ⟨.one (.take 0 (.take 1 (.take 2 (.take 3 (.or 4 (.take 5 (.take 6 (.take 7 (.take 8 (.take 10 (.take 11 (.take 12 (.early 9 (.or 13 (.take 14 (.take 15 (.take 16 (.take 17 (.or 18 (.or 19 (.take 20 (.take 21 (.take 22 (.or 23 .done .nil)))) .nil) .nil))))) .nil))))))))) .nil))))), by rfl, ?_⟩
          conv => whnf
          repeat (refine ⟨rfl, ?_⟩; conv => whnf)
          exact ⟨_, _, _, rfl, rfl, q1, q2, q3, .inr ⟨rfl, end_f hE⟩⟩
        · have hE := pl_end hI c0 (.inl h1)
          obtain ⟨q1, q2, q3, -⟩ := id hE
          refine ⟨.one (.take 0 (.take 1 (.take 2 (.take 3 (.or 4 (.take 5 (.take 6 (.take 7 (.take 8 (.take 10 (.take 11 (.take 12 (.early 9 (.or 13 (.take 14 (.take 15 (.take 16 (.take 17 (.or 18 (.or 19 (.take 20 (.take 21 (.take 22 (.or 23 .done .nil)))) .nil) .nil))))) .nil))))))))) .nil))))), by rfl, ?_⟩
          conv => whnf
          repeat (refine ⟨rfl, ?_⟩; conv => whnf)
          refine br_if (fun h9 => ?_) (fun h9 => ?_) <;> (try rw [h9]) <;> (conv => whnf)
          · repeat (refine ⟨rfl, ?_⟩; conv => whnf)
            refine (s_PoolOk_ok ⟨[]⟩ ⟨by show ([] : List DNode).length ≤ _; omega, q1⟩).mono ?_
            rintro _ _ ⟨rfl, rfl⟩
            conv => whnf
            repeat (refine ⟨rfl, ?_⟩; conv => whnf)
            rw [eqI_t, bts_len] at h9
            exact ⟨_, _, _, rfl, rfl, q1, q2, q3, end_t hE _ ⟨fun h => ⟨h9, h⟩, fun h => h.2⟩⟩
          · repeat (refine ⟨rfl, ?_⟩; conv => whnf)
            rw [eqI_f, bts_len] at h9
            exact ⟨_, _, _, rfl, rfl, q1, q2, q3, end_t hE false ⟨fun h => (by cases h), fun h => absurd h.1 h9⟩⟩
    · conv => whnf
      refine br_if (fun h1 => ?_) (fun h1 => ?_) <;> (try rw [h1]) <;> (conv => whnf)
      · rw [ltI_t] at h1
        cases okb
        · conv => whnf
          have hE := pl_end hI c0 (.inr (.inl rfl))
          obtain ⟨q1, q2, q3, -⟩ := id hE
          refine ⟨.one (.take 0 (.take 1 (.take 2 (.take 3 (.or 4 (.take 5 (.take 6 (.take 7 (.take 8 (.take 10 (.take 11 (.take 12 (.early 9 (.or 13 (.take 14 (.take 15 (.take 16 (.take 17 (.or 18 (.or 19 (.take 20 (.take 21 (.take 22 (.or 23 .done .nil)))) .nil) .nil))))) .nil))))))))) .nil))))), by rfl, ?_⟩
          conv => whnf
          repeat (refine ⟨rfl, ?_⟩; conv => whnf)
          exact ⟨_, _, _, rfl, rfl, q1, q2, q3, .inr ⟨rfl, end_f hE⟩⟩
        · conv => whnf
          have c3 := hct rfl
          refine (s_num_t hz hl hpb).mono ?_
          rintro _ _ (⟨hb, rfl, rfl⟩ | ⟨hb, rfl, rfl⟩) <;> (conv => whnf)
          repeat' (first
            | (refine br_if (fun h => ?_) (fun h => ?_) <;> (try rw [h]) <;> (conv => whnf))
            | (refine (s_num_t hz hl (by first | exact hpb | exact pJ _ | exact pT _)).mono ?_; rintro _ _ (⟨h, rfl, rfl⟩ | ⟨h, rfl, rfl⟩) <;> (conv => whnf))
            | (refine (s_num_f hz hl (by first | exact hpb | exact pJ _ | exact pT _)).mono ?_; rintro _ _ ⟨rfl, rfl⟩; conv => whnf)
            | (refine ⟨.one (.take 0 (.take 1 (.take 2 (.take 4 (.take 5 (.take 6 (.early 7 (.or 3 (.or 8 (.calm 9 (.calm 10 (.calm 11 (.calm 12 (.calm 13 (.calm 14 (.calm 15 .done))))))) .nil) .nil)))))))), by rfl, ?_⟩; conv => whnf)
            | (refine ⟨rfl, ?_⟩; conv => whnf)
            | (refine (s_text hz hl (by first | exact hpb | exact pJ _ | exact pT _)).mono ?_; rintro _ _ ⟨rfl, rfl⟩; conv => whnf)
            | (refine .inl ⟨flat5 _ _ _ _ _, ?_⟩; conv => whnf)
            | (refine ⟨hsz _ rfl, ?_⟩; conv => whnf)
            | fail)
          all_goals rw [wrp_i64 (x := k + 1) (by omega) (by omega)]
          all_goals refine ⟨(3002 - (k + 1)).toNat, _, by omega, norm_wk (keep := [0, 2, 3, 4, 5]) (kb := [1000000, 2, 3]) (ρ := [(103, some 200)]) rfl, ⟨k + 1, l ++ [⟨_, _, _, _, _⟩], _, _, pl_step hI h1 (by omega) ?_, fun _ => c3, rfl, .inr (by rw [← npC_app]; rfl)⟩⟩
          all_goals simp only [eqI_t, eqI_f, w1, w2] at *
          all_goals refine ⟨⟨?_, ?_, ?_, ?_, ?_⟩, ?_, ?_⟩
          all_goals first
            | exact hpb
            | exact pJ _
            | exact pT _
            | exact ts _
            | exact Nat.zero_le _
            | (have := gr; simp only; constructor <;> first | omega | (have := gr (gJ zs b); omega) | (have := gr b; omega) | (have := gr (gJ zs (gJ zs b)); omega))
            | skip
          all_goals first
            | (exfalso; omega)
            | (refine .inr ⟨rfl, .inr ?_⟩; simp [ndP, nd0, *]; done)
            | (refine .inl ⟨rfl, rfl, ?_⟩; simp [ndP, nd0, *]; done)
            | (rcases hb2 : tB zs (gJ zs b) with _ | _
               · exact .inr ⟨rfl, .inr (by simp [ndP, *])⟩
               · exact .inl ⟨rfl, rfl, by simp [ndP, *]⟩)
      · rw [ltI_f] at h1
        cases okb
        · have hE := pl_end hI c0 (.inl h1)
          obtain ⟨q1, q2, q3, -⟩ := id hE
          refine ⟨.one (.take 0 (.take 1 (.take 2 (.take 3 (.or 4 (.take 5 (.take 6 (.take 7 (.take 8 (.take 10 (.take 11 (.take 12 (.early 9 (.or 13 (.take 14 (.take 15 (.take 16 (.take 17 (.or 18 (.or 19 (.take 20 (.take 21 (.take 22 (.or 23 .done .nil)))) .nil) .nil))))) .nil))))))))) .nil))))), by rfl, ?_⟩
          conv => whnf
          repeat (refine ⟨rfl, ?_⟩; conv => whnf)
          exact ⟨_, _, _, rfl, rfl, q1, q2, q3, .inr ⟨rfl, end_f hE⟩⟩
        · have hE := pl_end hI c0 (.inl h1)
          obtain ⟨q1, q2, q3, -⟩ := id hE
          refine ⟨.one (.take 0 (.take 1 (.take 2 (.take 3 (.or 4 (.take 5 (.take 6 (.take 7 (.take 8 (.take 10 (.take 11 (.take 12 (.early 9 (.or 13 (.take 14 (.take 15 (.take 16 (.take 17 (.or 18 (.or 19 (.take 20 (.take 21 (.take 22 (.or 23 .done .nil)))) .nil) .nil))))) .nil))))))))) .nil))))), by rfl, ?_⟩
          conv => whnf
          repeat (refine ⟨rfl, ?_⟩; conv => whnf)
          refine br_if (fun h9 => ?_) (fun h9 => ?_) <;> (try rw [h9]) <;> (conv => whnf)
          · repeat (refine ⟨rfl, ?_⟩; conv => whnf)
            refine (s_PoolOk_ok ⟨l⟩ ⟨by show (l : List DNode).length ≤ _; omega, q1⟩).mono ?_
            rintro _ _ ⟨rfl, rfl⟩
            conv => whnf
            repeat (refine ⟨rfl, ?_⟩; conv => whnf)
            rw [eqI_t, bts_len] at h9
            exact ⟨_, _, _, rfl, rfl, q1, q2, q3, end_t hE _ ⟨fun h => ⟨h9, h⟩, fun h => h.2⟩⟩
          · repeat (refine ⟨rfl, ?_⟩; conv => whnf)
            rw [eqI_f, bts_len] at h9
            exact ⟨_, _, _, rfl, rfl, q1, q2, q3, end_t hE false ⟨fun h => (by cases h), fun h => absurd h.1 h9⟩⟩

end Go.Proofs.YtcaonpncopfeoaaGreat.V
