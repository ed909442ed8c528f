/- ValueRead. -/
import Derived.Test.YtcaonpncopfeoaaGreatQ20
set_option linter.unusedVariables false
set_option linter.unusedSimpArgs false
namespace Go.Proofs.YtcaonpncopfeoaaGreat.V
open Go

def MdE21 (f : Nat) : List Mode :=
  match f with
  | 173 => [.mptr]
  | 182 => [.mptr]
  | 262 => [.rd, .rd]
  | 305 => [.rd, .rd]
  | _ => []
def E21 : Env := ⟨τ, MdE21⟩

theorem Bytes.app {a b : List Int} (ha : Bytes a) (hb : Bytes b) : Bytes (a ++ b) := fun z hz => by
  rcases List.mem_append.1 hz with h | h
  · exact ha z h
  · exact hb z h
theorem numL_bytes : ∀ n : Nat, Bytes (numL n) := fun n => by
  induction n using Nat.strongRecOn with
  | _ n ih =>
    by_cases hn : n ≤ 127
    · rw [numL_small hn]
      intro z hz
      rw [List.mem_singleton.1 hz]
      omega
    · rw [numL_big hn]
      intro z hz
      cases hz with
      | head => omega
      | tail _ hz => exact ih (n / 128) (by omega) z hz
theorem numI_bytes (x : Int) : Bytes (numI x) := by
  unfold numI
  split
  · intro z hz; cases hz
  · exact numL_bytes _
theorem nodeB_bytes (x : DNode) : Bytes (nodeB x) := by
  unfold nodeB
  refine (numI_bytes _).app ?_
  repeat' split
  · exact numI_bytes _
  · exact numI_bytes _
  · exact (numI_bytes _).app (sb_bytes _)
  · exact (numI_bytes _).app (numI_bytes _)
  · exact (numI_bytes _).app (numI_bytes _)
  · exact numI_bytes _
  · intro z hz; cases hz
theorem packA_bytes (l : List DNode) : ∀ k : Nat, Bytes (packA l k)
  | 0 => numI_bytes _
  | k + 1 => by
    unfold packA
    split
    · exact packA_bytes l k
    · exact (packA_bytes l k).app (nodeB_bytes _)

/-- A value read from a text. -/
noncomputable def vrP (s : ByteArray) : Option (List DNode) :=
  match poolP (sb s) 0 with
  | some (l, _) => if vpOk l ((l.length : Int) - 1) = true ∧ vpS l ((l.length : Int) - 1) = s then some l else none
  | none => none
theorem vr_some {s : ByteArray} {l : List DNode} {b : Int} (h : poolP (sb s) 0 = some (l, b)) (h1 : vpOk l ((l.length : Int) - 1) = true) (h2 : vpS l ((l.length : Int) - 1) = s) : vrP s = some l := by
  unfold vrP
  rw [h]
  simp only
  rw [if_pos ⟨h1, h2⟩]
theorem vr_no {s : ByteArray} {l : List DNode} {b : Int} (h : poolP (sb s) 0 = some (l, b)) (h1 : ¬ (vpOk l ((l.length : Int) - 1) = true ∧ vpS l ((l.length : Int) - 1) = s)) : vrP s = none := by
  unfold vrP
  rw [h]
  simp only
  rw [if_neg h1]
theorem vr_none {s : ByteArray} (h : poolP (sb s) 0 = none) : vrP s = none := by
  unfold vrP
  rw [h]
/-- What is a value is read to its end, and is right. -/
theorem vr_all {s : ByteArray} {l : List DNode} {b : Int} (h : poolP (sb s) 0 = some (l, b)) (h1 : vpOk l ((l.length : Int) - 1) = true) (h2 : vpS l ((l.length : Int) - 1) = s) : b = ((sb s).length : Nat) ∧ poolOk l = true := by
  obtain ⟨hp, -⟩ := clB_t.1 h1
  have hk := keep_ok hp [(l.length : Int) - 1]
  unfold vpS at h2
  rw [if_pos h1] at h2
  have e : sb s = packL (keepN l [(l.length : Int) - 1]) := by rw [← h2]; exact sb_strOfNums (packA_bytes _ _)
  have hq := pool_pack hk
  rw [← e, h] at hq
  simp only [Option.some.injEq, Prod.mk.injEq] at hq
  exact ⟨hq.2, hp⟩
theorem vr_allP {s : ByteArray} (h : allP (sb s) 0 = none) : vrP s = none := by
  cases hp : poolP (sb s) 0 with
  | none => exact vr_none hp
  | some q =>
    obtain ⟨l, b⟩ := q
    refine vr_no hp fun hh => ?_
    obtain ⟨e1, e2⟩ := vr_all hp hh.1 hh.2
    unfold allP at h
    rw [hp] at h
    simp only at h
    rw [if_pos ⟨e1, e2⟩] at h
    cases h
theorem allP_some {zs : List Int} {l : List DNode} (h : allP zs 0 = some l) : poolP zs 0 = some (l, (zs.length : Int)) ∧ poolOk l = true := by
  unfold allP at h
  split at h
  · rename_i l' b hb
    split at h
    · rename_i hc
      cases h
      exact ⟨by rw [hb, hc.1], hc.2⟩
    · cases h
  · cases h
noncomputable def vrR (s : ByteArray) : List RV :=
  match vrP s with
  | some l => [pR l, iR ((l.length : Int) - 1), bR true]
  | none => [pR [], iR 0, bR false]
theorem vrR_no {s : ByteArray} (h : vrP s = none) : [pR [], iR 0, bR false] = vrR s ∧ ([] : List (List C)) = [] := by
  unfold vrR
  rw [h]
  exact ⟨rfl, rfl⟩
theorem vrR_yes {s : ByteArray} {l : List DNode} (h : vrP s = some l) : [pR l, iR ((l.length : Int) - 1), bR true] = vrR s ∧ ([] : List (List C)) = [] := by
  unfold vrR
  rw [h]
  exact ⟨rfl, rfl⟩

set_option maxRecDepth 100000 in
set_option maxHeartbeats 1000000 in
theorem i_ValueRead_ok (s : ByteArray) (hs : s.size ≤ 1000000000) : FnV Tryz.prog 281 [sV s] fun rs outs => rs = vrR s ∧ outs = [] := by
  refine fn_ok (E := E21) τ_ok mixed Tryz.func281 (by rfl) (by rfl) false (by simp [Tryz.f281]) ?_
  have hz := sb_bytes s
  have hl := sb_len s
  conv => whnf
  refine ⟨by omega, ?_⟩
  conv => whnf
  rw [bytesOf_sb]
  refine (i_nodes_ok (sb s) 0 true hz (by omega) ⟨by omega, by omega⟩).mono ?_
  rintro _ _ ⟨l, a', ok', rfl, rfl, q1, q2, q3, q4⟩
  conv => whnf
  have hw : wrp .i64 (((npC l).length : Int) - 1) = (l.length : Int) - 1 := by rw [npC_len]; exact wrp_i64 (by omega) (by omega)
  rw [hw]
  refine (i_ValuePack_ok ⟨l⟩ _ ⟨by show l.length ≤ _; omega, q1⟩).mono ?_
  rintro _ _ ⟨rfl, rfl⟩
  conv => whnf
  have q5 : ok' = false → vrP s = none := fun h => by
    rcases q4 with ⟨h1, _⟩ | ⟨h1, _⟩ | ⟨_, h1 | h1⟩
    · rw [h] at h1; cases h1
    · rw [h] at h1; cases h1
    · cases h1
    · exact vr_none h1
  refine br_if (fun h1 => ?_) (fun h1 => ?_) <;> (try rw [h1]) <;> (conv => whnf)
  · rw [notB_t] at h1
    exact vrR_no (q5 h1)
  rw [notB_f] at h1
  subst h1
  refine br_if (fun h2 => ?_) (fun h2 => ?_) <;> (try rw [h2]) <;> (conv => whnf)
  · rw [notB_t] at h2
    refine vrR_no ?_
    rcases q4 with ⟨_, _, h3⟩ | ⟨_, _, _, h3⟩ | ⟨h3, _⟩
    · exact vr_no h3 fun h => by rw [h2] at h; cases h.1
    · exact vr_none h3
    · cases h3
  rw [notB_f] at h2
  have q6 : poolP (sb s) 0 = some (l, a') := by
    rcases q4 with ⟨_, _, h3⟩ | ⟨_, _, h4, h3⟩ | ⟨h3, _⟩
    · exact h3
    · have : l.length ≤ 3000 := (poolOk_t.1 (clB_t.1 h2).1).1
      omega
    · cases h3
  refine br_if (fun h3 => ?_) (fun h3 => ?_) <;> (try rw [h3]) <;> (conv => whnf)
  · rw [notB_t, eqStr_f] at h3
    exact vrR_no (vr_no q6 fun h => h3 h.2)
  · rw [notB_f, eqStr_t] at h3
    exact vrR_yes (vr_some q6 h2 h3)

set_option maxRecDepth 100000 in
set_option maxHeartbeats 1000000 in
theorem s_ValueRead_ok (s : ByteArray) (hs : s.size ≤ 1000000000) : FnV Tryz.prog 176 [sV s] fun rs outs => rs = vrR s ∧ outs = [] := by
  refine fn_ok (E := E21) τ_ok mixed Tryz.func176 (by rfl) (by rfl) false (by simp [Tryz.f176]) ?_
  have hz := sb_bytes s
  have hl := sb_len s
  conv => whnf
  refine ⟨by omega, ?_⟩
  conv => whnf
  rw [bytesOf_sb]
  refine (s_l8Read_ok (sb s) 0 true hz (by omega) ⟨by omega, by omega⟩).mono ?_
  rintro _ _ ⟨l, a', ok', rfl, rfl, q1, q2, q3, q4⟩
  conv => whnf
  refine br_if (fun h1 => ?_) (fun h1 => ?_) <;> (try rw [h1]) <;> (conv => whnf)
  · rw [notB_t] at h1
    refine vrR_no ?_
    rcases q4 with ⟨h2, _⟩ | ⟨_, h2 | h2⟩
    · rw [h1] at h2; cases h2
    · cases h2
    · exact vr_allP h2
  rw [notB_f] at h1
  subst h1
  have q5 : allP (sb s) 0 = some l := by
    rcases q4 with ⟨_, _, h2⟩ | ⟨h2, _⟩
    · exact h2
    · cases h2
  obtain ⟨q6, q7⟩ := allP_some q5
  refine br_if (fun h2 => ?_) (fun h2 => ?_) <;> (try rw [h2]) <;> (conv => whnf)
  · rw [eqI_t, npC_len] at h2
    refine vrR_no (vr_no q6 fun h => ?_)
    have := (clB_t.1 h.1).2
    omega
  rw [eqI_f, npC_len] at h2
  have hw : wrp .i64 (((npC l).length : Int) - 1) = (l.length : Int) - 1 := by rw [npC_len]; exact wrp_i64 (by omega) (by omega)
  rw [hw]
  refine (s_ValuePack_ok ⟨l⟩ _ ⟨by show l.length ≤ _; omega, q1⟩).mono ?_
  rintro _ _ ⟨rfl, rfl⟩
  conv => whnf
  refine br_if (fun h3 => ?_) (fun h3 => ?_) <;> (try rw [h3]) <;> (conv => whnf)
  · rw [notB_t, eqStr_f] at h3
    exact vrR_no (vr_no q6 fun h => h3 h.2)
  · rw [notB_f, eqStr_t] at h3
    refine ⟨.take 1 (.or 0 (.or 2 (.take 3 (.take 4 (.or 5 (.calm 6 (.calm 7 .done)) .nil))) (.or 5 (.calm 2 (.calm 3 (.calm 4 (.calm 6 (.calm 7 .done))))) .nil)) (.or 2 (.take 3 (.take 4 (.or 0 (.or 5 (.calm 6 (.calm 7 .done)) .nil) .nil))) .nil)), by rfl, ?_⟩
    apply Exists.intro
    refine ⟨?_, ?_⟩
    · conv => whnf
      repeat' (first
        | exact norm_wk (keep := [2, 3, 4]) (kb := [2]) (ρ := [(14, some 14)]) rfl
        | (refine ⟨?_, ?_⟩ <;> conv => whnf)
        | fail)
    conv => whnf
    rw [hw]
    exact vrR_yes (vr_some q6 (clB_t.2 ⟨q7, by omega, by omega⟩) h3)

end Go.Proofs.YtcaonpncopfeoaaGreat.V
