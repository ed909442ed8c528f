/- What MailRead comes to. -/
import Derived.Test.YtcaonpncopfeoaaGreatQ3
set_option linter.unusedVariables false
set_option linter.unusedSimpArgs false
namespace Go.Proofs.YtcaonpncopfeoaaGreat.V
open Go

def MdE4 (f : Nat) : List Mode :=
  match f with
  | 74 => [.mptr]
  | 75 => [.mptr]
  | 82 => [.mptr]
  | 83 => [.mptr]
  | 101 => [.rd, .rd, .rd]
  | _ => []
def E4 : Env := ⟨τ, MdE4⟩

theorem sb_bytes (s : ByteArray) : Bytes (sb s) := by
  intro z hz
  simp only [sb, List.mem_map] at hz
  obtain ⟨b, _, rfl⟩ := hz
  have := b.toNat_lt
  omega

def mrOk (zs : List Int) : Bool :=
  gB zs 0 && ((decide (gX zs 0 = 1) && (gB zs (gJ zs 0) && (tB zs (gJ zs (gJ zs 0)) && decide (tJ zs (gJ zs (gJ zs 0)) = zs.length)))) || (decide (gX zs 0 = 2) && (tB zs (gJ zs 0) && decide (tJ zs (gJ zs 0) = zs.length))))
def mrK (zs : List Int) : Int := if mrOk zs = true then gX zs 0 else 0
def mrP (zs : List Int) : Int := if mrOk zs = true then (if gX zs 0 = 1 then gX zs (gJ zs 0) else 0) else 0
def mrT (zs : List Int) : ByteArray := if mrOk zs = true then (if gX zs 0 = 1 then tS zs (gJ zs (gJ zs 0)) else tS zs (gJ zs 0)) else ⟨#[]⟩
@[reducible] def mrR (zs : List Int) : List RV := [iR (mrK zs), iR (mrP zs), sR (mrT zs), bR (mrOk zs)]

theorem mr_no {zs : List Int} (h : mrOk zs = false) : [iR 0, iR 0, sR ⟨#[]⟩, bR false] = mrR zs ∧ ([] : List (List C)) = [] := by
  unfold mrR mrK mrP mrT
  rw [h]
  exact ⟨rfl, rfl⟩
theorem mr_yes {zs : List Int} {k p : Int} {t : ByteArray} (h : mrOk zs = true) (hk : k = gX zs 0) (hp : p = if gX zs 0 = 1 then gX zs (gJ zs 0) else 0) (ht : t = if gX zs 0 = 1 then tS zs (gJ zs (gJ zs 0)) else tS zs (gJ zs 0)) :
    [iR k, iR p, sR t, bR true] = mrR zs ∧ ([] : List (List C)) = [] := by
  unfold mrR mrK mrP mrT
  rw [h, hk, hp, ht]
  exact ⟨rfl, rfl⟩

theorem mr_no' {zs : List Int} (h : mrOk zs = false) : [iR 0, iR 0, sR ⟨#[]⟩, bR false] = mrR zs ∧ True := ⟨(mr_no h).1, trivial⟩
theorem mr_yes' {zs : List Int} {k p : Int} {t : ByteArray} (h : mrOk zs = true) (hk : k = gX zs 0) (hp : p = if gX zs 0 = 1 then gX zs (gJ zs 0) else 0) (ht : t = if gX zs 0 = 1 then tS zs (gJ zs (gJ zs 0)) else tS zs (gJ zs 0)) :
    [iR k, iR p, sR t, bR true] = mrR zs ∧ True := ⟨(mr_yes h hk hp ht).1, trivial⟩

set_option maxRecDepth 100000 in
theorem i_MailRead_ok (s : ByteArray) (hs : s.size ≤ 1000000000) : FnV Tryz.prog 240 [sV s] fun rs outs => rs = mrR (sb s) ∧ outs = [] := by
  refine fn_ok (E := E4) τ_ok mixed Tryz.func240 (by rfl) (by rfl) false (by simp [Tryz.f240]) ?_
  have hz := sb_bytes s
  have hl := sb_len s
  conv => whnf
  refine ⟨by omega, ?_⟩
  conv => whnf
  rw [bytesOf_sb]
  refine (i_rd_num_ok (sb s) 0 true hz (by omega) (by omega) (by omega)).mono ?_
  rintro _ _ (⟨h1, rfl, rfl⟩ | ⟨h1, rfl, rfl⟩) <;> (conv => whnf)
  · have g1 := g_cases (sb s) 0 hz
    refine br_if (fun hk => ?_) (fun hk => ?_) <;> (try rw [hk]) <;> (conv => whnf)
    · refine (i_rd_num_ok (sb s) (gJ (sb s) 0) true hz (by omega) (by omega) (by omega)).mono ?_
      have g2 := g_cases (sb s) (gJ (sb s) 0) hz
      rintro _ _ (⟨h2, rfl, rfl⟩ | ⟨h2, rfl, rfl⟩) <;> (conv => whnf)
      · refine (i_rd_text_ok (sb s) (gJ (sb s) (gJ (sb s) 0)) true hz (by omega) (by omega) (by omega)).mono ?_
        rintro _ _ (⟨h3, rfl, rfl⟩ | ⟨h3, rfl, rfl⟩) <;> (conv => whnf)
        all_goals clear g1 g2
        all_goals repeat' (refine br_if (fun h => ?_) (fun h => ?_) <;> (try rw [h]) <;> (conv => whnf))
        all_goals simp only [eqI_t, eqI_f, notB_t, notB_f, decide_eq_true_eq, decide_eq_false_iff_not] at *
        all_goals first | contradiction | (exfalso; omega) | exact mr_no' (by simp_all [mrOk]) | exact mr_yes' (by simp_all [mrOk]) (by simp_all) (by simp_all) (by simp_all)
      · refine (i_rd_text_ok (sb s) (gJ (sb s) 0) false hz (by omega) (by omega) (by omega)).mono ?_
        rintro _ _ (⟨h3, rfl, rfl⟩ | ⟨h3, rfl, rfl⟩) <;> (conv => whnf)
        all_goals clear g1 g2
        all_goals repeat' (refine br_if (fun h => ?_) (fun h => ?_) <;> (try rw [h]) <;> (conv => whnf))
        all_goals simp only [eqI_t, eqI_f, notB_t, notB_f, decide_eq_true_eq, decide_eq_false_iff_not] at *
        all_goals first | contradiction | (exfalso; omega) | exact mr_no' (by simp_all [mrOk]) | exact mr_yes' (by simp_all [mrOk]) (by simp_all) (by simp_all) (by simp_all)
    · refine (i_rd_text_ok (sb s) (gJ (sb s) 0) true hz (by omega) (by omega) (by omega)).mono ?_
      rintro _ _ (⟨h3, rfl, rfl⟩ | ⟨h3, rfl, rfl⟩) <;> (conv => whnf)
      all_goals clear g1
      all_goals repeat' (refine br_if (fun h => ?_) (fun h => ?_) <;> (try rw [h]) <;> (conv => whnf))
      all_goals simp only [eqI_t, eqI_f, notB_t, notB_f, decide_eq_true_eq, decide_eq_false_iff_not] at *
      all_goals first | contradiction | (exfalso; omega) | exact mr_no' (by simp_all [mrOk]) | exact mr_yes' (by simp_all [mrOk]) (by simp_all) (by simp_all) (by simp_all)
  · refine br_if (fun hk => ?_) (fun hk => ?_) <;> (try rw [hk]) <;> (conv => whnf)
    · rw [eqI_t] at hk
      omega
    · refine (i_rd_text_ok (sb s) 0 false hz (by omega) (by omega) (by omega)).mono ?_
      rintro _ _ (⟨h3, rfl, rfl⟩ | ⟨h3, rfl, rfl⟩) <;> (conv => whnf)
      all_goals repeat' (refine br_if (fun h => ?_) (fun h => ?_) <;> (try rw [h]) <;> (conv => whnf))
      all_goals simp only [eqI_t, eqI_f, notB_t, notB_f, decide_eq_true_eq, decide_eq_false_iff_not] at *
      all_goals first | contradiction | (exfalso; omega) | exact mr_no' (by simp_all [mrOk]) | exact mr_yes' (by simp_all [mrOk]) (by simp_all) (by simp_all) (by simp_all)

set_option maxRecDepth 100000 in
theorem s_MailRead_ok (s : ByteArray) (hs : s.size ≤ 1000000000) : FnV Tryz.prog 239 [sV s] fun rs outs => rs = mrR (sb s) ∧ outs = [] := by
  refine fn_ok (E := E4) τ_ok mixed Tryz.func239 (by rfl) (by rfl) false (by simp [Tryz.f239]) ?_
  have hz := sb_bytes s
  have hl := sb_len s
  conv => whnf
  refine ⟨by omega, ?_⟩
  conv => whnf
  rw [bytesOf_sb]
  refine (s_l8Num_ok (sb s) 0 true hz (by omega) (by omega) (by omega)).mono ?_
  rintro _ _ (⟨h1, rfl, rfl⟩ | ⟨h1, rfl, rfl⟩) <;> rw [Bool.and_true] at h1 <;> (conv => whnf)
  · have g1 := g_cases (sb s) 0 hz
    refine br_if (fun hk => ?_) (fun hk => ?_) <;> (try rw [hk]) <;> (conv => whnf)
    · refine (s_l8Num_ok (sb s) (gJ (sb s) 0) true hz (by omega) (by omega) (by omega)).mono ?_
      have g2 := g_cases (sb s) (gJ (sb s) 0) hz
      rintro _ _ (⟨h2, rfl, rfl⟩ | ⟨h2, rfl, rfl⟩) <;> rw [Bool.and_true] at h2 <;> (conv => whnf)
      · refine (s_l12ReadText_ok (sb s) (gJ (sb s) (gJ (sb s) 0)) true hz (by omega) (by omega) (by omega)).mono ?_
        rintro _ _ (⟨h3, rfl, rfl⟩ | ⟨h3, rfl, rfl⟩) <;> rw [Bool.and_true] at h3 <;> (conv => whnf)
        all_goals clear g1 g2
        all_goals repeat' (first
          | (refine br_if (fun h => ?_) (fun h => ?_) <;> (try rw [h]) <;> (conv => whnf))
          | (refine (s_l1In_ok _ _ _).mono ?_; rintro _ _ ⟨rfl, rfl⟩; conv => whnf))
        all_goals simp only [eqI_t, eqI_f, notB_t, notB_f, decide_eq_true_eq, decide_eq_false_iff_not] at *
        all_goals first | contradiction | (exfalso; omega) | exact mr_no' (by simp_all [mrOk] <;> omega) | exact mr_yes' (by simp_all [mrOk] <;> omega) (by simp_all) (by simp_all) (by simp_all) | skip
      · refine (s_l12ReadText_ok (sb s) (gJ (sb s) 0) false hz (by omega) (by omega) (by omega)).mono ?_
        rintro _ _ (⟨h3, rfl, rfl⟩ | ⟨h3, rfl, rfl⟩) <;> rw [Bool.and_false] at h3 <;> (conv => whnf)
        all_goals clear g1 g2
        all_goals repeat' (first
          | (refine br_if (fun h => ?_) (fun h => ?_) <;> (try rw [h]) <;> (conv => whnf))
          | (refine (s_l1In_ok _ _ _).mono ?_; rintro _ _ ⟨rfl, rfl⟩; conv => whnf))
        all_goals simp only [eqI_t, eqI_f, notB_t, notB_f, decide_eq_true_eq, decide_eq_false_iff_not] at *
        all_goals first | contradiction | (exfalso; omega) | exact mr_no' (by simp_all [mrOk] <;> omega) | exact mr_yes' (by simp_all [mrOk] <;> omega) (by simp_all) (by simp_all) (by simp_all) | skip
    · refine (s_l12ReadText_ok (sb s) (gJ (sb s) 0) true hz (by omega) (by omega) (by omega)).mono ?_
      rintro _ _ (⟨h3, rfl, rfl⟩ | ⟨h3, rfl, rfl⟩) <;> rw [Bool.and_true] at h3 <;> (conv => whnf)
      all_goals clear g1
      all_goals repeat' (first
        | (refine br_if (fun h => ?_) (fun h => ?_) <;> (try rw [h]) <;> (conv => whnf))
        | (refine (s_l1In_ok _ _ _).mono ?_; rintro _ _ ⟨rfl, rfl⟩; conv => whnf))
      all_goals simp only [eqI_t, eqI_f, notB_t, notB_f, decide_eq_true_eq, decide_eq_false_iff_not] at *
      all_goals first | contradiction | (exfalso; omega) | exact mr_no' (by simp_all [mrOk] <;> omega) | exact mr_yes' (by simp_all [mrOk] <;> omega) (by simp_all) (by simp_all) (by simp_all) | skip
  · refine br_if (fun hk => ?_) (fun hk => ?_) <;> (try rw [hk]) <;> (conv => whnf)
    · rw [eqI_t] at hk
      omega
    · refine (s_l12ReadText_ok (sb s) 0 false hz (by omega) (by omega) (by omega)).mono ?_
      rintro _ _ (⟨h3, rfl, rfl⟩ | ⟨h3, rfl, rfl⟩) <;> rw [Bool.and_false] at h3 <;> (conv => whnf)
      all_goals repeat' (first
        | (refine br_if (fun h => ?_) (fun h => ?_) <;> (try rw [h]) <;> (conv => whnf))
        | (refine (s_l1In_ok _ _ _).mono ?_; rintro _ _ ⟨rfl, rfl⟩; conv => whnf))
      all_goals simp only [eqI_t, eqI_f, notB_t, notB_f, decide_eq_true_eq, decide_eq_false_iff_not] at *
      all_goals first | contradiction | (exfalso; omega) | exact mr_no' (by simp_all [mrOk] <;> omega) | exact mr_yes' (by simp_all [mrOk] <;> omega) (by simp_all) (by simp_all) (by simp_all) | skip

end Go.Proofs.YtcaonpncopfeoaaGreat.V
