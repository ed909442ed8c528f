/- The law FnMails. -/
import Derived.Test.YtobmgdceengmiaaP10
set_option linter.unusedVariables false
set_option linter.unusedSimpArgs false
namespace Go.Proofs.Ytobmgdceengmiaa.V
open Go

theorem mr_fail {zs : List Int} (h : mrOk zs = false) : mrK zs = 0 ∧ mrP zs = 0 ∧ mrT zs = ⟨#[]⟩ := by
  unfold mrK mrP mrT
  rw [h]
  exact ⟨rfl, rfl, rfl⟩
theorem read_end {r : ByteArray} (hr : r.size ≤ 1000) : -9223372036854775808 ≤ mrP (sb r) ∧ mrP (sb r) ≤ 9223372036854775807 ∧ (mrT (sb r)).size ≤ 1000 := by
  have hz := sb_bytes r
  have hl := sb_len r
  have hS : ∀ a, (tS (sb r) a).size ≤ 1000 := fun a => by
    unfold tS
    split
    · rw [strOfNums_size, List.length_drop, List.length_take]
      omega
    · show 0 ≤ 1000
      omega
  unfold mrP mrT
  refine ⟨?_, ?_, ?_⟩
  · have := g_cases (sb r) (gJ (sb r) 0) hz
    repeat' split
    all_goals omega
  · have := g_cases (sb r) (gJ (sb r) 0) hz
    repeat' split
    all_goals omega
  · repeat' split
    all_goals first | exact hS _ | (show 0 ≤ 1000; omega)

set_option maxRecDepth 100000 in
theorem f8_ok (zs : List Int) (hl : zs.length ≤ 9223372036854775807) : FnV Try.prog 8 [bV zs] fun rs outs => rs = [bR true] ∧ outs = [] := by
  refine fn_ok (E := En8) τ_ok mixed Try.func8 (by rfl) (by rfl) false (by simp [Try.f8]) ?_
  conv => whnf
  refine (f20_ok zs).mono ?_
  rintro _ _ ⟨rfl, rfl⟩
  conv => whnf
  refine br_if (fun h => ?_) (fun h => ?_) <;> (try rw [h]) <;> (conv => whnf)
  · exact ⟨rfl, rfl⟩
  rw [ltI_f] at h
  refine (f21_ok zs (by omega)).mono ?_
  rintro _ _ ⟨pid, text, p0, p1, ht, rfl, rfl⟩
  conv => whnf
  refine (f15_ok pid text (by omega) (by omega)).mono ?_
  rintro _ _ ⟨rfl, rfl⟩
  have hw := mailWord_size (pid := pid) (s := text) (by omega) (by omega)
  conv => whnf
  refine (f19_ok _ (by omega)).mono ?_
  rintro _ _ ⟨rfl, rfl⟩
  conv => whnf
  have q0 : notB true = false := notB_f.2 rfl
  refine br_if (fun h1 => ?_) (fun h1 => ?_) <;> (try rw [h1]) <;> (conv => whnf)
  case' refine_1 =>
    rw [ltI_t] at h1
    have hm : mailWord pid text = ⟨#[]⟩ := by
      unfold mailWord
      rw [if_pos h1]
    have q1 : notB (eqStr (mailWord pid text) ⟨#[]⟩) = false := by rw [hm, eqStr_self]; exact notB_f.2 rfl
    rw [q1]
    conv => whnf
    have q2 : leI 0 pid = false := leI_f.2 h1
    rw [q2]
    conv => whnf
  case' refine_2 =>
    rw [ltI_f] at h1
    obtain ⟨r1, r2, r3, r4⟩ := read_word (pid := pid) (s := text) h1 (by omega) (by omega)
    have q1 : leI 0 pid = true := leI_t.2 h1
    rw [q1]
    conv => whnf
    rw [r1]
    rw [q0]
    conv => whnf
    rw [r2, eqI_self, q0]
    conv => whnf
    rw [r3, eqI_self, q0]
    conv => whnf
    rw [r4, eqStr_self, q0]
    conv => whnf
  all_goals
    refine (f22_ok zs (by omega)).mono ?_
    rintro _ _ ⟨m, hm, rfl, rfl⟩
    conv => whnf
    refine (f10_ok m (by omega)).mono ?_
    rintro _ _ ⟨rfl, rfl⟩
    have hw2 := mailMove_size (s := m) (by omega)
    conv => whnf
    refine (f19_ok _ (by omega)).mono ?_
    rintro _ _ ⟨rfl, rfl⟩
    conv => whnf
    obtain ⟨v1, v2, v3, v4⟩ := read_move (s := m) (by omega)
    rw [v1, q0]
    conv => whnf
    rw [v2, eqI_self, q0]
    conv => whnf
    rw [v3, eqI_self, q0]
    conv => whnf
    rw [v4, eqStr_self, q0]
    conv => whnf
    refine (f23_ok zs (by omega)).mono ?_
    rintro _ _ ⟨r, hr, rfl, rfl⟩
    conv => whnf
    refine (f19_ok r (by omega)).mono ?_
    rintro _ _ ⟨rfl, rfl⟩
    conv => whnf
    refine (f18_ok r (by omega)).mono ?_
    rintro _ _ ⟨rfl, rfl⟩
    conv => whnf
    rw [eqB_self, q0]
    conv => whnf
    obtain ⟨z1, z2, z3⟩ := read_end hr
    refine br_if (fun h9 => ?_) (fun h9 => ?_) <;> (try rw [h9]) <;> (conv => whnf)
    case' refine_1 =>
      rw [notB_t] at h9
      obtain ⟨y1, y2, y3⟩ := mr_fail h9
      rw [y1, eqI_self]
      conv => whnf
      rw [y2, eqI_self]
      conv => whnf
      rw [y3, eqStr_self]
      conv => whnf
      exact ⟨rfl, rfl⟩
    case' refine_2 =>
      rw [notB_f] at h9
      obtain ⟨x1, x2⟩ := read_canon h9
      refine br_if (fun h10 => ?_) (fun h10 => ?_) <;> (try rw [h10]) <;> (conv => whnf)
      case' refine_1 =>
        rw [eqI_t] at h10
        refine (f15_ok _ _ z2 (by omega)).mono ?_
        rintro _ _ ⟨rfl, rfl⟩
        conv => whnf
        rw [(x1 h10).1, eqStr_self]
        exact ⟨rfl, rfl⟩
      case' refine_2 =>
        rw [eqI_f] at h10
        refine (f10_ok _ (by omega)).mono ?_
        rintro _ _ ⟨rfl, rfl⟩
        conv => whnf
        rw [x2 h10, eqStr_self]
        exact ⟨rfl, rfl⟩

theorem ty_bytes {c : C} (h : Ty (.sl [.int .u8]) c) : ∃ zs : List Int, c = .sl true 1 (bts zs) ∧ zs.length ≤ 9223372036854775807 ∧ Bytes zs := by
  cases h with
  | sl _ es hl hr ht =>
    have key : ∀ es : List (List C), (∀ r ∈ es, r.length = 1) → (∀ r ∈ es, ∀ (j : Nat) (sh : Sh) (c : C), [Sh.int .u8][j]? = some sh → r[j]? = some c → Ty sh c) → ∃ zs, es = bts zs ∧ Bytes zs := by
      intro es
      induction es with
      | nil => exact fun _ _ => ⟨[], rfl, fun z hz => (by cases hz)⟩
      | cons r rs ih =>
        intro h1 h2
        obtain ⟨zs, rfl, hb⟩ := ih (fun x hx => h1 x (List.mem_cons_of_mem _ hx)) (fun x hx => h2 x (List.mem_cons_of_mem _ hx))
        have hlen := h1 r (List.mem_cons_self ..)
        match r, hlen, h2 r (List.mem_cons_self ..) with
        | [c], _, hc =>
          have h0 := hc 0 _ c rfl rfl
          cases h0 with
          | int _ n hn =>
            have := wf_u8 hn
            refine ⟨n :: zs, rfl, fun z hz => ?_⟩
            cases hz with
            | head => omega
            | tail _ hz => exact hb z hz
    obtain ⟨zs, rfl, hb⟩ := key es hr ht
    refine ⟨zs, rfl, ?_, hb⟩
    rw [bts_len] at hl
    exact Nat.le_trans hl (by decide)

theorem f8_all {c : C} (h : Ty (.sl [.int .u8]) c) : FnV Try.prog 8 [.rdv false [c]] fun rs outs => rs = [bR true] ∧ outs = [] := by
  obtain ⟨zs, rfl, hl, _⟩ := ty_bytes h
  exact f8_ok zs hl

end Go.Proofs.Ytobmgdceengmiaa.V
