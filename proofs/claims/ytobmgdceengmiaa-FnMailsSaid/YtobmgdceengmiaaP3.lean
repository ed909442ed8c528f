/- What Concat and MailWord come to. -/
import Derived.Test.YtobmgdceengmiaaP2
set_option linter.unusedVariables false
set_option linter.unusedSimpArgs false
namespace Go.Proofs.Ytobmgdceengmiaa.V
open Go

def Md3 (f : Nat) : List Mode :=
  match f with
  | 14 => [.rd, .rd]
  | 15 => [.rd, .rd]
  | 24 => [.rd]
  | 25 => [.rd]
  | 26 => [.rd]
  | 27 => [.rd]
  | 29 => [.rd]
  | 46 => [.nilm, .rd]
  | _ => []
def En3 : Env := ⟨τ, Md3⟩

set_option maxRecDepth 100000 in
theorem f46_ok (n : Int) (h0 : 0 ≤ n) (h1 : n ≤ 1000000000) : FnV Try.prog 46 [.nilv 0, iV n] fun rs outs => rs = [oR []] ∧ outs = [] := by
  refine fn_ok (E := En3) τ_ok mixed Try.func46 (by rfl) (by rfl) false (by simp [Try.f46]) ?_
  conv => whnf
  refine br_if (fun h => ?_) (fun h => ?_) <;> (try rw [h]) <;> (conv => whnf)
  · rw [ltI_t] at h
    omega
  have e0 : wrp .i64 (0 - ((([] : List (List C)).length : Nat) : Int)) = 0 := by
    simp only [List.length_nil]
    exact wrp_i64 (by decide) (by decide)
  have e1 : wrp .i64 (n - wrp .i64 (0 - ((([] : List (List C)).length : Nat) : Int))) = n := by rw [e0, Int.sub_zero, wrp_i64 (by omega) (by omega)]
  refine br_if (fun h => ?_) (fun h => ?_) <;> (try rw [h]) <;> (conv => whnf)
  · rw [e1, ltI_t] at h
    refine ⟨rfl, rfl, ?_⟩
    conv => whnf
    rw [e1]
    refine ⟨h, by simp only [d5]; omega, ?_⟩
    conv => whnf
    refine ⟨by simp, by simp, by simp only [List.length_nil]; omega, ?_⟩
    conv => whnf
    exact ⟨rfl, rfl⟩
  · exact ⟨rfl, rfl⟩

def bss (xss : List (List Int)) : List (List C) := xss.map fun xs => [.sl true 1 (bts xs)]
@[reducible] def bsV (xss : List (List Int)) : AV := .rdv false [.sl true 1 (bss xss)]

def lens : List (List Int) → Int
  | [] => 0
  | x :: r => x.length + lens r

theorem lens_nonneg (xss : List (List Int)) : 0 ≤ lens xss := by
  induction xss with
  | nil => simp [lens]
  | cons x r ih => simp only [lens]; omega
theorem lens_app (a b : List (List Int)) : lens (a ++ b) = lens a + lens b := by
  induction a with
  | nil => simp [lens]
  | cons x r ih => simp only [List.cons_append, lens, ih]; omega
theorem lens_take (xss : List (List Int)) (i : Nat) : lens (xss.take i) ≤ lens xss := by
  have := lens_app (xss.take i) (xss.drop i)
  rw [List.take_append_drop] at this
  have := lens_nonneg (xss.drop i)
  omega
theorem lens_flat (xss : List (List Int)) : (xss.flatten.length : Int) = lens xss := by
  induction xss with
  | nil => rfl
  | cons x r ih => simp only [List.flatten_cons, List.length_append, lens, ← ih]; omega
theorem take_succ_at {α : Type} {l : List α} {i : Nat} {x : α} (h : l[i]? = some x) : l.take (i + 1) = l.take i ++ [x] := by
  rw [List.take_add_one, h]; rfl
theorem bss_at {xss : List (List Int)} {i : Nat} {xs : List Int} (h : xss[i]? = some xs) : (bss xss)[i]? = some [.sl true 1 (bts xs)] := by simp [bss, h]
theorem bss_len (xss : List (List Int)) : (bss xss).length = xss.length := by simp [bss]

set_option maxRecDepth 100000 in
theorem f29_ok (xss : List (List Int)) (h0 : lens xss ≤ 1000000000) (hl : xss.length ≤ 1000000000) : FnV Try.prog 29 [bsV xss] fun rs outs => rs = [oR xss.flatten] ∧ outs = [] := by
  refine fn_ok (E := En3) τ_ok mixed Try.func29 (by rfl) (by rfl) false (by simp [Try.f29]) ?_
  conv => whnf
  refine ⟨fun n s => ∃ i : Nat, s = ⟨[(0, .vals false [.rd none 1 (bss xss)]), (3, .vals false [.sc (.int .i64 (lens (xss.take i)))]), (9, .vals false [.rd none 1 (bss xss)]), (10, .vals false [.sc (.int .i64 ((bss xss).length : Nat))]), (11, .vals false [.sc (.int .i64 (i : Nat))])], [], []⟩ ∧ n = xss.length - i ∧ i ≤ xss.length,
    ⟨_, _, norm_wk (keep := [0, 3, 9, 10, 11]) (kb := []) (ρ := []) rfl, ⟨0, rfl, rfl, Nat.zero_le _⟩⟩, ?_⟩
  rintro n _ ⟨i, rfl, rfl, hi⟩
  have hti := lens_take xss i
  have htn := lens_nonneg (xss.take i)
  conv => whnf
  refine br_if (fun h => ?_) (fun h => ?_) <;> (try rw [h]) <;> (conv => whnf)
  · rw [ltI_t, bss_len] at h
    have hlt : i < xss.length := by omega
    obtain ⟨xs, hxs⟩ : ∃ xs, xss[i]? = some xs := ⟨_, List.getElem?_eq_getElem hlt⟩
    have e0 : lens (xss.take (i + 1)) = lens (xss.take i) + xs.length := by
      rw [take_succ_at hxs, lens_app]
      simp [lens]
    have hti1 := lens_take xss (i + 1)
    have e1 : wrp .i64 (lens (xss.take i) + ((bts xs).length : Nat)) = lens (xss.take (i + 1)) := by
      rw [bts_len, wrp_i64 (by omega) (by omega), e0]
    have e2 : wrp .i64 ((i : Nat) + 1) = ((i + 1 : Nat) : Int) := by rw [wrp_i64 (by omega) (by omega)]; rfl
    refine ⟨by omega, [.sl true 1 (bts xs)], by simpa using bss_at hxs, ?_⟩
    conv => whnf
    rw [e1]
    refine br_if (fun h => ?_) (fun h => ?_) <;> (try rw [h]) <;> (conv => whnf)
    · rw [ltI_t] at h
      omega
    · exact ⟨_, _, by omega, norm_wk (keep := [0, 3, 9, 10, 11]) (kb := []) (ρ := []) rfl, ⟨i + 1, by rw [e2], rfl, by omega⟩⟩
  · rw [ltI_f, bss_len] at h
    have hil : i = xss.length := by omega
    subst hil
    simp only [List.take_length] at hti htn ⊢
    refine (f46_ok _ htn h0).mono ?_
    rintro _ _ ⟨rfl, rfl⟩
    conv => whnf
    refine ⟨fun n s => ∃ i : Nat, s = ⟨[(6, .vals false [.ref 100 0]), (25, .vals false [.rd none 1 (bss xss)]), (26, .vals false [.sc (.int .i64 ((bss xss).length : Nat))]), (27, .vals false [.sc (.int .i64 (i : Nat))])], [], [(100, ⟨true, 0, 0, true, 1, bts (xss.take i).flatten⟩)]⟩ ∧ n = xss.length - i ∧ i ≤ xss.length,
      ⟨_, _, norm_wk (keep := [6, 25, 26, 27]) (kb := []) (ρ := [(24, some 100)]) rfl, ⟨0, rfl, rfl, Nat.zero_le _⟩⟩, ?_⟩
    rintro n _ ⟨i, rfl, rfl, hi⟩
    have hti := lens_take xss i
    have htf := lens_flat (xss.take i)
    conv => whnf
    refine br_if (fun h => ?_) (fun h => ?_) <;> (try rw [h]) <;> (conv => whnf)
    · rw [ltI_t, bss_len] at h
      have hlt : i < xss.length := by omega
      obtain ⟨xs, hxs⟩ : ∃ xs, xss[i]? = some xs := ⟨_, List.getElem?_eq_getElem hlt⟩
      have e0 : lens (xss.take (i + 1)) = lens (xss.take i) + xs.length := by
        rw [take_succ_at hxs, lens_app]
        simp [lens]
      have hti1 := lens_take xss (i + 1)
      have e2 : wrp .i64 ((i : Nat) + 1) = ((i + 1 : Nat) : Int) := by rw [wrp_i64 (by omega) (by omega)]; rfl
      refine ⟨by omega, [.sl true 1 (bts xs)], by simpa using bss_at hxs, ?_⟩
      conv => whnf
      refine ⟨by simp only [d5]; exact flat_bts _, ?_⟩
      conv => whnf
      refine ⟨by simp only [bts_len, d5]; omega, ?_⟩
      conv => whnf
      exact ⟨_, _, by omega, norm_wk (keep := [6, 25, 26, 27]) (kb := []) (ρ := [(33, some 100)]) rfl, ⟨i + 1, by rw [e2, take_succ_at hxs, List.flatten_append, bts_append]; simp, rfl, by omega⟩⟩
    · rw [ltI_f, bss_len] at h
      have hil : i = xss.length := by omega
      subst hil
      have ht : xss.take xss.length = xss := List.take_length
      rw [ht]
      exact ⟨rfl, rfl⟩

def mailWord (pid : Int) (s : ByteArray) : ByteArray := if pid < 0 then ⟨#[]⟩ else strOfNums (numI 1 ++ numI pid ++ putText s)

set_option maxRecDepth 100000 in
theorem f14_ok (pid : Int) (s : ByteArray) (hp : pid ≤ 9223372036854775807) (hs : s.size ≤ 10000000) : FnV Try.prog 14 [iV pid, sV s] fun rs outs => rs = [sR (mailWord pid s)] ∧ outs = [] := by
  refine fn_ok (E := En3) τ_ok mixed Try.func14 (by rfl) (by rfl) false (by simp [Try.f14]) ?_
  conv => whnf
  refine br_if (fun h => ?_) (fun h => ?_) <;> (try rw [h]) <;> (conv => whnf)
  · rw [ltI_t] at h
    simp only [mailWord, if_pos h, and_true]
  · rw [ltI_f] at h
    have hl1 := numI_len (x := 1) (by omega)
    have hl2 := numI_len (x := pid) hp
    have hl3 := putText_len hs
    refine (f24_ok _ (by omega)).mono ?_
    rintro _ _ ⟨rfl, rfl⟩
    conv => whnf
    refine (f24_ok _ hp).mono ?_
    rintro _ _ ⟨rfl, rfl⟩
    conv => whnf
    refine .inl ⟨by simp only [d5]; exact flat_bts _, ?_⟩
    conv => whnf
    refine ⟨by simp only [bts_len, d5]; omega, ?_⟩
    conv => whnf
    refine (f25_ok _ hs).mono ?_
    rintro _ _ ⟨rfl, rfl⟩
    conv => whnf
    refine .inl ⟨by simp only [d5]; exact flat_bts _, ?_⟩
    conv => whnf
    refine ⟨by simp only [List.length_append, bts_len, d5]; omega, ?_⟩
    conv => whnf
    refine ⟨numI 1 ++ numI pid ++ putText s, by simp [bts], ?_⟩
    conv => whnf
    simp only [mailWord, if_neg (Int.not_lt.2 h), and_true]

set_option maxRecDepth 100000 in
theorem f15_ok (pid : Int) (s : ByteArray) (hp : pid ≤ 9223372036854775807) (hs : s.size ≤ 10000000) : FnV Try.prog 15 [iV pid, sV s] fun rs outs => rs = [sR (mailWord pid s)] ∧ outs = [] := by
  refine fn_ok (E := En3) τ_ok mixed Try.func15 (by rfl) (by rfl) false (by simp [Try.f15]) ?_
  conv => whnf
  refine br_if (fun h => ?_) (fun h => ?_) <;> (try rw [h]) <;> (conv => whnf)
  · rw [ltI_t] at h
    simp only [mailWord, if_pos h, and_true]
  · rw [ltI_f] at h
    have hl1 := numI_len (x := 1) (by omega)
    have hl2 := numI_len (x := pid) hp
    have hl3 := putText_len hs
    refine (f26_ok _ (by omega)).mono ?_
    rintro _ _ ⟨rfl, rfl⟩
    conv => whnf
    refine (f26_ok _ hp).mono ?_
    rintro _ _ ⟨rfl, rfl⟩
    conv => whnf
    refine (f27_ok _ hs).mono ?_
    rintro _ _ ⟨rfl, rfl⟩
    conv => whnf
    have hsum : lens [numI 1, numI pid, putText s] ≤ 1000000000 := by simp only [lens]; omega
    refine (f29_ok [numI 1, numI pid, putText s] hsum (by simp)).mono ?_
    rintro _ _ ⟨rfl, rfl⟩
    conv => whnf
    refine ⟨numI 1 ++ numI pid ++ putText s, by simp [bts], ?_⟩
    conv => whnf
    simp only [mailWord, if_neg (Int.not_lt.2 h), and_true]

set_option maxRecDepth 100000 in
theorem f5_ok (pid : Int) (s : ByteArray) (hp : pid ≤ 9223372036854775807) (hs : s.size ≤ 9223372036854775807) : FnV Try.prog 5 [iV pid, sV s] fun rs outs => rs = [bR true] ∧ outs = [] := by
  refine fn_ok (E := En3) τ_ok mixed Try.func5 (by rfl) (by rfl) false (by simp [Try.f5]) ?_
  conv => whnf
  refine br_if (fun h => ?_) (fun h => ?_) <;> (try rw [h]) <;> (conv => whnf)
  · exact ⟨rfl, rfl⟩
  · rw [ltI_f] at h
    refine (f14_ok _ _ hp (by omega)).mono ?_
    rintro _ _ ⟨rfl, rfl⟩
    conv => whnf
    refine (f15_ok _ _ hp (by omega)).mono ?_
    rintro _ _ ⟨rfl, rfl⟩
    conv => whnf
    refine br_if (fun h => ?_) (fun h => ?_) <;> (try rw [h]) <;> (conv => whnf)
    · rw [notB_t, eqStr_self] at h
      cases h
    · exact ⟨rfl, rfl⟩

end Go.Proofs.Ytobmgdceengmiaa.V
