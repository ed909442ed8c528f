/- What the functions do that draw payloads. -/
import Derived.Test.YtobmgdceengmiaaP8
set_option linter.unusedVariables false
set_option linter.unusedSimpArgs false
namespace Go.Proofs.Ytobmgdceengmiaa.V
open Go

set_option maxRecDepth 100000 in
theorem f43_ok (zs : List Int) (i h most : Int) (hl : zs.length ≤ 1000000000) (h0 : 0 ≤ i) (h1 : i ≤ zs.length) (hm0 : 0 ≤ most) (hm : most ≤ 1000) :
    FnV Try.prog 43 [cV zs i h, iV most] fun rs outs => ∃ (xs : List Int) (i' h' : Int), xs.length ≤ 1000 ∧ 0 ≤ i' ∧ i' ≤ zs.length ∧ rs = [oR xs] ∧ outs = [cC zs i' h'] := by
  refine fn_ok (E := En8) τ_ok mixed Try.func43 (by rfl) (by rfl) false (by simp [Try.f43]) ?_
  conv => whnf
  have e1 : wrp .i64 (most + 1) = most + 1 := wrp_i64 (by omega) (by omega)
  rw [e1]
  refine (f41_ok zs i h (most + 1) hl h0 h1).mono ?_
  rintro _ _ ⟨n, i1, hh, hb, i1a, i1b, rfl, rfl⟩
  have hn := hb.1 (by omega)
  conv => whnf
  refine ⟨fun m s => ∃ (k i' h' : Int) (xs : List Int), s = ⟨[(0, .bptr 1000000 0 0), (5, .vals false [.ref 100 0]), (6, .vals false [.sc (.int .i64 n)]), (7, .vals false [.sc (.int .i64 k)])], [(1000000, ⟨0, [.rd none 1 (bts zs), .sc (.int .i64 i'), .sc (.int .i64 h')]⟩)], [(100, ⟨true, 0, 0, true, 1, bts xs⟩)]⟩ ∧ m = 1000 - k.toNat ∧ 0 ≤ k ∧ k ≤ n ∧ (xs.length : Int) = k ∧ 0 ≤ i' ∧ i' ≤ zs.length,
    ⟨_, _, norm_wk (keep := [0, 5, 6, 7]) (kb := []) (ρ := [(8, some 100)]) rfl, ⟨0, i1, hh, [], rfl, rfl, by omega, by omega, rfl, i1a, i1b⟩⟩, ?_⟩
  rintro m _ ⟨k, i', h', xs, rfl, rfl, k0, k1, hxs, i0, i1'⟩
  conv => whnf
  refine br_if (fun h2 => ?_) (fun h2 => ?_) <;> (try rw [h2]) <;> (conv => whnf)
  · rw [ltI_t] at h2
    refine (f51_ok zs i' h' hl i0 i1').mono ?_
    rintro _ _ ⟨x, i2, h3, x0, x1, i2a, i2b, rfl, rfl⟩
    conv => whnf
    refine .inl ⟨flat1 _ _, ?_⟩
    conv => whnf
    refine ⟨by simp only [bts_len, chunk_len, d5]; omega, ?_⟩
    conv => whnf
    rw [wrp_i64 (x := k + 1) (by omega) (by omega)]
    exact ⟨1000 - (k + 1).toNat, _, by omega, norm_wk (keep := [0, 5, 6, 7]) (kb := []) (ρ := [(23, some 100)]) rfl, ⟨k + 1, i2, h3, xs ++ [wrp .u8 x], by rw [bts_append]; rfl, rfl, by omega, by omega, by simp; omega, i2a, i2b⟩⟩
  · exact ⟨xs, i', h', by omega, i0, i1', rfl, rfl⟩

def nine : List Int := [0, 1, 2, 3, 5, 9, 10, 127, 128]

set_option maxRecDepth 100000 in
theorem f45_ok (zs : List Int) (i h : Int) (t : ByteArray) (hl : zs.length ≤ 1000000000) (h0 : 0 ≤ i) (h1 : i ≤ zs.length) (ht : t.size ≤ 1000000) :
    FnV Try.prog 45 [cV zs i h, sV t] fun rs outs => ∃ (x : ByteArray) (i' h' : Int), x.size ≤ t.size + 1 ∧ 0 ≤ i' ∧ i' ≤ zs.length ∧ rs = [sR x] ∧ outs = [cC zs i' h'] := by
  refine fn_ok (E := En8) τ_ok mixed Try.func45 (by rfl) (by rfl) false (by simp [Try.f45]) ?_
  have hl2 := sb_len t
  conv => whnf
  refine ⟨by omega, ?_⟩
  conv => whnf
  rw [bytesOf_sb]
  refine br_if (fun h2 => ?_) (fun h2 => ?_) <;> (try rw [h2]) <;> (conv => whnf)
  · exact ⟨t, i, h, by omega, h0, h1, rfl, rfl⟩
  rw [eqI_f, bts_len] at h2
  refine (f41_ok zs i h 6 hl h0 h1).mono ?_
  rintro _ _ ⟨x, i1, hh1, hb, i1a, i1b, rfl, rfl⟩
  conv => whnf
  refine br_if (fun h3 => ?_) (fun h3 => ?_) <;> (try rw [h3]) <;> (conv => whnf)
  · rw [bts_len]
    refine (f41_ok zs i1 hh1 _ hl i1a i1b).mono ?_
    rintro _ _ ⟨y, i2, hh2, hb2, i2a, i2b, rfl, rfl⟩
    have hy := hb2.1 (by omega)
    conv => whnf
    refine (f52_ok zs i2 hh2 nine hl i2a i2b (by decide) (by decide)).mono ?_
    rintro _ _ ⟨z, i3, hh3, hz, i3a, i3b, rfl, rfl⟩
    conv => whnf
    refine ⟨by omega, by rw [bts_len]; omega, ?_⟩
    conv => whnf
    obtain ⟨d, hd⟩ : ∃ d, (sb t)[y.toNat]? = some d := ⟨_, List.getElem?_eq_getElem (by omega)⟩
    refine ⟨_, bts_at hd, ?_⟩
    conv => whnf
    refine ⟨(sb t).set y.toNat (wrp .u8 z), ?_, ?_⟩
    · show (bts (sb t)).set y.toNat _ = bts ((sb t).set y.toNat (wrp .u8 z))
      unfold bts
      rw [List.map_set]
      rfl
    conv => whnf
    exact ⟨_, i3, hh3, by rw [strOfNums_size, List.length_set]; omega, i3a, i3b, rfl, rfl⟩
  · refine br_if (fun h4 => ?_) (fun h4 => ?_) <;> (try rw [h4]) <;> (conv => whnf)
    · have el : wrp .i64 (((bts (sb t)).length : Nat) + 1) = ((sb t).length : Int) + 1 := by rw [bts_len, wrp_i64 (by omega) (by omega)]
      rw [el]
      refine (f41_ok zs i1 hh1 _ hl i1a i1b).mono ?_
      rintro _ _ ⟨y, i2, hh2, hb2, i2a, i2b, rfl, rfl⟩
      have hy := hb2.1 (by omega)
      conv => whnf
      refine ⟨by omega, by omega, by simp only [bts_len]; omega, ?_⟩
      conv => whnf
      refine ⟨(sb t).take y.toNat, by simp [bts, List.map_take], ?_⟩
      conv => whnf
      exact ⟨_, i2, hh2, by rw [strOfNums_size, List.length_take]; omega, i2a, i2b, rfl, rfl⟩
    refine br_if (fun h5 => ?_) (fun h5 => ?_) <;> (try rw [h5]) <;> (conv => whnf)
    · refine .inl ⟨flat1 _ _, ?_⟩
      conv => whnf
      refine ⟨by simp only [bts_len, chunk_len, d5]; omega, ?_⟩
      conv => whnf
      refine ⟨sb t ++ [0], by show bts (sb t) ++ _ = bts (sb t ++ [0]); rw [bts_append]; rfl, ?_⟩
      conv => whnf
      exact ⟨_, i1, hh1, by rw [strOfNums_size]; simp; omega, i1a, i1b, rfl, rfl⟩
    · refine ⟨sb t, rfl, ?_⟩
      conv => whnf
      exact ⟨_, i1, hh1, by rw [strOfNums_size]; omega, i1a, i1b, rfl, rfl⟩

set_option maxRecDepth 100000 in
theorem f20_ok (zs : List Int) : FnV Try.prog 20 [bV zs] fun rs outs => rs = [bR (ltI 1048576 zs.length)] ∧ outs = [] := by
  refine fn_ok (E := En8) τ_ok mixed Try.func20 (by rfl) (by rfl) false (by simp [Try.f20]) ?_
  conv => whnf
  rw [bts_len]
  exact ⟨rfl, rfl⟩

def three : List ByteArray := [⟨#[]⟩, ⟨#[97]⟩, ⟨#[98, 99, 100]⟩]
theorem three_size {s : ByteArray} (h : s ∈ three) : s.size ≤ 3 := by
  simp only [three, List.mem_cons, List.not_mem_nil, or_false] at h
  rcases h with rfl | rfl | rfl <;> decide

set_option maxRecDepth 100000 in
theorem f21_ok (zs : List Int) (hl : zs.length ≤ 1000000000) : FnV Try.prog 21 [bV zs] fun rs outs => ∃ (pid : Int) (s : ByteArray), -1 ≤ pid ∧ pid ≤ 299 ∧ s.size ≤ 3 ∧ rs = [iR pid, sR s] ∧ outs = [] := by
  refine fn_ok (E := En8) τ_ok mixed Try.func21 (by rfl) (by rfl) false (by simp [Try.f21]) ?_
  conv => whnf
  refine (f40_ok zs hl).mono ?_
  rintro _ _ ⟨h, rfl, rfl⟩
  conv => whnf
  refine (f41_ok zs 0 h 300 hl (by omega) (by omega)).mono ?_
  rintro _ _ ⟨x, i1, h1, b1, i1a, i1b, rfl, rfl⟩
  conv => whnf
  refine (f41_ok zs i1 h1 20 hl i1a i1b).mono ?_
  rintro _ _ ⟨y, i2, h2, b2, i2a, i2b, rfl, rfl⟩
  conv => whnf
  have hx := b1.1 (by omega)
  have hy := b2.1 (by omega)
  refine ⟨by decide, ?_⟩
  conv => whnf
  refine (f42_ok zs i2 h2 three hl i2a i2b (by decide) (by decide)).mono ?_
  rintro _ _ ⟨s, i3, h3, hs, i3a, i3b, rfl, rfl⟩
  conv => whnf
  rw [tdivOf_pos hy.1 (by omega) (by omega), wrp_i64 (by omega) (by omega)]
  exact ⟨_, s, by omega, by omega, three_size hs, rfl, rfl⟩

set_option maxRecDepth 100000 in
theorem f22_ok (zs : List Int) (hl : zs.length ≤ 1000000000) : FnV Try.prog 22 [bV zs] fun rs outs => ∃ s : ByteArray, s.size ≤ 1000 ∧ rs = [sR s] ∧ outs = [] := by
  refine fn_ok (E := En8) τ_ok mixed Try.func22 (by rfl) (by rfl) false (by simp [Try.f22]) ?_
  conv => whnf
  refine (f40_ok zs hl).mono ?_
  rintro _ _ ⟨h, rfl, rfl⟩
  conv => whnf
  refine (f43_ok zs 0 h 9 hl (by omega) (by omega) (by omega) (by omega)).mono ?_
  rintro _ _ ⟨xs, i1, h1, hx, i1a, i1b, rfl, rfl⟩
  conv => whnf
  refine ⟨xs, rfl, ?_⟩
  conv => whnf
  exact ⟨_, by rw [strOfNums_size]; omega, rfl, rfl⟩

theorem mailWord_size {pid : Int} {s : ByteArray} (hp : pid ≤ 9223372036854775807) (hs : s.size ≤ 10000000) : (mailWord pid s).size ≤ s.size + 30 := by
  unfold mailWord
  split
  · show 0 ≤ _
    omega
  · have hl1 := numI_len (x := 1) (by omega)
    have hl2 := numI_len (x := pid) hp
    have hl3 := numI_len (x := s.size) (by omega)
    rw [strOfNums_size]
    simp [putText, sb_len]
    omega
theorem mailMove_size {s : ByteArray} (hs : s.size ≤ 10000000) : (mailMove s).size ≤ s.size + 20 := by
  unfold mailMove
  have hl1 := numI_len (x := 2) (by omega)
  have hl3 := numI_len (x := s.size) (by omega)
  rw [strOfNums_size]
  simp [putText, sb_len]
  omega

set_option maxRecDepth 100000 in
theorem f23_ok (zs : List Int) (hl : zs.length ≤ 1000000000) : FnV Try.prog 23 [bV zs] fun rs outs => ∃ s : ByteArray, s.size ≤ 1000 ∧ rs = [sR s] ∧ outs = [] := by
  refine fn_ok (E := En8) τ_ok mixed Try.func23 (by rfl) (by rfl) false (by simp [Try.f23]) ?_
  conv => whnf
  refine (f40_ok zs hl).mono ?_
  rintro _ _ ⟨h, rfl, rfl⟩
  conv => whnf
  refine (f41_ok zs 0 h 300 hl (by omega) (by omega)).mono ?_
  rintro _ _ ⟨x, i1, h1, b1, i1a, i1b, rfl, rfl⟩
  have hx := b1.1 (by omega)
  conv => whnf
  refine (f42_ok zs i1 h1 three hl i1a i1b (by decide) (by decide)).mono ?_
  rintro _ _ ⟨s, i2, h2, hs, i2a, i2b, rfl, rfl⟩
  have hs3 := three_size hs
  conv => whnf
  refine (f14_ok x s (by omega) (by omega)).mono ?_
  rintro _ _ ⟨rfl, rfl⟩
  have hw := mailWord_size (pid := x) (s := s) (by omega) (by omega)
  conv => whnf
  refine (f44_ok zs i2 h2 2 hl i2a i2b).mono ?_
  rintro _ _ ⟨o, i3, h3, i3a, i3b, rfl, rfl⟩
  conv => whnf
  refine br_if (fun hc => ?_) (fun hc => ?_) <;> (try rw [hc]) <;> (conv => whnf)
  · refine (f42_ok zs i3 h3 three hl i3a i3b (by decide) (by decide)).mono ?_
    rintro _ _ ⟨u, i4, h4, hu, i4a, i4b, rfl, rfl⟩
    have hu3 := three_size hu
    conv => whnf
    refine (f9_ok u (by omega)).mono ?_
    rintro _ _ ⟨rfl, rfl⟩
    have hw := mailMove_size (s := u) (by omega)
    conv => whnf
    refine (f45_ok zs i4 h4 _ hl i4a i4b (by omega)).mono ?_
    rintro _ _ ⟨r, i5, h5, hr, i5a, i5b, rfl, rfl⟩
    conv => whnf
    exact ⟨r, by omega, rfl, rfl⟩
  · refine (f45_ok zs i3 h3 _ hl i3a i3b (by omega)).mono ?_
    rintro _ _ ⟨r, i5, h5, hr, i5a, i5b, rfl, rfl⟩
    conv => whnf
    exact ⟨r, by omega, rfl, rfl⟩

end Go.Proofs.Ytobmgdceengmiaa.V
