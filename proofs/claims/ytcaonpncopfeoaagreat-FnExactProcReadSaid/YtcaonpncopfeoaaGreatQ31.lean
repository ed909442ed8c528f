/- Lists of texts read; processes packed, read. -/
import Derived.Test.YtcaonpncopfeoaaGreatQ30
set_option linter.unusedVariables false
set_option linter.unusedSimpArgs false
namespace Go.Proofs.YtcaonpncopfeoaaGreat.V
open Go

def MdE31 (f : Nat) : List Mode :=
  match f with
  | 74 => [.mptr]
  | 75 => [.mptr]
  | 82 => [.mptr]
  | 83 => [.mptr]
  | _ => []
def E31 : Env := ⟨τ, MdE31⟩

theorem ssC_snoc (l : List ByteArray) (x : ByteArray) : ssC l ++ [[.sc (.string x)]] = ssC (l ++ [x]) := by
  rw [ssC, ssC, List.map_append]
  rfl
theorem ssC_el {l : List ByteArray} {k : Nat} {x : ByteArray} (h : l[k]? = some x) : (ssC l)[k]? = some [.sc (.string x)] := by rw [List.getElem?_map, h]; rfl
theorem flat_str (x : ByteArray) : Flat 1 [[.sc (.string x)]] := by
  intro r hr
  rw [List.mem_singleton.1 hr]
  refine ⟨rfl, fun c hc => ?_⟩
  rw [List.mem_singleton.1 hc]
  exact ⟨_, rfl, rfl⟩
/-- What a reader of at most so many texts leaves. -/
def TxPost (zs : List Int) (a : Int) (ok : Bool) (most : Int) (l : List ByteArray) (a' : Int) (ok' : Bool) : Prop :=
  RdPost (txtsP zs a) ok l a' ok' ∨ (ok' = true ∧ ok = true ∧ (l.length : Int) = most + 1 ∧ ∀ l' b, txtsP zs a = some (l', b) → most < l'.length)
theorem seq_next {zs : List Int} {b0 b b' : Int} {k : Nat} {l : List ByteArray} {x : ByteArray} {ok0 ok' : Bool} (h : RdPost (seqS (txtP zs) b0 k) ok0 l b true) (hx : RdPost (txtP zs b) true x b' ok') : RdPost (seqS (txtP zs) b0 (k + 1)) ok0 (l ++ [x]) b' ok' := by
  rcases h with ⟨_, h1, h2⟩ | ⟨h, _⟩
  · rcases hx with ⟨e1, _, e2⟩ | ⟨e1, e2⟩
    · exact .inl ⟨e1, h1, seqS_step h2 e2⟩
    · rcases e2 with e2 | e2
      · cases e2
      · exact .inr ⟨e1, .inr (seqS_fail h2 e2)⟩
  · cases h
theorem seq_end {zs : List Int} {a cnt b0 b k : Int} {l : List ByteArray} {ok ok0 okb : Bool} (h0 : RdPost (numP zs a) ok cnt b0 ok0) (h : RdPost (seqS (txtP zs) b0 k.toNat) ok0 l b okb) (k0 : 0 ≤ k) (c0 : 0 ≤ cnt) (hk : k = 0 ∨ k ≤ cnt) (he : cnt ≤ k ∨ okb = false) :
    RdPost (txtsP zs a) ok l b okb := by
  rcases he with he | rfl
  · have : k.toNat = cnt.toNat := by omega
    rw [this] at h
    exact h0.bind (q := fun x a => seqS (txtP zs) a x.toNat) h
  · refine .inr ⟨rfl, ?_⟩
    rcases h with ⟨h, _⟩ | ⟨_, h⟩
    · cases h
    rcases h0 with ⟨e1, e2, e3⟩ | ⟨e1, e2⟩
    · rcases h with h | h
      · rw [e1] at h; cases h
      · right
        unfold txtsP
        rw [e3]
        exact seqS_none h _ (by omega)
    · rcases e2 with e2 | e2
      · exact .inl e2
      · right
        unfold txtsP
        rw [e2]
        rfl

set_option maxRecDepth 100000 in
set_option maxHeartbeats 2000000 in
theorem i_texts_ok (zs : List Int) (a : Int) (ok : Bool) (most : Int) (hz : Bytes zs) (hl : zs.length ≤ 1000000000) (hp : Pos zs a) (m0 : 0 ≤ most) (m1 : most ≤ 1000) :
    FnV Tryz.prog 84 [curV zs a ok, iV most] fun rs outs => ∃ l a' ok', rs = [⟨false, [.own true 1 (ssC l)]⟩] ∧ outs = [curC zs a' ok'] ∧ Pos zs a' ∧ (l.length : Int) ≤ most + 1 ∧ (∀ s ∈ l, s.size ≤ zs.length) ∧ TxPost zs a ok most l a' ok' := by
  refine fn_ok (E := E31) τ_ok mixed Tryz.func84 (by rfl) (by rfl) false (by simp [Tryz.f84]) ?_
  conv => whnf
  refine (i_num_u hz hl hp).mono ?_
  rintro _ _ ⟨cnt, b0, ok0, rfl, rfl, p0, c0, r0⟩
  conv => whnf
  refine ⟨fun m s => ∃ (k : Int) (l : List ByteArray) (b : Int) (okb : Bool), s = ⟨[(0, .bptr 1000000 0 0), (1, .vals false [.sc (.int .i64 most)]), (4, .vals false [.nil 1]), (5, .vals false [.ref 100 0]), (6, .vals false [.sc (.int .i64 cnt)]), (7, .vals false [.sc (.int .i64 k)])],
        [(1000000, ⟨0, [.rd none 1 (bts zs), .sc (.int .i64 b), .sc (.bool okb)]⟩)], [(100, ⟨true, 0, 0, true, 1, ssC l⟩)]⟩ ∧ m = (most + 2 - k).toNat ∧ (l.length : Int) = k ∧ k ≤ most + 1 ∧ (k = 0 ∨ k ≤ cnt) ∧ Pos zs b ∧ (∀ s ∈ l, s.size ≤ zs.length) ∧ RdPost (seqS (txtP zs) b0 k.toNat) ok0 l b okb,
    ⟨_, _, norm_wk (keep := [0, 1, 4, 5, 6, 7]) (kb := [1000000]) (ρ := [(9, some 100)]) rfl, ⟨0, [], b0, ok0, rfl, rfl, rfl, by omega, .inl rfl, p0, fun s hs => (by cases hs), .pure⟩⟩, ?_⟩
  rintro m _ ⟨k, l, b, okb, rfl, rfl, hll, k1, kc, pb, hsz, hR⟩
  have hsl := ssC_len l
  conv => whnf
  refine br_if (fun h1 => ?_) (fun h1 => ?_) <;> (try rw [h1]) <;> (conv => whnf)
  · rw [ltI_t] at h1
    cases okb with
    | false =>
      conv => whnf
      exact ⟨l, b, false, rfl, rfl, pb, by omega, hsz, .inl (seq_end r0 hR (by omega) c0.1 kc (.inr rfl))⟩
    | true =>
      conv => whnf
      refine br_if (fun h2 => ?_) (fun h2 => ?_) <;> (try rw [h2]) <;> (conv => whnf)
      · rw [leI_t] at h2
        refine (i_txt_u hz hl pb).mono ?_
        rintro _ _ ⟨x, b', ok', rfl, rfl, pb', hx, rx⟩
        conv => whnf
        refine .inl ⟨flat_str _, ?_⟩
        conv => whnf
        refine ⟨?_, ?_⟩
        · show ((ssC l).length + 1) * d9.bytes ≤ 140737488355328
          rw [hsl]
          simp only [d9]
          omega
        conv => whnf
        rw [wrp_i64 (x := k + 1) (by omega) (by omega)]
        refine ⟨(most + 2 - (k + 1)).toNat, _, by omega, norm_wk (keep := [0, 1, 4, 5, 6, 7]) (kb := [1000000]) (ρ := [(33, some 100)]) rfl, ⟨k + 1, l ++ [x], b', ok', by rw [← ssC_snoc]; rfl, rfl, by rw [List.length_append, List.length_singleton]; omega, by omega, .inr (by omega), pb', fun s hs => ?_, ?_⟩⟩
        · rcases List.mem_append.1 hs with hs | hs
          · exact hsz s hs
          · rw [List.mem_singleton.1 hs]
            exact hx
        · rw [show (k + 1).toNat = k.toNat + 1 by omega]
          exact seq_next hR rx
      · rw [leI_f] at h2
        refine ⟨l, b, true, rfl, rfl, pb, by omega, hsz, .inr ⟨rfl, ?_, by omega, fun l' b' hh => ?_⟩⟩
        · rcases hR with ⟨_, e1, _⟩ | ⟨e, _⟩
          · rcases r0 with ⟨_, e2, _⟩ | ⟨e2, _⟩
            · exact e2
            · rw [e1] at e2; cases e2
          · cases e
        · unfold txtsP at hh
          rcases r0 with ⟨_, _, e2⟩ | ⟨e2, _⟩
          · rw [e2] at hh
            have := seqS_len hh
            omega
          · rcases hR with ⟨_, e1, _⟩ | ⟨e, _⟩
            · rw [e1] at e2; cases e2
            · cases e
  · rw [ltI_f] at h1
    exact ⟨l, b, okb, rfl, rfl, pb, by omega, hsz, .inl (seq_end r0 hR (by omega) c0.1 kc (.inl h1))⟩

set_option maxRecDepth 100000 in
set_option maxHeartbeats 2000000 in
theorem s_texts_ok (zs : List Int) (a : Int) (ok : Bool) (hz : Bytes zs) (hl : zs.length ≤ 1000000000) (hp : Pos zs a) :
    FnV Tryz.prog 76 [curV zs a ok] fun rs outs => ∃ l a' ok', rs = [⟨false, [.own true 1 (ssC l)]⟩] ∧ outs = [curC zs a' ok'] ∧ Pos zs a' ∧ l.length ≤ zs.length + 1 ∧ (∀ s ∈ l, s.size ≤ zs.length) ∧ RdPost (txtsP zs a) ok l a' ok' := by
  refine fn_ok (E := E31) τ_ok mixed Tryz.func76 (by rfl) (by rfl) false (by simp [Tryz.f76]) ?_
  conv => whnf
  refine (s_num_u hz hl hp).mono ?_
  rintro _ _ ⟨cnt, b0, ok0, rfl, rfl, p0, c0, r0⟩
  conv => whnf
  refine ⟨fun m s => ∃ (k : Int) (l : List ByteArray) (b : Int) (okb : Bool), s = ⟨[(0, .bptr 1000000 0 0), (2, .vals false [.nil 1]), (3, .vals false [.ref 100 0]), (4, .vals false [.sc (.int .i64 cnt)]), (5, .vals false [.sc (.int .i64 k)])],
        [(1000000, ⟨0, [.rd none 1 (bts zs), .sc (.int .i64 b), .sc (.bool okb)]⟩)], [(100, ⟨true, 0, 0, true, 1, ssC l⟩)]⟩ ∧ m = (zs.length + 2 - k).toNat ∧ (l.length : Int) = k ∧ k ≤ zs.length + 1 ∧ (k = 0 ∨ k ≤ cnt) ∧ Pos zs b ∧ (∀ s ∈ l, s.size ≤ zs.length) ∧ RdPost (seqS (txtP zs) b0 k.toNat) ok0 l b okb,
    ⟨_, _, norm_wk (keep := [0, 2, 3, 4, 5]) (kb := [1000000]) (ρ := [(6, some 100)]) rfl, ⟨0, [], b0, ok0, rfl, rfl, rfl, by omega, .inl rfl, p0, fun s hs => (by cases hs), .pure⟩⟩, ?_⟩
  rintro m _ ⟨k, l, b, okb, rfl, rfl, hll, k1, kc, pb, hsz, hR⟩
  have hsl := ssC_len l
  conv => whnf
  refine br_if (fun h1 => ?_) (fun h1 => ?_) <;> (try rw [h1]) <;> (conv => whnf)
  · rw [ltI_t] at h1
    cases okb with
    | false =>
      conv => whnf
      exact ⟨l, b, false, rfl, rfl, pb, by omega, hsz, seq_end r0 hR (by omega) c0.1 kc (.inr rfl)⟩
    | true =>
      have hkl : k ≤ zs.length := by
        rcases hR with ⟨_, _, e⟩ | ⟨e, _⟩
        · have := seq_canon hz p0.1 p0.2 _ e
          have := p0.1
          omega
        · cases e
      conv => whnf
      refine (s_txt_u hz hl pb).mono ?_
      rintro _ _ ⟨x, b', ok', rfl, rfl, pb', hx, rx⟩
      conv => whnf
      refine .inl ⟨flat_str _, ?_⟩
      conv => whnf
      refine ⟨?_, ?_⟩
      · show ((ssC l).length + 1) * d9.bytes ≤ 140737488355328
        rw [hsl]
        simp only [d9]
        omega
      conv => whnf
      rw [wrp_i64 (x := k + 1) (by omega) (by omega)]
      refine ⟨(zs.length + 2 - (k + 1)).toNat, _, by omega, norm_wk (keep := [0, 2, 3, 4, 5]) (kb := [1000000]) (ρ := [(24, some 100)]) rfl, ⟨k + 1, l ++ [x], b', ok', by rw [← ssC_snoc]; rfl, rfl, by rw [List.length_append, List.length_singleton]; omega, by omega, .inr (by omega), pb', fun s hs => ?_, ?_⟩⟩
      · rcases List.mem_append.1 hs with hs | hs
        · exact hsz s hs
        · rw [List.mem_singleton.1 hs]
          exact hx
      · rw [show (k + 1).toNat = k.toNat + 1 by omega]
        exact seq_next hR rx
  · rw [ltI_f] at h1
    exact ⟨l, b, okb, rfl, rfl, pb, by omega, hsz, seq_end r0 hR (by omega) c0.1 kc (.inl h1)⟩

end Go.Proofs.YtcaonpncopfeoaaGreat.V
