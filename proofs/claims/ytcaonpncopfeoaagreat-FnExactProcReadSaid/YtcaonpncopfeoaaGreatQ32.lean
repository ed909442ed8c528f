/- Processes packed. -/
import Derived.Test.YtcaonpncopfeoaaGreatQ31
set_option linter.unusedVariables false
set_option linter.unusedSimpArgs false
namespace Go.Proofs.YtcaonpncopfeoaaGreat.V
open Go

def MdE32 (f : Nat) : List Mode :=
  match f with
  | 114 => [.rd, .rd]
  | 183 => [.rd, .rd]
  | 184 => [.rd]
  | 185 => [.rd]
  | _ => []
def E32 : Env := ⟨τ, MdE32⟩

theorem machB_len {c : DCode} {m : DMachine} (h : machineOk c m = true) (hm : m.ok) : (machB (tidyD m)).length ≤ 130100 := by
  have hns := numsM_le h hm
  have hpk : poolOk (tidyD m).xPool.xNodes = true := keep_ok (machineOk_t.1 h).2.1 (rootsM m)
  have hpl := (poolOk_t.1 hpk).1
  have h1 := packA_len (poolOk_t.1 hpk).2 (by omega) (tidyD m).xPool.xNodes.length (Nat.le_refl _)
  have h2 := flatM_len hns
  rw [← numsM_b, List.length_append]
  have h3 : (numsM (tidyD m)).length = 7 := rfl
  have h4 : (packL (tidyD m).xPool.xNodes).length ≤ 10 + 40 * (tidyD m).xPool.xNodes.length := h1
  omega
theorem mpS_len {c : DCode} {m : DMachine} (hm : m.ok) : (mpS c m).size ≤ 130100 := by
  unfold mpS
  split
  · rename_i h
    rw [strOfNums_size, tidy_yes h]
    exact machB_len h hm
  · exact Nat.zero_le _
theorem textsB_len {l : List ByteArray} {n : Nat} (hn : n ≤ 4000000) (h : ∀ s ∈ l, s.size ≤ n) : (textsB l).length ≤ (n + 20) * l.length := by
  induction l with
  | nil => simp [textsB]
  | cons x r ih =>
    have h1 := h x (List.mem_cons_self ..)
    have h2 := ih fun y hy => h y (List.mem_cons_of_mem _ hy)
    have h3 : (putText x).length ≤ n + 20 := by
      have := numI_len (x := x.size) (by omega)
      simp only [putText, List.length_append, sb_len]
      omega
    have e : textsB (x :: r) = putText x ++ textsB r := rfl
    rw [e, List.length_append, List.length_cons, Nat.mul_add]
    omega

theorem pp_no {c : DCode} {p : DProc} (h : procOk c p = false) : [sR ⟨#[]⟩, bR false] = [sR (ppS c p), bR (procOk c p)] ∧ ([] : List (List C)) = [] := by
  unfold ppS
  rw [h, if_neg (by decide)]
  exact ⟨rfl, rfl⟩
theorem pp_yes {c : DCode} {p : DProc} (h : procOk c p = true) : [sR (strOfNums (numI p.xPid ++ putText (mpS c p.xM) ++ textsL p.xBox ++ textsL p.xOut)), bR true] = [sR (ppS c p), bR (procOk c p)] ∧ ([] : List (List C)) = [] := by
  unfold ppS procB
  rw [h, if_pos rfl]
  exact ⟨rfl, rfl⟩

set_option maxRecDepth 100000 in
set_option maxHeartbeats 2000000 in
theorem i_ProcPack_ok (c : DCode) (p : DProc) (hc : c.ok) (hp : p.ok) (hb : ∀ s ∈ p.xBox, s.size ≤ 2000000) : FnV Tryz.prog 86 [cV c, prV p] fun rs outs => rs = [sR (ppS c p), bR (procOk c p)] ∧ outs = [] := by
  refine fn_ok (E := E32) τ_ok mixed Tryz.func86 (by rfl) (by rfl) false (by simp [Tryz.f86]) ?_
  conv => whnf
  refine (i_ProcOk_ok c p hc hp (fun s hs => by have := hb s hs; omega)).mono ?_
  rintro _ _ ⟨rfl, rfl⟩
  conv => whnf
  refine br_if (fun h1 => ?_) (fun h1 => ?_) <;> (try rw [h1]) <;> (conv => whnf)
  · rw [notB_t] at h1
    exact pp_no h1
  rw [notB_f] at h1
  obtain ⟨hP1, hP2, hP3, hP4, hP5, hP6⟩ := procOk_t.1 h1
  refine (i_MachinePack_ok c p.xM hc hp.2.1).mono ?_
  rintro _ _ ⟨rfl, rfl⟩
  conv => whnf
  have hms := mpS_len (c := c) hp.2.1
  generalize hMP : mpS c p.xM = mp at hms
  refine (i_PutNum_ok p.xPid (by omega)).mono ?_
  rintro _ _ ⟨rfl, rfl⟩
  conv => whnf
  refine (i_PutText_ok mp (by omega)).mono ?_
  rintro _ _ ⟨rfl, rfl⟩
  conv => whnf
  refine .inl ⟨flat_bts _, ?_⟩
  conv => whnf
  have hpt := putText_len (s := mp) (by omega)
  have hpn := numI_len (x := p.xPid) (by omega)
  refine ⟨?_, ?_⟩
  · show ((bts (numI p.xPid)).length + (bts (putText mp)).length) * d5.bytes ≤ 140737488355328
    simp only [bts_len, d5]
    omega
  conv => whnf
  rw [bts_app]
  have ha0 : (numI p.xPid ++ putText mp).length ≤ 200000 := by
    rw [List.length_append]
    have := numI_len (x := mp.size) (by omega)
    have e : (putText mp).length = (numI mp.size).length + mp.size := by simp [putText, sb_len]
    omega
  have hyes := pp_yes h1
  rw [hMP] at hyes
  generalize numI p.xPid ++ putText mp = A0 at ha0 hyes ⊢
  refine ⟨fun q s => ∃ (k : Int) (acc : List Int), s = ⟨[(2, .bptr 2 0 0), (3, .bptr 3 0 0), (4, .vals false [.sc (.string ⟨#[]⟩)]), (5, .vals false [.sc (.bool false)]), (8, .vals false [.ref 100 0]), (34, .vals false [.ref 300 0]), (35, .vals false [.sc (.int .i64 2)]), (36, .vals false [.sc (.int .i64 k)])],
        [(2, ⟨0, c.x⟩), (3, ⟨0, p.x⟩)], [(100, ⟨true, 0, 0, true, 1, bts acc⟩), (300, ⟨true, 0, 0, false, 1, [[.sl false 1 (ssC p.xBox)], [.sl false 1 (ssC p.xOut)]]⟩)]⟩ ∧ q = 2 - k.toNat ∧ 0 ≤ k ∧ k ≤ 2 ∧ acc = A0 ++ ([p.xBox, p.xOut].take k.toNat).flatMap textsL ∧ (acc.length : Int) ≤ 200000 + 90000000 * k,
    ⟨_, _, norm_wk (keep := [2, 3, 4, 5, 8, 34, 35, 36]) (kb := [2, 3]) (ρ := [(29, some 100), (34, some 300)]) rfl, ⟨0, A0, rfl, rfl, by omega, by omega, by simp, by omega⟩⟩, ?_⟩
  rintro q _ ⟨k, acc, rfl, rfl, k0, k1, ha, hal⟩
  conv => whnf
  refine br_if (fun h => ?_) (fun h => ?_) <;> (try rw [h]) <;> (conv => whnf)
  · rw [ltI_t] at h
    obtain ⟨l, hl, hls, hll, hrow⟩ : ∃ l, [p.xBox, p.xOut][k.toNat]? = some l ∧ (∀ s ∈ l, s.size ≤ 2000000) ∧ l.length ≤ 40 ∧ ([[.sl false 1 (ssC p.xBox)], [.sl false 1 (ssC p.xOut)]] : List (List C))[k.toNat]? = some [.sl false 1 (ssC l)] := by
      rcases (show k = 0 ∨ k = 1 by omega) with rfl | rfl
      · exact ⟨p.xBox, rfl, hb, by omega, rfl⟩
      · exact ⟨p.xOut, rfl, fun s hs => by have := hP6 s hs; omega, by omega, rfl⟩
    have hsl := ssC_len l
    have htl := textsB_len (by omega) hls
    refine ⟨k0, by show k < 2; omega, ?_⟩
    conv => whnf
    refine ⟨_, hrow, ?_⟩
    conv => whnf
    rw [hsl]
    have hnl := numI_len (x := (l.length : Nat)) (by omega)
    refine (i_PutNum_ok (l.length : Nat) (by omega)).mono ?_
    rintro _ _ ⟨rfl, rfl⟩
    conv => whnf
    refine .inl ⟨flat_bts _, ?_⟩
    conv => whnf
    refine ⟨?_, ?_⟩
    · show ((bts acc).length + (bts (numI (l.length : Nat))).length) * d5.bytes ≤ 140737488355328
      simp only [bts_len, d5]
      omega
    conv => whnf
    refine ⟨fun q s => ∃ (j : Int) (acc2 : List Int), s = ⟨[(2, .bptr 2 0 0), (3, .bptr 3 0 0), (4, .vals false [.sc (.string ⟨#[]⟩)]), (5, .vals false [.sc (.bool false)]), (8, .vals false [.ref 100 0]), (34, .vals false [.ref 300 0]), (35, .vals false [.sc (.int .i64 2)]), (36, .vals false [.sc (.int .i64 k)]), (45, .vals false [.rd none 1 (ssC l)]), (46, .vals false [.sc (.int .i64 l.length)]), (47, .vals false [.sc (.int .i64 j)])],
        [(2, ⟨0, c.x⟩), (3, ⟨0, p.x⟩)], [(100, ⟨true, 0, 0, true, 1, bts acc2⟩), (300, ⟨true, 0, 0, false, 1, [[.sl false 1 (ssC p.xBox)], [.sl false 1 (ssC p.xOut)]]⟩)]⟩ ∧ q = l.length - j.toNat ∧ 0 ≤ j ∧ j ≤ l.length ∧ acc2 = acc ++ numI l.length ++ textsB (l.take j.toNat) ∧ (textsB (l.take j.toNat)).length ≤ 82000000,
      ⟨_, _, norm_wk (keep := [2, 3, 4, 5, 8, 34, 35, 36, 45, 46, 47]) (kb := [2, 3]) (ρ := [(44, some 100), (300, some 300)]) rfl, ⟨0, acc ++ numI l.length, by rw [hsl, ← bts_app], rfl, by omega, by omega, by simp [textsB], by simp [textsB]⟩⟩, ?_⟩
    rintro q _ ⟨j, acc2, rfl, rfl, j0, j1, ha2, hj2⟩
    have hl2 : (acc2.length : Int) ≤ 400000000 := by
      rw [ha2, List.length_append, List.length_append]
      omega
    conv => whnf
    refine br_if (fun h2 => ?_) (fun h2 => ?_) <;> (try rw [h2]) <;> (conv => whnf)
    · rw [ltI_t] at h2
      obtain ⟨x, hx⟩ : ∃ x, l[j.toNat]? = some x := ⟨_, List.getElem?_eq_getElem (by omega)⟩
      have hxs := hls x (List.mem_of_getElem? hx)
      have hxl := putText_len (s := x) (by omega)
      refine ⟨j0, _, ssC_el hx, ?_⟩
      conv => whnf
      refine (i_PutText_ok x (by omega)).mono ?_
      rintro _ _ ⟨rfl, rfl⟩
      conv => whnf
      refine .inl ⟨flat_bts _, ?_⟩
      conv => whnf
      refine ⟨?_, ?_⟩
      · show ((bts acc2).length + (bts (putText x)).length) * d5.bytes ≤ 140737488355328
        simp only [bts_len, d5]
        omega
      conv => whnf
      rw [wrp_i64 (x := j + 1) (by omega) (by omega)]
      refine ⟨l.length - (j + 1).toNat, _, by omega, norm_wk (keep := [2, 3, 4, 5, 8, 34, 35, 36, 45, 46, 47]) (kb := [2, 3]) (ρ := [(54, some 100), (300, some 300)]) rfl, ⟨j + 1, _, by rw [bts_app], rfl, by omega, by omega, ?_, ?_⟩⟩
      · rw [show (j + 1).toNat = j.toNat + 1 by omega, textsB_step hx, ha2]
        simp
      · have := textsB_len (n := 2000000) (by omega) (l := l.take (j + 1).toNat) fun s hs => hls s (List.mem_of_mem_take hs)
        have h9 : (l.take (j + 1).toNat).length ≤ 40 := by rw [List.length_take]; omega
        omega
    · rw [ltI_f] at h2
      rw [List.take_of_length_le (by omega)] at ha2
      rw [wrp_i64 (x := k + 1) (by omega) (by omega)]
      refine ⟨2 - (k + 1).toNat, _, by omega, norm_wk (keep := [2, 3, 4, 5, 8, 34, 35, 36]) (kb := [2, 3]) (ρ := [(100, some 100), (300, some 300)]) rfl, ⟨k + 1, _, rfl, rfl, by omega, by omega, ?_, ?_⟩⟩
      · rw [show (k + 1).toNat = k.toNat + 1 by omega, List.take_add_one, hl, ha2, ha]
        simp [textsL]
      · rw [ha2, List.length_append, List.length_append]
        omega
  · rw [ltI_f] at h
    rw [List.take_of_length_le (by show 2 ≤ k.toNat; omega)] at ha
    refine ⟨acc, rfl, ?_⟩
    conv => whnf
    rw [ha]
    have e : A0 ++ [p.xBox, p.xOut].flatMap textsL = A0 ++ textsL p.xBox ++ textsL p.xOut := by simp
    rw [e]
    exact hyes

end Go.Proofs.YtcaonpncopfeoaaGreat.V
