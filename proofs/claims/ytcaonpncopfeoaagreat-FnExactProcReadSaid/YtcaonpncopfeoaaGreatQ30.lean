/- Machines packed, read. -/
import Derived.Test.YtcaonpncopfeoaaGreatQ29
set_option linter.unusedVariables false
set_option linter.unusedSimpArgs false
namespace Go.Proofs.YtcaonpncopfeoaaGreat.V
open Go

def MdE30 (f : Nat) : List Mode :=
  match f with
  | 74 => [.mptr]
  | 82 => [.mptr]
  | 173 => [.mptr]
  | 174 => [.rd, .rd]
  | 175 => [.rd, .rd]
  | 182 => [.mptr]
  | 183 => [.rd, .rd]
  | 184 => [.rd]
  | 209 => [.rd, .rd]
  | 258 => [.rd]
  | 259 => [.rd]
  | 260 => [.rd]
  | 265 => [.rd]
  | 266 => [.rd]
  | _ => []
def E30 : Env := ⟨τ, MdE30⟩

theorem RdPost.pure {α : Type} {x : α} {a : Int} {ok : Bool} : RdPost (some (x, a)) ok x a ok := by
  cases ok
  · exact .inr ⟨rfl, .inl rfl⟩
  · exact .inl ⟨rfl, rfl, rfl⟩
noncomputable def mq8 (zs : List Int) (x1 x2 x3 x4 x5 x6 x7 a : Int) : Option (DMachine × Int) := (poolP zs a).bind fun r => some (⟨⟨r.1⟩, x1, x4, x5, x6, x2, x3, x7⟩, r.2)
noncomputable def mq7 (zs : List Int) (x1 x2 x3 x4 x5 x6 a : Int) : Option (DMachine × Int) := (numP zs a).bind fun r => mq8 zs x1 x2 x3 x4 x5 x6 r.1 r.2
noncomputable def mq6 (zs : List Int) (x1 x2 x3 x4 x5 a : Int) : Option (DMachine × Int) := (numP zs a).bind fun r => mq7 zs x1 x2 x3 x4 x5 r.1 r.2
noncomputable def mq5 (zs : List Int) (x1 x2 x3 x4 a : Int) : Option (DMachine × Int) := (numP zs a).bind fun r => mq6 zs x1 x2 x3 x4 r.1 r.2
noncomputable def mq4 (zs : List Int) (x1 x2 x3 a : Int) : Option (DMachine × Int) := (numP zs a).bind fun r => mq5 zs x1 x2 x3 r.1 r.2
noncomputable def mq3 (zs : List Int) (x1 x2 a : Int) : Option (DMachine × Int) := (numP zs a).bind fun r => mq4 zs x1 x2 r.1 r.2
noncomputable def mq2 (zs : List Int) (x1 a : Int) : Option (DMachine × Int) := (numP zs a).bind fun r => mq3 zs x1 r.1 r.2
theorem mach_chain {zs : List Int} {x1 x2 x3 x4 x5 x6 x7 a0 a1 a2 a3 a4 a5 a6 a7 a8 : Int} {l : List DNode} {ok o1 o2 o3 o4 o5 o6 o7 o8 : Bool} (r1 : RdPost (numP zs a0) ok x1 a1 o1) (r2 : RdPost (numP zs a1) o1 x2 a2 o2) (r3 : RdPost (numP zs a2) o2 x3 a3 o3)
    (r4 : RdPost (numP zs a3) o3 x4 a4 o4) (r5 : RdPost (numP zs a4) o4 x5 a5 o5) (r6 : RdPost (numP zs a5) o5 x6 a6 o6) (r7 : RdPost (numP zs a6) o6 x7 a7 o7) (r8 : RdPost (poolP zs a7) o7 l a8 o8) :
    RdPost (machP zs a0) ok ⟨⟨l⟩, x1, x4, x5, x6, x2, x3, x7⟩ a8 o8 :=
  r1.bind (q := mq2 zs) (r2.bind (q := mq3 zs x1) (r3.bind (q := mq4 zs x1 x2) (r4.bind (q := mq5 zs x1 x2 x3) (r5.bind (q := mq6 zs x1 x2 x3 x4) (r6.bind (q := mq7 zs x1 x2 x3 x4 x5) (r7.bind (q := mq8 zs x1 x2 x3 x4 x5 x6) (r8.bind (q := fun l a => some ((⟨⟨l⟩, x1, x4, x5, x6, x2, x3, x7⟩ : DMachine), a)) .pure)))))))

/-! ### readers, told alike -/
theorem i_num_u {zs : List Int} {a : Int} {ok : Bool} (hz : Bytes zs) (hl : zs.length ≤ 1000000000) (hp : Pos zs a) :
    FnV Tryz.prog 82 [curV zs a ok] fun rs outs => ∃ x a' ok', rs = [iR x] ∧ outs = [curC zs a' ok'] ∧ Pos zs a' ∧ (0 ≤ x ∧ x ≤ 9223372036854775807) ∧ RdPost (numP zs a) ok x a' ok' := by
  refine (rd_num ok hz hl hp).mono ?_
  rintro _ _ (⟨h, rfl, rfl⟩ | ⟨h, rfl, rfl⟩)
  · refine ⟨_, _, _, rfl, rfl, posJ hz a, gX_r hz a, ?_⟩
    unfold numP
    rw [if_pos h]
    exact .pure
  · refine ⟨_, _, _, rfl, rfl, hp, ⟨by omega, by omega⟩, .inr ⟨rfl, .inr ?_⟩⟩
    unfold numP
    rw [if_neg (by rw [h]; decide)]
theorem s_num_u {zs : List Int} {a : Int} {ok : Bool} (hz : Bytes zs) (hl : zs.length ≤ 1000000000) (hp : Pos zs a) :
    FnV Tryz.prog 74 [curV zs a ok] fun rs outs => ∃ x a' ok', rs = [iR x] ∧ outs = [curC zs a' ok'] ∧ Pos zs a' ∧ (0 ≤ x ∧ x ≤ 9223372036854775807) ∧ RdPost (numP zs a) ok x a' ok' := by
  refine (s_num ok hz hl hp).mono ?_
  rintro _ _ (⟨h, rfl, rfl⟩ | ⟨h, rfl, rfl⟩)
  · rw [Bool.and_eq_true] at h
    refine ⟨_, _, _, rfl, rfl, posJ hz a, gX_r hz a, ?_⟩
    unfold numP
    rw [if_pos h.1]
    exact .pure
  · refine ⟨_, _, _, rfl, rfl, hp, ⟨by omega, by omega⟩, .inr ⟨rfl, ?_⟩⟩
    rw [Bool.and_eq_false_iff] at h
    rcases h with h | h
    · right
      unfold numP
      rw [if_neg (by rw [h]; decide)]
    · exact .inl h
theorem i_txt_u {zs : List Int} {a : Int} {ok : Bool} (hz : Bytes zs) (hl : zs.length ≤ 1000000000) (hp : Pos zs a) :
    FnV Tryz.prog 83 [curV zs a ok] fun rs outs => ∃ x a' ok', rs = [sR x] ∧ outs = [curC zs a' ok'] ∧ Pos zs a' ∧ x.size ≤ zs.length ∧ RdPost (txtP zs a) ok x a' ok' := by
  refine (rd_text ok hz hl hp).mono ?_
  rintro _ _ (⟨h, rfl, rfl⟩ | ⟨h, rfl, rfl⟩)
  · refine ⟨_, _, _, rfl, rfl, posT hz a, tS_size zs a, ?_⟩
    unfold txtP
    rw [if_pos h]
    exact .pure
  · refine ⟨_, _, _, rfl, rfl, hp, Nat.zero_le _, .inr ⟨rfl, .inr ?_⟩⟩
    unfold txtP
    rw [if_neg (by rw [h]; decide)]
theorem s_txt_u {zs : List Int} {a : Int} {ok : Bool} (hz : Bytes zs) (hl : zs.length ≤ 1000000000) (hp : Pos zs a) :
    FnV Tryz.prog 75 [curV zs a ok] fun rs outs => ∃ x a' ok', rs = [sR x] ∧ outs = [curC zs a' ok'] ∧ Pos zs a' ∧ x.size ≤ zs.length ∧ RdPost (txtP zs a) ok x a' ok' := by
  have hp' := hp
  unfold Pos at hp'
  refine (s_l12ReadText_ok zs a ok hz hl (by omega) (by omega)).mono ?_
  rintro _ _ (⟨h, rfl, rfl⟩ | ⟨h, rfl, rfl⟩)
  · rw [Bool.and_eq_true] at h
    refine ⟨_, _, _, rfl, rfl, posT hz a, tS_size zs a, ?_⟩
    unfold txtP
    rw [if_pos h.1]
    exact .pure
  · refine ⟨_, _, _, rfl, rfl, hp, Nat.zero_le _, .inr ⟨rfl, ?_⟩⟩
    rw [Bool.and_eq_false_iff] at h
    rcases h with h | h
    · right
      unfold txtP
      rw [if_neg (by rw [h]; decide)]
    · exact .inl h

theorem mp_no {c : DCode} {m : DMachine} (h : machineOk c m = false) : [sR ⟨#[]⟩, bR false] = [sR (mpS c m), bR (machineOk c m)] ∧ ([] : List (List C)) = [] := by
  unfold mpS
  rw [h, if_neg (by decide)]
  exact ⟨rfl, rfl⟩
def numsM (t : DMachine) : List Int := [t.xAt, t.xState, t.xAsk, t.xS, t.xE, t.xD, t.xArg]
theorem numsM_b (t : DMachine) : (numsM t).flatMap numI ++ packL t.xPool.xNodes = machB t := by
  simp [numsM, machB]
theorem mp_yes {c : DCode} {m : DMachine} (h : machineOk c m = true) : [sR (strOfNums ((numsM (tidyD m)).flatMap numI ++ packL (tidyD m).xPool.xNodes)), bR true] = [sR (mpS c m), bR (machineOk c m)] ∧ ([] : List (List C)) = [] := by
  unfold mpS
  rw [h, if_pos rfl, numsM_b, tidy_yes h]
  exact ⟨rfl, rfl⟩
theorem flatM_step {l : List Int} {k : Nat} {x : Int} (h : l[k]? = some x) : (l.take (k + 1)).flatMap numI = (l.take k).flatMap numI ++ numI x := by
  rw [List.take_add_one, h]
  simp
theorem flatM_len {l : List Int} (h : ∀ x ∈ l, x ≤ 9223372036854775807) : (l.flatMap numI).length ≤ 10 * l.length := by
  induction l with
  | nil => simp
  | cons x r ih =>
    have h1 := numI_len (h x (List.mem_cons_self ..))
    have h2 := ih fun y hy => h y (List.mem_cons_of_mem _ hy)
    simp only [List.flatMap_cons, List.length_append, List.length_cons]
    omega
theorem bts_app (a b : List Int) : bts a ++ bts b = bts (a ++ b) := by simp [bts]
theorem numsM_le {c : DCode} {m : DMachine} (h : machineOk c m = true) (hm : m.ok) : ∀ x ∈ numsM (tidyD m), x ≤ 9223372036854775807 := by
  have r1 := kid_reach h (r := m.xS) (by unfold rootsM; simp)
  have r2 := kid_reach h (r := m.xE) (by unfold rootsM; simp)
  have r3 := kid_reach h (r := m.xD) (by unfold rootsM; simp)
  have hkl := keep_len m.xPool.xNodes (rootsM m)
  have hp3 := (poolOk_t.1 (machineOk_t.1 h).2.1).1
  obtain ⟨-, b1, -, -, -, b5, b6, b7⟩ := hm
  intro x hx
  have e : numsM (tidyD m) = [m.xAt, m.xState, m.xAsk, kid (tblM m) m.xS, kid (tblM m) m.xE, kid (tblM m) m.xD, if m.xState = 1 ∨ m.xState = 2 then kid (tblM m) m.xArg else m.xArg] := rfl
  rw [e] at hx
  simp only [List.mem_cons, List.not_mem_nil, or_false] at hx
  rcases hx with rfl | rfl | rfl | rfl | rfl | rfl | rfl
  · exact b1.2
  · exact b5.2
  · exact b6.2
  · omega
  · omega
  · omega
  · split
    · rename_i hs
      have r4 := kid_reach h (r := m.xArg) (by unfold rootsM; rw [if_pos hs]; simp)
      omega
    · exact b7.2

set_option maxRecDepth 100000 in
set_option maxHeartbeats 2000000 in
theorem i_MachinePack_ok (c : DCode) (m : DMachine) (hc : c.ok) (hm : m.ok) : FnV Tryz.prog 183 [cV c, mV m] fun rs outs => rs = [sR (mpS c m), bR (machineOk c m)] ∧ outs = [] := by
  refine fn_ok (E := E30) τ_ok mixed Tryz.func183 (by rfl) (by rfl) false (by simp [Tryz.f183]) ?_
  conv => whnf
  refine (i_MachineOk_ok c m hc hm).mono ?_
  rintro _ _ ⟨rfl, rfl⟩
  conv => whnf
  refine br_if (fun h1 => ?_) (fun h1 => ?_) <;> (try rw [h1]) <;> (conv => whnf)
  · rw [notB_t] at h1
    exact mp_no h1
  rw [notB_f] at h1
  refine (i_Tidy_ok c m h1 hm).mono ?_
  rintro _ _ ⟨rfl, rfl⟩
  conv => whnf
  have hns := numsM_le h1 hm
  have hpk := keep_ok (machineOk_t.1 h1).2.1 (rootsM m)
  have hyes := mp_yes h1
  have hpk' : poolOk (tidyD m).xPool.xNodes = true := hpk
  clear hpk
  generalize tidyD m = t at hns hyes hpk' ⊢
  have hpl := (poolOk_t.1 hpk').1
  have hpn := (poolOk_t.1 hpk').2
  have hkl : (packL t.xPool.xNodes).length ≤ 130000 := by
    have := packA_len hpn (by omega) t.xPool.xNodes.length (Nat.le_refl _)
    show (packA t.xPool.xNodes t.xPool.xNodes.length).length ≤ 130000
    omega
  refine ⟨fun q s => ∃ (k : Int) (acc : List Int), s = ⟨[(2, .bptr 2 0 0), (3, .bptr 3 0 0), (4, .vals false [.sc (.string ⟨#[]⟩)]), (5, .vals false [.sc (.bool false)]), (6, .vals false [.ref 100 0]), (30, .vals false [.ref 300 0]), (31, .vals false [.sc (.int .i64 7)]), (32, .vals false [.sc (.int .i64 k)])],
        [(2, ⟨0, c.x⟩), (3, ⟨0, [.ref 400 0, .sc (.int .i64 t.xAt), .sc (.int .i64 t.xS), .sc (.int .i64 t.xE), .sc (.int .i64 t.xD), .sc (.int .i64 t.xState), .sc (.int .i64 t.xAsk), .sc (.int .i64 t.xArg)]⟩)],
        [(400, ⟨true, 0, 0, true, 5, npC t.xPool.xNodes⟩), (100, ⟨true, 0, 0, true, 1, bts acc⟩), (300, ⟨true, 0, 0, true, 1, nnC (numsM t)⟩)]⟩ ∧ q = 7 - k.toNat ∧ 0 ≤ k ∧ k ≤ 7 ∧ acc = ((numsM t).take k.toNat).flatMap numI,
    ⟨_, _, norm_wk (keep := [2, 3, 4, 5, 6, 30, 31, 32]) (kb := [2, 3]) (ρ := [(14, some 400), (15, some 100), (30, some 300)]) rfl, ⟨0, [], rfl, rfl, by omega, by omega, rfl⟩⟩, ?_⟩
  rintro q _ ⟨k, acc, rfl, rfl, k0, k1, ha⟩
  have hacc : acc.length ≤ 70 := by
    rw [ha]
    have := flatM_len (l := (numsM t).take k.toNat) fun x hx => hns x (List.mem_of_mem_take hx)
    have h7 : ((numsM t).take k.toNat).length ≤ 7 := by
      rw [List.length_take]
      have : (numsM t).length = 7 := rfl
      omega
    omega
  have hn7 : (nnC (numsM t)).length = 7 := rfl
  conv => whnf
  refine br_if (fun h => ?_) (fun h => ?_) <;> (try rw [h]) <;> (conv => whnf)
  · rw [ltI_t] at h
    obtain ⟨x, hx⟩ : ∃ x, (numsM t)[k.toNat]? = some x := ⟨_, List.getElem?_eq_getElem (by show k.toNat < 7; omega)⟩
    have hrow : (nnC (numsM t))[k.toNat]? = some [.sc (.int .i64 x)] := by rw [List.getElem?_map, hx]; rfl
    have hxl := numI_len (hns x (List.mem_of_getElem? hx))
    refine ⟨k0, by show k < ((nnC (numsM t)).length : Int); rw [hn7]; omega, ?_⟩
    conv => whnf
    refine ⟨_, hrow, ?_⟩
    conv => whnf
    refine (i_PutNum_ok x (hns x (List.mem_of_getElem? hx))).mono ?_
    rintro _ _ ⟨rfl, rfl⟩
    conv => whnf
    refine .inl ⟨flat_bts _, ?_⟩
    conv => whnf
    refine ⟨?_, ?_⟩
    · show ((bts acc).length + (bts (numI x)).length) * d5.bytes ≤ 140737488355328
      simp only [bts_len, d5]
      omega
    conv => whnf
    rw [wrp_i64 (x := k + 1) (by omega) (by omega)]
    refine ⟨7 - (k + 1).toNat, _, by omega, norm_wk (keep := [2, 3, 4, 5, 6, 30, 31, 32]) (kb := [2, 3]) (ρ := [(400, some 400), (39, some 100), (300, some 300)]) rfl, ⟨k + 1, _, by rw [bts_app], rfl, by omega, by omega, ?_⟩⟩
    rw [show (k + 1).toNat = k.toNat + 1 by omega, flatM_step hx, ha]
  · rw [ltI_f] at h
    rw [List.take_of_length_le (by show 7 ≤ k.toNat; omega)] at ha
    refine (i_pack_ok t.xPool hpn (by omega)).mono ?_
    rintro _ _ ⟨rfl, rfl⟩
    conv => whnf
    refine .inl ⟨flat_bts _, ?_⟩
    conv => whnf
    refine ⟨?_, ?_⟩
    · show ((bts acc).length + (bts (packL t.xPool.xNodes)).length) * d5.bytes ≤ 140737488355328
      simp only [bts_len, d5]
      omega
    conv => whnf
    refine ⟨acc ++ packL t.xPool.xNodes, bts_app acc (packL t.xPool.xNodes), ?_⟩
    conv => whnf
    rw [ha]
    exact hyes


set_option maxRecDepth 100000 in
set_option maxHeartbeats 2000000 in
theorem s_MachinePack_ok (c : DCode) (m : DMachine) (hc : c.ok) (hm : m.ok) : FnV Tryz.prog 174 [cV c, mV m] fun rs outs => rs = [sR (mpS c m), bR (machineOk c m)] ∧ outs = [] := by
  refine fn_ok (E := E30) τ_ok mixed Tryz.func174 (by rfl) (by rfl) false (by simp [Tryz.f174]) ?_
  conv => whnf
  refine (s_MachineOk_ok c m hc hm).mono ?_
  rintro _ _ ⟨rfl, rfl⟩
  conv => whnf
  refine br_if (fun h1 => ?_) (fun h1 => ?_) <;> (try rw [h1]) <;> (conv => whnf)
  · rw [notB_t] at h1
    exact mp_no h1
  rw [notB_f] at h1
  refine (s_Tidy_ok c m h1 hm).mono ?_
  rintro _ _ ⟨rfl, rfl⟩
  conv => whnf
  have hns := numsM_le h1 hm
  have hpk := keep_ok (machineOk_t.1 h1).2.1 (rootsM m)
  have hyes := mp_yes h1
  have hpk' : poolOk (tidyD m).xPool.xNodes = true := hpk
  clear hpk
  generalize tidyD m = t at hns hyes hpk' ⊢
  have hpl := (poolOk_t.1 hpk').1
  have hpn := (poolOk_t.1 hpk').2
  have hkl : (packL t.xPool.xNodes).length ≤ 130000 := by
    have := packA_len hpn (by omega) t.xPool.xNodes.length (Nat.le_refl _)
    show (packA t.xPool.xNodes t.xPool.xNodes.length).length ≤ 130000
    omega
  refine ⟨fun q s => ∃ (k : Int) (acc : List Int), s = ⟨[(2, .bptr 2 0 0), (6, .bptr 6 0 0), (4, .vals false [.sc (.string ⟨#[]⟩)]), (5, .vals false [.sc (.bool false)]), (7, .vals false [.ref 100 0]), (8, .vals false [.ref 300 0]), (9, .vals false [.sc (.int .i64 k)])],
        [(2, ⟨0, c.x⟩), (6, ⟨0, [.ref 400 0, .sc (.int .i64 t.xAt), .sc (.int .i64 t.xS), .sc (.int .i64 t.xE), .sc (.int .i64 t.xD), .sc (.int .i64 t.xState), .sc (.int .i64 t.xAsk), .sc (.int .i64 t.xArg)]⟩)],
        [(400, ⟨true, 0, 0, true, 5, npC t.xPool.xNodes⟩), (100, ⟨true, 0, 0, true, 1, bts acc⟩), (300, ⟨true, 0, 0, true, 1, nnC (numsM t)⟩)]⟩ ∧ q = 7 - k.toNat ∧ 0 ≤ k ∧ k ≤ 7 ∧ acc = ((numsM t).take k.toNat).flatMap numI,
    ⟨_, _, norm_wk (keep := [2, 6, 4, 5, 7, 8, 9]) (kb := [2, 6]) (ρ := [(15, some 400), (16, some 100), (31, some 300)]) rfl, ⟨0, [], rfl, rfl, by omega, by omega, rfl⟩⟩, ?_⟩
  rintro q _ ⟨k, acc, rfl, rfl, k0, k1, ha⟩
  have hacc : acc.length ≤ 70 := by
    rw [ha]
    have := flatM_len (l := (numsM t).take k.toNat) fun x hx => hns x (List.mem_of_mem_take hx)
    have h7 : ((numsM t).take k.toNat).length ≤ 7 := by
      rw [List.length_take]
      have : (numsM t).length = 7 := rfl
      omega
    omega
  have hn7 : (nnC (numsM t)).length = 7 := rfl
  conv => whnf
  rw [hn7]
  refine br_if (fun h => ?_) (fun h => ?_) <;> (try rw [h]) <;> (conv => whnf)
  · rw [ltI_t] at h
    obtain ⟨x, hx⟩ : ∃ x, (numsM t)[k.toNat]? = some x := ⟨_, List.getElem?_eq_getElem (by show k.toNat < 7; omega)⟩
    have hrow : (nnC (numsM t))[k.toNat]? = some [.sc (.int .i64 x)] := by rw [List.getElem?_map, hx]; rfl
    have hxl := numI_len (hns x (List.mem_of_getElem? hx))
    refine ⟨k0, by show k < ((nnC (numsM t)).length : Int); rw [hn7]; omega, ?_⟩
    conv => whnf
    refine ⟨_, hrow, ?_⟩
    conv => whnf
    refine (s_PutNum_ok x (hns x (List.mem_of_getElem? hx))).mono ?_
    rintro _ _ ⟨rfl, rfl⟩
    conv => whnf
    refine .inl ⟨flat_bts _, ?_⟩
    conv => whnf
    refine ⟨?_, ?_⟩
    · show ((bts acc).length + (bts (numI x)).length) * d5.bytes ≤ 140737488355328
      simp only [bts_len, d5]
      omega
    conv => whnf
    rw [wrp_i64 (x := k + 1) (by omega) (by omega)]
    refine ⟨7 - (k + 1).toNat, _, by omega, norm_wk (keep := [2, 6, 4, 5, 7, 8, 9]) (kb := [2, 6]) (ρ := [(400, some 400), (44, some 100), (300, some 300)]) rfl, ⟨k + 1, _, by rw [bts_app], rfl, by omega, by omega, ?_⟩⟩
    rw [show (k + 1).toNat = k.toNat + 1 by omega, flatM_step hx, ha]
  · rw [ltI_f] at h
    rw [List.take_of_length_le (by show 7 ≤ k.toNat; omega)] at ha
    refine (s_pack_ok t.xPool hpn (by omega)).mono ?_
    rintro _ _ ⟨rfl, rfl⟩
    conv => whnf
    refine .inl ⟨flat_bts _, ?_⟩
    conv => whnf
    refine ⟨?_, ?_⟩
    · show ((bts acc).length + (bts (packL t.xPool.xNodes)).length) * d5.bytes ≤ 140737488355328
      simp only [bts_len, d5]
      omega
    conv => whnf
    refine ⟨acc ++ packL t.xPool.xNodes, bts_app acc (packL t.xPool.xNodes), ?_⟩
    conv => whnf
    rw [ha]
    exact hyes


theorem i64r {x : Int} (h : 0 ≤ x ∧ x ≤ 9223372036854775807) : -9223372036854775808 ≤ x ∧ x ≤ 9223372036854775807 := ⟨by omega, h.2⟩
def m0 : DMachine := ⟨⟨[]⟩, 0, 0, 0, 0, 0, 0, 0⟩
noncomputable def mrdR (c : DCode) (s : ByteArray) : List RV :=
  match mrdP c s with
  | some m => [mR m, bR true]
  | none => [mR m0, bR false]
theorem mrdR_no {c : DCode} {s : ByteArray} (h : mrdP c s = none) : [mR m0, bR false] = mrdR c s ∧ ([] : List (List C)) = [] := by
  unfold mrdR
  rw [h]
  exact ⟨rfl, rfl⟩
theorem mrdR_yes {c : DCode} {s : ByteArray} {m : DMachine} (h : mrdP c s = some m) : [mR m, bR true] = mrdR c s ∧ ([] : List (List C)) = [] := by
  unfold mrdR
  rw [h]
  exact ⟨rfl, rfl⟩

set_option maxRecDepth 100000 in
set_option maxHeartbeats 2000000 in
theorem i_MachineRead_ok (c : DCode) (s : ByteArray) (hc : c.ok) (hs : s.size ≤ 1000000000) : FnV Tryz.prog 85 [cV c, sV s] fun rs outs => rs = mrdR c s ∧ outs = [] := by
  refine fn_ok (E := E30) τ_ok mixed Tryz.func85 (by rfl) (by rfl) false (by simp [Tryz.f85]) ?_
  have hz := sb_bytes s
  have hl := sb_len s
  have hl' : (sb s).length ≤ 1000000000 := by omega
  conv => whnf
  refine ⟨by omega, ?_⟩
  conv => whnf
  rw [bytesOf_sb]
  refine (i_num_u (zs := sb s) (a := 0) (ok := true) hz hl' ⟨by omega, by omega⟩).mono ?_
  rintro _ _ ⟨x1, a1, o1, rfl, rfl, p1, y1, r1⟩
  conv => whnf
  refine (i_num_u hz hl' p1).mono ?_
  rintro _ _ ⟨x2, a2, o2, rfl, rfl, p2, y2, r2⟩
  conv => whnf
  refine (i_num_u hz hl' p2).mono ?_
  rintro _ _ ⟨x3, a3, o3, rfl, rfl, p3, y3, r3⟩
  conv => whnf
  refine (i_num_u hz hl' p3).mono ?_
  rintro _ _ ⟨x4, a4, o4, rfl, rfl, p4, y4, r4⟩
  conv => whnf
  refine (i_num_u hz hl' p4).mono ?_
  rintro _ _ ⟨x5, a5, o5, rfl, rfl, p5, y5, r5⟩
  conv => whnf
  refine (i_num_u hz hl' p5).mono ?_
  rintro _ _ ⟨x6, a6, o6, rfl, rfl, p6, y6, r6⟩
  conv => whnf
  refine (i_num_u hz hl' p6).mono ?_
  rintro _ _ ⟨x7, a7, o7, rfl, rfl, p7, y7, r7⟩
  conv => whnf
  refine (i_nodes_ok (sb s) a7 o7 hz hl' p7).mono ?_
  rintro _ _ ⟨l, a8, o8, rfl, rfl, q1, q2, q3, q4⟩
  conv => whnf
  have hm : (⟨⟨l⟩, x1, x4, x5, x6, x2, x3, x7⟩ : DMachine).ok := ⟨⟨by show l.length ≤ _; omega, q1⟩, i64r y1, i64r y4, i64r y5, i64r y6, i64r y2, i64r y3, i64r y7⟩
  have r8 : RdPost (poolP (sb s) a7) o7 l a8 o8 ∨ (o8 = true ∧ l.length = 3001 ∧ machP (sb s) 0 = none) := by
    rcases q4 with h | ⟨h1, h2, h3, h4⟩ | h
    · exact .inl (.inl h)
    · refine .inr ⟨h1, h3, ?_⟩
      have r9 : RdPost (poolP (sb s) a7) o7 l a8 false := .inr ⟨rfl, .inr h4⟩
      exact (mach_chain r1 r2 r3 r4 r5 r6 r7 r9).no
    · exact .inl (.inr h)
  refine (i_MachinePack_ok c _ hc hm).mono ?_
  rintro _ _ ⟨rfl, rfl⟩
  conv => whnf
  refine br_if (fun g1 => ?_) (fun g1 => ?_) <;> (try rw [g1]) <;> (conv => whnf)
  · rw [notB_t] at g1
    subst g1
    refine mrdR_no (mrd_none ?_)
    rcases r8 with r8 | ⟨e, _⟩
    · exact (mach_chain r1 r2 r3 r4 r5 r6 r7 r8).no
    · cases e
  rw [notB_f] at g1
  subst g1
  refine br_if (fun g2 => ?_) (fun g2 => ?_) <;> (try rw [g2]) <;> (conv => whnf)
  · rw [notB_t] at g2
    refine mrdR_no ?_
    rcases r8 with r8 | ⟨_, _, e⟩
    · exact mrd_no (mach_chain r1 r2 r3 r4 r5 r6 r7 r8).yes fun h => by rw [h.1] at g2; cases g2
    · exact mrd_none e
  rw [notB_f] at g2
  have r9 : machP (sb s) 0 = some (⟨⟨l⟩, x1, x4, x5, x6, x2, x3, x7⟩, a8) := by
    rcases r8 with r8 | ⟨_, e, _⟩
    · exact (mach_chain r1 r2 r3 r4 r5 r6 r7 r8).yes
    · have : l.length ≤ 3000 := (poolOk_t.1 (machineOk_t.1 g2).2.1).1
      omega
  refine br_if (fun g3 => ?_) (fun g3 => ?_) <;> (try rw [g3]) <;> (conv => whnf)
  · rw [notB_t, eqStr_f] at g3
    exact mrdR_no (mrd_no r9 fun h => g3 h.2)
  · rw [notB_f, eqStr_t] at g3
    exact mrdR_yes (mrd_some r9 g2 g3)

set_option maxRecDepth 100000 in
set_option maxHeartbeats 2000000 in
theorem s_MachineRead_ok (c : DCode) (s : ByteArray) (hc : c.ok) (hs : s.size ≤ 1000000000) : FnV Tryz.prog 77 [cV c, sV s] fun rs outs => rs = mrdR c s ∧ outs = [] := by
  refine fn_ok (E := E30) τ_ok mixed Tryz.func77 (by rfl) (by rfl) false (by simp [Tryz.f77]) ?_
  have hz := sb_bytes s
  have hl := sb_len s
  have hl' : (sb s).length ≤ 1000000000 := by omega
  conv => whnf
  refine ⟨by omega, ?_⟩
  conv => whnf
  rw [bytesOf_sb]
  refine (s_num_u (zs := sb s) (a := 0) (ok := true) hz hl' ⟨by omega, by omega⟩).mono ?_
  rintro _ _ ⟨x1, a1, o1, rfl, rfl, p1, y1, r1⟩
  conv => whnf
  refine (s_num_u hz hl' p1).mono ?_
  rintro _ _ ⟨x2, a2, o2, rfl, rfl, p2, y2, r2⟩
  conv => whnf
  refine (s_num_u hz hl' p2).mono ?_
  rintro _ _ ⟨x3, a3, o3, rfl, rfl, p3, y3, r3⟩
  conv => whnf
  refine (s_num_u hz hl' p3).mono ?_
  rintro _ _ ⟨x4, a4, o4, rfl, rfl, p4, y4, r4⟩
  conv => whnf
  refine (s_num_u hz hl' p4).mono ?_
  rintro _ _ ⟨x5, a5, o5, rfl, rfl, p5, y5, r5⟩
  conv => whnf
  refine (s_num_u hz hl' p5).mono ?_
  rintro _ _ ⟨x6, a6, o6, rfl, rfl, p6, y6, r6⟩
  conv => whnf
  refine (s_num_u hz hl' p6).mono ?_
  rintro _ _ ⟨x7, a7, o7, rfl, rfl, p7, y7, r7⟩
  conv => whnf
  refine (s_l8Read_ok (sb s) a7 o7 hz hl' p7).mono ?_
  rintro _ _ ⟨l, a8, o8, rfl, rfl, q1, q2, q3, q4⟩
  conv => whnf
  have hm : (⟨⟨l⟩, x1, x4, x5, x6, x2, x3, x7⟩ : DMachine).ok := ⟨⟨by show l.length ≤ _; omega, q1⟩, i64r y1, i64r y4, i64r y5, i64r y6, i64r y2, i64r y3, i64r y7⟩
  refine br_if (fun g1 => ?_) (fun g1 => ?_) <;> (try rw [g1]) <;> (conv => whnf)
  · rw [notB_t] at g1
    subst g1
    refine mrdR_no ?_
    rcases q4 with ⟨e, _⟩ | ⟨_, e⟩
    · cases e
    cases hp : poolP (sb s) a7 with
    | none =>
      have r8 : RdPost (poolP (sb s) a7) o7 l a8 false := .inr ⟨rfl, .inr hp⟩
      exact mrd_none (mach_chain r1 r2 r3 r4 r5 r6 r7 r8).no
    | some q =>
      obtain ⟨l', b'⟩ := q
      cases o7 with
      | false =>
        have r8 : RdPost (poolP (sb s) a7) false l a8 false := .inr ⟨rfl, .inl rfl⟩
        exact mrd_none (mach_chain r1 r2 r3 r4 r5 r6 r7 r8).no
      | true =>
        have r8 : RdPost (poolP (sb s) a7) true l' b' true := .inl ⟨rfl, rfl, hp⟩
        have hM := (mach_chain r1 r2 r3 r4 r5 r6 r7 r8).yes
        refine mrd_no hM fun h => ?_
        obtain ⟨e1, e2⟩ := mrd_all hM h.1 h.2
        have e3 : poolOk l' = true := (machineOk_t.1 h.1).2.1
        rcases e with e | e
        · cases e
        · unfold allP at e
          rw [hp] at e
          simp only at e
          rw [if_pos ⟨e1, e3⟩] at e
          cases e
  rw [notB_f] at g1
  subst g1
  have q5 : o7 = true ∧ allP (sb s) a7 = some l := by
    rcases q4 with ⟨_, h1, h2⟩ | ⟨h2, _⟩
    · exact ⟨h1, h2⟩
    · cases h2
  obtain ⟨rfl, q6⟩ := q5
  have q7 : poolP (sb s) a7 = some (l, ((sb s).length : Int)) := by
    unfold allP at q6
    split at q6
    · rename_i l' b hb
      split at q6
      · rename_i hc
        cases q6
        rw [hb, hc.1]
      · cases q6
    · cases q6
  have r8 : RdPost (poolP (sb s) a7) true l ((sb s).length : Int) true := .inl ⟨rfl, rfl, q7⟩
  have r9 := (mach_chain r1 r2 r3 r4 r5 r6 r7 r8).yes
  refine (s_MachinePack_ok c _ hc hm).mono ?_
  rintro _ _ ⟨rfl, rfl⟩
  conv => whnf
  refine br_if (fun g2 => ?_) (fun g2 => ?_) <;> (try rw [g2]) <;> (conv => whnf)
  · rw [notB_t] at g2
    exact mrdR_no (mrd_no r9 fun h => by rw [h.1] at g2; cases g2)
  rw [notB_f] at g2
  refine br_if (fun g3 => ?_) (fun g3 => ?_) <;> (try rw [g3]) <;> (conv => whnf)
  · rw [notB_t, eqStr_f] at g3
    exact mrdR_no (mrd_no r9 fun h => g3 h.2)
  · rw [notB_f, eqStr_t] at g3
    exact mrdR_yes (mrd_some r9 g2 g3)

end Go.Proofs.YtcaonpncopfeoaaGreat.V
