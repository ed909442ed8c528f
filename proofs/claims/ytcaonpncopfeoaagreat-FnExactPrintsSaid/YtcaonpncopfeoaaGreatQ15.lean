/- Nodes as bytes. -/
import Derived.Test.YtcaonpncopfeoaaGreatQ14
set_option linter.unusedVariables false
set_option linter.unusedSimpArgs false
namespace Go.Proofs.YtcaonpncopfeoaaGreat.V
open Go

def MdE15 (f : Nat) : List Mode :=
  match f with
  | 184 => [.rd]
  | 185 => [.rd]
  | 259 => [.rd]
  | 323 => [.rd]
  | _ => []
def E15 : Env := ⟨τ, MdE15⟩

def nodeB (x : DNode) : List Int :=
  numI x.xKind ++ (if x.xKind = 2 ∨ x.xKind = 8 ∨ x.xKind = 9 then numI x.xN else if x.xKind = 3 then numI (x.xN + 1000000000) else if x.xKind = 4 then putText x.xS
    else if x.xKind = 5 then numI x.xA ++ numI x.xB else if x.xKind = 6 then numI x.xN ++ numI x.xA else if x.xKind = 7 then numI x.xA else [])
def packA (l : List DNode) : Nat → List Int
  | 0 => numI l.length
  | k + 1 => match l[k]? with
    | none => packA l k
    | some x => packA l k ++ nodeB x
def packL (l : List DNode) : List Int := packA l l.length
theorem packA_step {l : List DNode} {k : Nat} {x : DNode} (hx : l[k]? = some x) : packA l (k + 1) = packA l k ++ nodeB x := by simp only [packA, hx]
theorem nameI_size {s : ByteArray} (h : nameI s = 1) : s.size ≤ 12 := (nameOk_t.1 (nameI_t.2 h)).2.1
theorem putText12 {s : ByteArray} (h : s.size ≤ 12) : (putText s).length ≤ 22 := by
  have := numI_len (x := s.size) (by omega)
  simp only [putText, List.length_append, sb_len]
  omega
theorem nodeB_len {x : DNode} {n : Int} (h : NodeOk x n) (hn : n ≤ 1000000000) : (nodeB x).length ≤ 40 := by
  have h1 := numI_len (x := x.xKind)
  have h2 := numI_len (x := x.xN)
  have h3 := numI_len (x := x.xN + 1000000000)
  have h4 := numI_len (x := x.xA)
  have h5 := numI_len (x := x.xB)
  have b : x.xKind ≤ 9 ∧ x.xN ≤ 1000000000 ∧ x.xA ≤ 1000000000 ∧ x.xB ≤ 1000000000 := by
    rcases h with h | h | h | h | h | h | h | h | h <;> omega
  have hs : x.xKind = 4 → (putText x.xS).length ≤ 22 := fun e => putText12 (nameI_size ((node_k4 e).1 h).2.1)
  unfold nodeB
  rw [List.length_append]
  split
  · omega
  split
  · omega
  split
  · rename_i e; have := hs e; omega
  split
  · rw [List.length_append]; omega
  split
  · rw [List.length_append]; omega
  split
  · omega
  · simp only [List.length_nil]; omega
theorem packA_len {l : List DNode} (h : NodesOk l) (hl : l.length ≤ 400000) : ∀ k : Nat, k ≤ l.length → (packA l k).length ≤ 10 + 40 * k
  | 0, _ => by
    have := numI_len (x := l.length) (by omega)
    exact this
  | k + 1, hk => by
    have hx : l[k]? = some l[k] := List.getElem?_eq_getElem (by omega)
    rw [packA_step hx, List.length_append]
    have := packA_len h hl k (by omega)
    have := nodeB_len (h k _ hx) (by omega)
    omega

set_option maxRecDepth 100000 in
set_option maxHeartbeats 2000000 in
theorem i_pack_ok (p : DPool) (hp : NodesOk p.xNodes) (hl : p.xNodes.length ≤ 400000) : FnV Tryz.prog 266 [pV p] fun rs outs => rs = [oR (packL p.xNodes)] ∧ outs = [] := by
  refine fn_ok (E := E15) τ_ok mixed Tryz.func266 (by rfl) (by rfl) false (by simp [Tryz.f266]) ?_
  have hnl : (p.xNodes.map DNode.c).length = p.xNodes.length := List.length_map ..
  conv => whnf
  refine (i_PutNum_ok _ (by omega)).mono ?_
  rintro _ _ ⟨rfl, rfl⟩
  conv => whnf
  refine ⟨fun m s => ∃ (k : Int), s = ⟨[(3, .vals false [.ref 100 0]), (11, .vals false [.rd none 5 (npC p.xNodes)]), (12, .vals false [.sc (.int .i64 p.xNodes.length)]), (13, .vals false [.sc (.int .i64 k)])], [], [(100, ⟨true, 0, 0, true, 1, bts (packA p.xNodes k.toNat)⟩)]⟩ ∧ m = p.xNodes.length - k.toNat ∧ 0 ≤ k ∧ k ≤ p.xNodes.length,
    ⟨_, _, norm_wk (keep := [3, 11, 12, 13]) (kb := []) (ρ := [(9, some 100)]) rfl, ⟨0, by rw [hnl]; rfl, rfl, by omega, by omega⟩⟩, ?_⟩
  rintro m _ ⟨k, rfl, rfl, k0, k1⟩
  conv => whnf
  refine br_if (fun h => ?_) (fun h => ?_) <;> (try rw [h]) <;> (conv => whnf)
  · rw [ltI_t] at h
    try rw [hnl] at h
    obtain ⟨x, hx⟩ : ∃ x, p.xNodes[k.toNat]? = some x := ⟨_, List.getElem?_eq_getElem (by omega)⟩
    have hN := hp _ x hx
    have b : x.xKind ≤ 9 ∧ x.xN ≤ 1000000000 ∧ -1000000000 ≤ x.xN ∧ x.xA ≤ 1000000000 ∧ x.xB ≤ 1000000000 := by
      rcases hN with h | h | h | h | h | h | h | h | h <;> omega
    have hs : x.xKind = 4 → x.xS.size ≤ 12 := fun e => nameI_size ((node_k4 e).1 hN).2.1
    have q00 := packA_len hp hl k.toNat (by omega)
    have q1 := numI_len (x := x.xKind) (by omega)
    have q2 := numI_len (x := x.xN) (by omega)
    have wn : wrp .i64 (x.xN + 1000000000) = x.xN + 1000000000 := wrp_i64 (by omega) (by omega)
    have wk : wrp .i64 (k + 1) = k + 1 := wrp_i64 (by omega) (by omega)
    have q3 := numI_len (x := wrp .i64 (x.xN + 1000000000)) (by omega)
    have q4 := numI_len (x := x.xA) (by omega)
    have q5 := numI_len (x := x.xB) (by omega)
    refine ⟨k0, _, by rw [List.getElem?_map, hx]; rfl, ?_⟩
    conv => whnf
    have size : ∀ (acc y : List Int), acc.length ≤ 100000000 → y.length ≤ 30 → ((bts acc).length + (bts y).length) * d5.bytes ≤ 140737488355328 := fun acc y h1 h2 => by
      rw [bts_len, bts_len]
      simp only [d5]
      omega
    generalize ha : packA p.xNodes k.toNat = acc at *
    have q0 : acc.length ≤ 100000000 := by omega
    repeat' (first
      | (refine br_if (fun h => ?_) (fun h => ?_) <;> (try rw [h]) <;> (conv => whnf))
      | (refine (i_PutNum_ok _ (by omega)).mono ?_; rintro _ _ ⟨rfl, rfl⟩; conv => whnf)
      | (have q6 := putText12 (hs (eqI_t.1 ‹eqI x.xKind 4 = true›)); refine (i_PutText_ok _ (by have := hs (eqI_t.1 ‹eqI x.xKind 4 = true›); omega)).mono ?_; rintro _ _ ⟨rfl, rfl⟩; conv => whnf)
      | (refine .inl ⟨flat_bts _, ?_⟩; conv => whnf)
      | (refine ⟨by simp only [bts_len, List.length_append, d5]; omega, ?_⟩; conv => whnf)
      | fail)
    all_goals rw [wk]
    all_goals first
      | refine ⟨p.xNodes.length - (k + 1).toNat, _, by omega, norm_wk (keep := [3, 11, 12, 13]) (kb := []) (ρ := [(21, some 100)]) rfl, ⟨k + 1, ?_, rfl, by omega, by omega⟩⟩
      | refine ⟨p.xNodes.length - (k + 1).toNat, _, by omega, norm_wk (keep := [3, 11, 12, 13]) (kb := []) (ρ := [(32, some 100)]) rfl, ⟨k + 1, ?_, rfl, by omega, by omega⟩⟩
      | refine ⟨p.xNodes.length - (k + 1).toNat, _, by omega, norm_wk (keep := [3, 11, 12, 13]) (kb := []) (ρ := [(40, some 100)]) rfl, ⟨k + 1, ?_, rfl, by omega, by omega⟩⟩
      | refine ⟨p.xNodes.length - (k + 1).toNat, _, by omega, norm_wk (keep := [3, 11, 12, 13]) (kb := []) (ρ := [(47, some 100)]) rfl, ⟨k + 1, ?_, rfl, by omega, by omega⟩⟩
      | refine ⟨p.xNodes.length - (k + 1).toNat, _, by omega, norm_wk (keep := [3, 11, 12, 13]) (kb := []) (ρ := [(59, some 100)]) rfl, ⟨k + 1, ?_, rfl, by omega, by omega⟩⟩
      | refine ⟨p.xNodes.length - (k + 1).toNat, _, by omega, norm_wk (keep := [3, 11, 12, 13]) (kb := []) (ρ := [(71, some 100)]) rfl, ⟨k + 1, ?_, rfl, by omega, by omega⟩⟩
      | refine ⟨p.xNodes.length - (k + 1).toNat, _, by omega, norm_wk (keep := [3, 11, 12, 13]) (kb := []) (ρ := [(78, some 100)]) rfl, ⟨k + 1, ?_, rfl, by omega, by omega⟩⟩
    all_goals rw [show (k + 1).toNat = k.toNat + 1 by omega, packA_step hx, ha]
    all_goals simp only [eqI_t, eqI_f] at *
    all_goals try rw [wn]
    all_goals simp [nodeB, bts_append, *]
  · rw [ltI_f] at h
    try rw [hnl] at h
    rw [show k.toNat = p.xNodes.length by omega]
    exact ⟨rfl, rfl⟩

set_option maxRecDepth 100000 in
set_option maxHeartbeats 2000000 in
theorem s_pack_ok (p : DPool) (hp : NodesOk p.xNodes) (hl : p.xNodes.length ≤ 400000) : FnV Tryz.prog 260 [pV p] fun rs outs => rs = [oR (packL p.xNodes)] ∧ outs = [] := by
  refine fn_ok (E := E15) τ_ok mixed Tryz.func260 (by rfl) (by rfl) false (by simp [Tryz.f260]) ?_
  have hnl : (p.xNodes.map DNode.c).length = p.xNodes.length := List.length_map ..
  conv => whnf
  refine (s_PutNum_ok _ (by omega)).mono ?_
  rintro _ _ ⟨rfl, rfl⟩
  conv => whnf
  refine ⟨fun m s => ∃ (k : Int), s = ⟨[(1, .bptr 1 0 0), (3, .vals false [.ref 100 0]), (4, .vals false [.sc (.int .i64 k)])], [(1, ⟨0, [.rd none 5 (npC p.xNodes)]⟩)], [(100, ⟨true, 0, 0, true, 1, bts (packA p.xNodes k.toNat)⟩)]⟩ ∧ m = p.xNodes.length - k.toNat ∧ 0 ≤ k ∧ k ≤ p.xNodes.length,
    ⟨_, _, norm_wk (keep := [1, 3, 4]) (kb := [1]) (ρ := [(9, some 100)]) rfl, ⟨0, by rw [hnl]; rfl, rfl, by omega, by omega⟩⟩, ?_⟩
  rintro m _ ⟨k, rfl, rfl, k0, k1⟩
  conv => whnf
  refine br_if (fun h => ?_) (fun h => ?_) <;> (try rw [h]) <;> (conv => whnf)
  · rw [ltI_t] at h
    try rw [hnl] at h
    obtain ⟨x, hx⟩ : ∃ x, p.xNodes[k.toNat]? = some x := ⟨_, List.getElem?_eq_getElem (by omega)⟩
    have hN := hp _ x hx
    have b : x.xKind ≤ 9 ∧ x.xN ≤ 1000000000 ∧ -1000000000 ≤ x.xN ∧ x.xA ≤ 1000000000 ∧ x.xB ≤ 1000000000 := by
      rcases hN with h | h | h | h | h | h | h | h | h <;> omega
    have hs : x.xKind = 4 → x.xS.size ≤ 12 := fun e => nameI_size ((node_k4 e).1 hN).2.1
    have q00 := packA_len hp hl k.toNat (by omega)
    have q1 := numI_len (x := x.xKind) (by omega)
    have q2 := numI_len (x := x.xN) (by omega)
    have wn : wrp .i64 (x.xN + 1000000000) = x.xN + 1000000000 := wrp_i64 (by omega) (by omega)
    have wk : wrp .i64 (k + 1) = k + 1 := wrp_i64 (by omega) (by omega)
    have q3 := numI_len (x := wrp .i64 (x.xN + 1000000000)) (by omega)
    have q4 := numI_len (x := x.xA) (by omega)
    have q5 := numI_len (x := x.xB) (by omega)
    refine ⟨k0, _, by rw [List.getElem?_map, hx]; rfl, ?_⟩
    conv => whnf
    have size : ∀ (acc y : List Int), acc.length ≤ 100000000 → y.length ≤ 30 → ((bts acc).length + (bts y).length) * d5.bytes ≤ 140737488355328 := fun acc y h1 h2 => by
      rw [bts_len, bts_len]
      simp only [d5]
      omega
    generalize ha : packA p.xNodes k.toNat = acc at *
    have q0 : acc.length ≤ 100000000 := by omega
    repeat' (first
      | (refine br_if (fun h => ?_) (fun h => ?_) <;> (try rw [h]) <;> (conv => whnf))
      | (refine (s_PutNum_ok _ (by omega)).mono ?_; rintro _ _ ⟨rfl, rfl⟩; conv => whnf)
      | (have q6 := putText12 (hs (eqI_t.1 ‹eqI x.xKind 4 = true›)); refine (s_PutText_ok _ (by have := hs (eqI_t.1 ‹eqI x.xKind 4 = true›); omega)).mono ?_; rintro _ _ ⟨rfl, rfl⟩; conv => whnf)
      | (refine .inl ⟨flat_bts _, ?_⟩; conv => whnf)
      | (refine ⟨by simp only [bts_len, List.length_append, d5]; omega, ?_⟩; conv => whnf)
      | (refine ⟨.one (.take 0 (.take 1 (.take 5 (.early 2 (.early 6 (.or 3 (.or 4 (.or 7 (.or 8 (.take 9 .done) .nil) .nil) .nil) .nil)))))), by rfl, ?_⟩; conv => whnf)
      | (refine ⟨rfl, ?_⟩; conv => whnf)
      | fail)
    all_goals rw [wk]
    all_goals first
      | refine ⟨p.xNodes.length - (k + 1).toNat, _, by omega, norm_wk (keep := [1, 3, 4]) (kb := [1]) (ρ := [(26, some 100)]) rfl, ⟨k + 1, ?_, rfl, by omega, by omega⟩⟩
      | refine ⟨p.xNodes.length - (k + 1).toNat, _, by omega, norm_wk (keep := [1, 3, 4]) (kb := [1]) (ρ := [(37, some 100)]) rfl, ⟨k + 1, ?_, rfl, by omega, by omega⟩⟩
      | refine ⟨p.xNodes.length - (k + 1).toNat, _, by omega, norm_wk (keep := [1, 3, 4]) (kb := [1]) (ρ := [(45, some 100)]) rfl, ⟨k + 1, ?_, rfl, by omega, by omega⟩⟩
      | refine ⟨p.xNodes.length - (k + 1).toNat, _, by omega, norm_wk (keep := [1, 3, 4]) (kb := [1]) (ρ := [(52, some 100)]) rfl, ⟨k + 1, ?_, rfl, by omega, by omega⟩⟩
      | refine ⟨p.xNodes.length - (k + 1).toNat, _, by omega, norm_wk (keep := [1, 3, 4]) (kb := [1]) (ρ := [(63, some 100)]) rfl, ⟨k + 1, ?_, rfl, by omega, by omega⟩⟩
      | refine ⟨p.xNodes.length - (k + 1).toNat, _, by omega, norm_wk (keep := [1, 3, 4]) (kb := [1]) (ρ := [(74, some 100)]) rfl, ⟨k + 1, ?_, rfl, by omega, by omega⟩⟩
      | refine ⟨p.xNodes.length - (k + 1).toNat, _, by omega, norm_wk (keep := [1, 3, 4]) (kb := [1]) (ρ := [(81, some 100)]) rfl, ⟨k + 1, ?_, rfl, by omega, by omega⟩⟩
    all_goals rw [show (k + 1).toNat = k.toNat + 1 by omega, packA_step hx, ha]
    all_goals simp only [eqI_t, eqI_f] at *
    all_goals try rw [wn]
    all_goals simp [nodeB, bts_append, *]
  · rw [ltI_f] at h
    try rw [hnl] at h
    rw [show k.toNat = p.xNodes.length by omega]
    exact ⟨rfl, rfl⟩

end Go.Proofs.YtcaonpncopfeoaaGreat.V
