/- What the functions toT of the laws come to. (printed by wip/tools/fam.py) -/
import Derived.Test.YtcaonpncopfeoaaGreatT
import Derived.Test.YtcaonpncopfeoaaGreatD1
set_option linter.unusedVariables false
set_option linter.unusedSimpArgs false
namespace Go.Proofs.YtcaonpncopfeoaaGreat.V
open Go

/-- So many zero rows behind those that are laid. -/
theorem lay_at {α : Type} {l : List α} {z v : α} {m : Nat} : (l ++ List.replicate (m + 1) z).set l.length v = l ++ [v] ++ List.replicate m z := by
  rw [List.set_append_right _ _ (Nat.le_refl _)]
  simp [List.replicate_succ]
theorem lay_get {α : Type} {l : List α} {z : α} {m : Nat} : (l ++ List.replicate (m + 1) z)[l.length]? = some z := by simp
theorem map_take_succ {α β : Type} (f : α → β) {l : List α} {k : Nat} {x : α} (h : l[k]? = some x) : (l.take (k + 1)).map f = (l.take k).map f ++ [f x] := by
  rw [List.take_add_one, h]
  simp

def Mdto (f : Nat) : List Mode :=
  match f with
  | 19 => [.rd]
  | 28 => [.rd]
  | 52 => [.rd]
  | 79 => [.rd]
  | 80 => [.rd]
  | 81 => [.rd]
  | 106 => [.rd]
  | 107 => [.rd]
  | 108 => [.rd]
  | 109 => [.rd]
  | 110 => [.rd]
  | 156 => [.rd]
  | 157 => [.rd]
  | 177 => [.rd]
  | 178 => [.rd]
  | 179 => [.rd]
  | 200 => [.rd]
  | 201 => [.rd]
  | 202 => [.rd]
  | 203 => [.rd]
  | 263 => [.rd]
  | 272 => [.rd]
  | 273 => [.rd]
  | _ => []
def Ento : Env := ⟨τ, Mdto⟩

set_option maxRecDepth 100000 in
theorem toNode_ok (a : DNode) : FnV Tryz.prog 263 [.rdv true a.c] fun rs outs => rs = [a.r] ∧ outs = [] := by
  refine fn_ok (E := Ento) τ_ok mixed Tryz.func263 (by rfl) (by rfl) false (by simp [Tryz.f263]) ?_
  conv => whnf
  exact ⟨rfl, rfl⟩

set_option maxRecDepth 100000 in
theorem toNodeS_ok (xs : List DNode) (hl : xs.length ≤ 1048576) (ho : ∀ y ∈ xs, y.sz ≤ 1048576) :
    FnV Tryz.prog 177 [.rdv false [.sl true 5 (xs.map DNode.c)]] fun rs outs => rs = [⟨false, [.own true 5 (xs.map DNode.c)]⟩] ∧ outs = [] := by
  refine fn_ok (E := Ento) τ_ok mixed Tryz.func177 (by rfl) (by rfl) false (by simp [Tryz.f177]) ?_
  conv => whnf
  rw [List.length_map]
  refine ⟨by omega, rfl, by simp only [d274]; omega, by omega, ?_⟩
  conv => whnf
  refine ⟨fun m s => ∃ (k : Int) (es : List (List C)), s = ⟨[(0, .vals false [.rd none 5 (xs.map DNode.c)]), (3, .vals false [.ref 100 0]), (4, .vals false [.sc (.int .i64 k)])], [], [(100, ⟨true, 0, 0, true, 5, es⟩)]⟩ ∧ m = xs.length - k.toNat ∧ 0 ≤ k ∧ k ≤ xs.length ∧ es = (xs.take k.toNat).map DNode.c ++ List.replicate (xs.length - k.toNat) (List.map zC d274.zero),
    ⟨_, _, norm_wk (keep := [0, 3, 4]) (kb := []) (ρ := [(7, some 100)]) rfl, ⟨0, _, rfl, rfl, by omega, by omega, by simp⟩⟩, ?_⟩
  rintro m _ ⟨k, es, rfl, rfl, k0, k1, he⟩
  have hel : (es.length : Int) = xs.length := by rw [he]; simp; omega
  conv => whnf
  refine br_if (fun h => ?_) (fun h => ?_) <;> (try rw [h]) <;> (conv => whnf)
  · rw [ltI_t, List.length_map] at h
    obtain ⟨x, hx⟩ : ∃ x, xs[k.toNat]? = some x := ⟨_, List.getElem?_eq_getElem (by omega)⟩
    have hm := List.mem_of_getElem? hx
    have hlt : (xs.take k.toNat).length = k.toNat := by rw [List.length_take]; omega
    obtain ⟨r, hr⟩ : ∃ r, xs.length - k.toNat = r + 1 := ⟨xs.length - k.toNat - 1, by omega⟩
    rw [hr] at he
    have hget : es[k.toNat]? = some (List.map zC d274.zero) := by
      rw [he]
      have := lay_get (l := (xs.take k.toNat).map DNode.c) (z := (List.map zC d274.zero)) (m := r)
      rw [List.length_map, hlt] at this
      exact this
    have hset : es.set k.toNat x.c = (xs.take (k.toNat + 1)).map DNode.c ++ List.replicate r (List.map zC d274.zero) := by
      rw [he, map_take_succ DNode.c hx]
      have := lay_at (l := (xs.take k.toNat).map DNode.c) (z := (List.map zC d274.zero)) (v := x.c) (m := r)
      rw [List.length_map, hlt] at this
      exact this
    refine ⟨by omega, _, by rw [List.getElem?_map, hx]; rfl, ?_⟩
    conv => whnf
    refine (toNode_ok x).mono ?_
    rintro _ _ ⟨rfl, rfl⟩
    conv => whnf
    refine ⟨by omega, by show k < (es.length : Int); omega, ?_⟩
    conv => whnf
    refine ⟨_, hget, ?_⟩
    conv => whnf
    rw [wrp_i64 (x := k + 1) (by omega) (by omega)]
    exact ⟨xs.length - (k + 1).toNat, _, by omega, norm_wk (keep := [0, 3, 4]) (kb := []) (ρ := [(100, some 100)]) rfl, ⟨k + 1, _, rfl, rfl, by omega, by omega, by
      have e2 : (k + 1).toNat = k.toNat + 1 := by omega
      have e3 : xs.length - (k.toNat + 1) = r := by omega
      rw [e2, e3]
      exact hset⟩⟩
  · rw [ltI_f, List.length_map] at h
    have hk : xs.take k.toNat = xs := List.take_of_length_le (by omega)
    have hz : xs.length - k.toNat = 0 := by omega
    rw [hk, hz, List.replicate_zero, List.append_nil] at he
    rw [he]
    exact ⟨rfl, rfl⟩

set_option maxRecDepth 100000 in
theorem toPool_ok (a : DPool) (hs : a.sz ≤ 1048576) : FnV Tryz.prog 79 [.rdv true a.c] fun rs outs => rs = [a.r] ∧ outs = [] := by
  refine fn_ok (E := Ento) τ_ok mixed Tryz.func79 (by rfl) (by rfl) false (by simp [Tryz.f79]) ?_
  conv => whnf
  have nNodes := szL_nonneg DNode.sz_nonneg a.xNodes
  unfold DPool.sz at hs
  refine (toNodeS_ok a.xNodes (by omega) (fun y hy => by have := szL_mem DNode.sz_nonneg hy; omega)).mono ?_
  rintro _ _ ⟨rfl, rfl⟩
  conv => whnf
  exact ⟨rfl, rfl⟩

set_option maxRecDepth 100000 in
theorem toInstr_ok (a : DInstr) : FnV Tryz.prog 178 [.rdv true a.c] fun rs outs => rs = [a.r] ∧ outs = [] := by
  refine fn_ok (E := Ento) τ_ok mixed Tryz.func178 (by rfl) (by rfl) false (by simp [Tryz.f178]) ?_
  conv => whnf
  exact ⟨rfl, rfl⟩

set_option maxRecDepth 100000 in
theorem toDef_ok (a : DDef) : FnV Tryz.prog 179 [.rdv true a.c] fun rs outs => rs = [a.r] ∧ outs = [] := by
  refine fn_ok (E := Ento) τ_ok mixed Tryz.func179 (by rfl) (by rfl) false (by simp [Tryz.f179]) ?_
  conv => whnf
  exact ⟨rfl, rfl⟩

set_option maxRecDepth 100000 in
theorem toInstrS_ok (xs : List DInstr) (hl : xs.length ≤ 1048576) (ho : ∀ y ∈ xs, y.sz ≤ 1048576) :
    FnV Tryz.prog 80 [.rdv false [.sl true 4 (xs.map DInstr.c)]] fun rs outs => rs = [⟨false, [.own true 4 (xs.map DInstr.c)]⟩] ∧ outs = [] := by
  refine fn_ok (E := Ento) τ_ok mixed Tryz.func80 (by rfl) (by rfl) false (by simp [Tryz.f80]) ?_
  conv => whnf
  rw [List.length_map]
  refine ⟨by omega, rfl, by simp only [d212]; omega, by omega, ?_⟩
  conv => whnf
  refine ⟨fun m s => ∃ (k : Int) (es : List (List C)), s = ⟨[(0, .vals false [.rd none 4 (xs.map DInstr.c)]), (3, .vals false [.ref 100 0]), (4, .vals false [.sc (.int .i64 k)])], [], [(100, ⟨true, 0, 0, true, 4, es⟩)]⟩ ∧ m = xs.length - k.toNat ∧ 0 ≤ k ∧ k ≤ xs.length ∧ es = (xs.take k.toNat).map DInstr.c ++ List.replicate (xs.length - k.toNat) (List.map zC d212.zero),
    ⟨_, _, norm_wk (keep := [0, 3, 4]) (kb := []) (ρ := [(7, some 100)]) rfl, ⟨0, _, rfl, rfl, by omega, by omega, by simp⟩⟩, ?_⟩
  rintro m _ ⟨k, es, rfl, rfl, k0, k1, he⟩
  have hel : (es.length : Int) = xs.length := by rw [he]; simp; omega
  conv => whnf
  refine br_if (fun h => ?_) (fun h => ?_) <;> (try rw [h]) <;> (conv => whnf)
  · rw [ltI_t, List.length_map] at h
    obtain ⟨x, hx⟩ : ∃ x, xs[k.toNat]? = some x := ⟨_, List.getElem?_eq_getElem (by omega)⟩
    have hm := List.mem_of_getElem? hx
    have hlt : (xs.take k.toNat).length = k.toNat := by rw [List.length_take]; omega
    obtain ⟨r, hr⟩ : ∃ r, xs.length - k.toNat = r + 1 := ⟨xs.length - k.toNat - 1, by omega⟩
    rw [hr] at he
    have hget : es[k.toNat]? = some (List.map zC d212.zero) := by
      rw [he]
      have := lay_get (l := (xs.take k.toNat).map DInstr.c) (z := (List.map zC d212.zero)) (m := r)
      rw [List.length_map, hlt] at this
      exact this
    have hset : es.set k.toNat x.c = (xs.take (k.toNat + 1)).map DInstr.c ++ List.replicate r (List.map zC d212.zero) := by
      rw [he, map_take_succ DInstr.c hx]
      have := lay_at (l := (xs.take k.toNat).map DInstr.c) (z := (List.map zC d212.zero)) (v := x.c) (m := r)
      rw [List.length_map, hlt] at this
      exact this
    refine ⟨by omega, _, by rw [List.getElem?_map, hx]; rfl, ?_⟩
    conv => whnf
    refine (toInstr_ok x).mono ?_
    rintro _ _ ⟨rfl, rfl⟩
    conv => whnf
    refine ⟨by omega, by show k < (es.length : Int); omega, ?_⟩
    conv => whnf
    refine ⟨_, hget, ?_⟩
    conv => whnf
    rw [wrp_i64 (x := k + 1) (by omega) (by omega)]
    exact ⟨xs.length - (k + 1).toNat, _, by omega, norm_wk (keep := [0, 3, 4]) (kb := []) (ρ := [(100, some 100)]) rfl, ⟨k + 1, _, rfl, rfl, by omega, by omega, by
      have e2 : (k + 1).toNat = k.toNat + 1 := by omega
      have e3 : xs.length - (k.toNat + 1) = r := by omega
      rw [e2, e3]
      exact hset⟩⟩
  · rw [ltI_f, List.length_map] at h
    have hk : xs.take k.toNat = xs := List.take_of_length_le (by omega)
    have hz : xs.length - k.toNat = 0 := by omega
    rw [hk, hz, List.replicate_zero, List.append_nil] at he
    rw [he]
    exact ⟨rfl, rfl⟩

set_option maxRecDepth 100000 in
theorem toDefS_ok (xs : List DDef) (hl : xs.length ≤ 1048576) (ho : ∀ y ∈ xs, y.sz ≤ 1048576) :
    FnV Tryz.prog 81 [.rdv false [.sl true 3 (xs.map DDef.c)]] fun rs outs => rs = [⟨false, [.own true 3 (xs.map DDef.c)]⟩] ∧ outs = [] := by
  refine fn_ok (E := Ento) τ_ok mixed Tryz.func81 (by rfl) (by rfl) false (by simp [Tryz.f81]) ?_
  conv => whnf
  rw [List.length_map]
  refine ⟨by omega, rfl, by simp only [d214]; omega, by omega, ?_⟩
  conv => whnf
  refine ⟨fun m s => ∃ (k : Int) (es : List (List C)), s = ⟨[(0, .vals false [.rd none 3 (xs.map DDef.c)]), (3, .vals false [.ref 100 0]), (4, .vals false [.sc (.int .i64 k)])], [], [(100, ⟨true, 0, 0, true, 3, es⟩)]⟩ ∧ m = xs.length - k.toNat ∧ 0 ≤ k ∧ k ≤ xs.length ∧ es = (xs.take k.toNat).map DDef.c ++ List.replicate (xs.length - k.toNat) (List.map zC d214.zero),
    ⟨_, _, norm_wk (keep := [0, 3, 4]) (kb := []) (ρ := [(7, some 100)]) rfl, ⟨0, _, rfl, rfl, by omega, by omega, by simp⟩⟩, ?_⟩
  rintro m _ ⟨k, es, rfl, rfl, k0, k1, he⟩
  have hel : (es.length : Int) = xs.length := by rw [he]; simp; omega
  conv => whnf
  refine br_if (fun h => ?_) (fun h => ?_) <;> (try rw [h]) <;> (conv => whnf)
  · rw [ltI_t, List.length_map] at h
    obtain ⟨x, hx⟩ : ∃ x, xs[k.toNat]? = some x := ⟨_, List.getElem?_eq_getElem (by omega)⟩
    have hm := List.mem_of_getElem? hx
    have hlt : (xs.take k.toNat).length = k.toNat := by rw [List.length_take]; omega
    obtain ⟨r, hr⟩ : ∃ r, xs.length - k.toNat = r + 1 := ⟨xs.length - k.toNat - 1, by omega⟩
    rw [hr] at he
    have hget : es[k.toNat]? = some (List.map zC d214.zero) := by
      rw [he]
      have := lay_get (l := (xs.take k.toNat).map DDef.c) (z := (List.map zC d214.zero)) (m := r)
      rw [List.length_map, hlt] at this
      exact this
    have hset : es.set k.toNat x.c = (xs.take (k.toNat + 1)).map DDef.c ++ List.replicate r (List.map zC d214.zero) := by
      rw [he, map_take_succ DDef.c hx]
      have := lay_at (l := (xs.take k.toNat).map DDef.c) (z := (List.map zC d214.zero)) (v := x.c) (m := r)
      rw [List.length_map, hlt] at this
      exact this
    refine ⟨by omega, _, by rw [List.getElem?_map, hx]; rfl, ?_⟩
    conv => whnf
    refine (toDef_ok x).mono ?_
    rintro _ _ ⟨rfl, rfl⟩
    conv => whnf
    refine ⟨by omega, by show k < (es.length : Int); omega, ?_⟩
    conv => whnf
    refine ⟨_, hget, ?_⟩
    conv => whnf
    rw [wrp_i64 (x := k + 1) (by omega) (by omega)]
    exact ⟨xs.length - (k + 1).toNat, _, by omega, norm_wk (keep := [0, 3, 4]) (kb := []) (ρ := [(100, some 100)]) rfl, ⟨k + 1, _, rfl, rfl, by omega, by omega, by
      have e2 : (k + 1).toNat = k.toNat + 1 := by omega
      have e3 : xs.length - (k.toNat + 1) = r := by omega
      rw [e2, e3]
      exact hset⟩⟩
  · rw [ltI_f, List.length_map] at h
    have hk : xs.take k.toNat = xs := List.take_of_length_le (by omega)
    have hz : xs.length - k.toNat = 0 := by omega
    rw [hk, hz, List.replicate_zero, List.append_nil] at he
    rw [he]
    exact ⟨rfl, rfl⟩

set_option maxRecDepth 100000 in
theorem toCode_ok (a : DCode) (hs : a.sz ≤ 1048576) : FnV Tryz.prog 19 [.rdv true a.c] fun rs outs => rs = [a.r] ∧ outs = [] := by
  refine fn_ok (E := Ento) τ_ok mixed Tryz.func19 (by rfl) (by rfl) false (by simp [Tryz.f19]) ?_
  conv => whnf
  have nPool := a.xPool.sz_nonneg
  have nList := szL_nonneg DInstr.sz_nonneg a.xList
  have nDefs := szL_nonneg DDef.sz_nonneg a.xDefs
  unfold DCode.sz at hs
  refine (toPool_ok a.xPool (by omega)).mono ?_
  rintro _ _ ⟨rfl, rfl⟩
  conv => whnf
  refine (toInstrS_ok a.xList (by omega) (fun y hy => by have := szL_mem DInstr.sz_nonneg hy; omega)).mono ?_
  rintro _ _ ⟨rfl, rfl⟩
  conv => whnf
  refine (toDefS_ok a.xDefs (by omega) (fun y hy => by have := szL_mem DDef.sz_nonneg hy; omega)).mono ?_
  rintro _ _ ⟨rfl, rfl⟩
  conv => whnf
  exact ⟨rfl, rfl⟩

set_option maxRecDepth 100000 in
theorem toMachine_ok (a : DMachine) (hs : a.sz ≤ 1048576) : FnV Tryz.prog 156 [.rdv true a.c] fun rs outs => rs = [a.r] ∧ outs = [] := by
  refine fn_ok (E := Ento) τ_ok mixed Tryz.func156 (by rfl) (by rfl) false (by simp [Tryz.f156]) ?_
  conv => whnf
  have nPool := a.xPool.sz_nonneg
  unfold DMachine.sz at hs
  refine (toPool_ok a.xPool (by omega)).mono ?_
  rintro _ _ ⟨rfl, rfl⟩
  conv => whnf
  exact ⟨rfl, rfl⟩

set_option maxRecDepth 100000 in
theorem toPiece_ok (a : DPiece) : FnV Tryz.prog 273 [.rdv true a.c] fun rs outs => rs = [a.r] ∧ outs = [] := by
  refine fn_ok (E := Ento) τ_ok mixed Tryz.func273 (by rfl) (by rfl) false (by simp [Tryz.f273]) ?_
  conv => whnf
  exact ⟨rfl, rfl⟩

set_option maxRecDepth 100000 in
theorem toStringS_ok (xs : List ByteArray) (hl : xs.length ≤ 1048576) :
    FnV Tryz.prog 157 [.rdv false [.sl true 1 (ssC xs)]] fun rs outs => rs = [⟨false, [.own true 1 (ssC xs)]⟩] ∧ outs = [] := by
  refine fn_ok (E := Ento) τ_ok mixed Tryz.func157 (by rfl) (by rfl) false (by simp [Tryz.f157]) ?_
  conv => whnf
  rw [List.length_map]
  refine ⟨by omega, rfl, by simp only [d9]; omega, by omega, ?_⟩
  conv => whnf
  refine ⟨fun m s => ∃ (k : Int) (es : List (List C)), s = ⟨[(0, .vals false [.rd none 1 (ssC xs)]), (3, .vals false [.ref 100 0]), (4, .vals false [.sc (.int .i64 k)])], [], [(100, ⟨true, 0, 0, true, 1, es⟩)]⟩ ∧ m = xs.length - k.toNat ∧ 0 ≤ k ∧ k ≤ xs.length ∧ es = (xs.take k.toNat).map (fun s => [C.sc (.string s)]) ++ List.replicate (xs.length - k.toNat) (List.map zC d9.zero),
    ⟨_, _, norm_wk (keep := [0, 3, 4]) (kb := []) (ρ := [(7, some 100)]) rfl, ⟨0, _, rfl, rfl, by omega, by omega, by simp⟩⟩, ?_⟩
  rintro m _ ⟨k, es, rfl, rfl, k0, k1, he⟩
  have hel : (es.length : Int) = xs.length := by rw [he]; simp; omega
  conv => whnf
  refine br_if (fun h => ?_) (fun h => ?_) <;> (try rw [h]) <;> (conv => whnf)
  · rw [ltI_t, List.length_map] at h
    obtain ⟨x, hx⟩ : ∃ x, xs[k.toNat]? = some x := ⟨_, List.getElem?_eq_getElem (by omega)⟩
    have hm := List.mem_of_getElem? hx
    have hlt : (xs.take k.toNat).length = k.toNat := by rw [List.length_take]; omega
    obtain ⟨r, hr⟩ : ∃ r, xs.length - k.toNat = r + 1 := ⟨xs.length - k.toNat - 1, by omega⟩
    rw [hr] at he
    have hget : es[k.toNat]? = some (List.map zC d9.zero) := by
      rw [he]
      have := lay_get (l := (xs.take k.toNat).map (fun s => [C.sc (.string s)])) (z := (List.map zC d9.zero)) (m := r)
      rw [List.length_map, hlt] at this
      exact this
    have hset : es.set k.toNat [C.sc (.string x)] = (xs.take (k.toNat + 1)).map (fun s => [C.sc (.string s)]) ++ List.replicate r (List.map zC d9.zero) := by
      rw [he, map_take_succ (fun s => [C.sc (.string s)]) hx]
      have := lay_at (l := (xs.take k.toNat).map (fun s => [C.sc (.string s)])) (z := (List.map zC d9.zero)) (v := [C.sc (.string x)]) (m := r)
      rw [List.length_map, hlt] at this
      exact this
    refine ⟨by omega, _, by rw [List.getElem?_map, hx]; rfl, ?_⟩
    conv => whnf
    refine ⟨by omega, by show k < (es.length : Int); omega, ?_⟩
    conv => whnf
    refine ⟨_, hget, ?_⟩
    conv => whnf
    rw [wrp_i64 (x := k + 1) (by omega) (by omega)]
    exact ⟨xs.length - (k + 1).toNat, _, by omega, norm_wk (keep := [0, 3, 4]) (kb := []) (ρ := [(100, some 100)]) rfl, ⟨k + 1, _, rfl, rfl, by omega, by omega, by
      have e2 : (k + 1).toNat = k.toNat + 1 := by omega
      have e3 : xs.length - (k.toNat + 1) = r := by omega
      rw [e2, e3]
      exact hset⟩⟩
  · rw [ltI_f, List.length_map] at h
    have hk : xs.take k.toNat = xs := List.take_of_length_le (by omega)
    have hz : xs.length - k.toNat = 0 := by omega
    rw [hk, hz, List.replicate_zero, List.append_nil] at he
    rw [he]
    exact ⟨rfl, rfl⟩

set_option maxRecDepth 100000 in
theorem toPieceS_ok (xs : List DPiece) (hl : xs.length ≤ 1048576) (ho : ∀ y ∈ xs, y.sz ≤ 1048576) :
    FnV Tryz.prog 272 [.rdv false [.sl true 2 (xs.map DPiece.c)]] fun rs outs => rs = [⟨false, [.own true 2 (xs.map DPiece.c)]⟩] ∧ outs = [] := by
  refine fn_ok (E := Ento) τ_ok mixed Tryz.func272 (by rfl) (by rfl) false (by simp [Tryz.f272]) ?_
  conv => whnf
  rw [List.length_map]
  refine ⟨by omega, rfl, by simp only [d157]; omega, by omega, ?_⟩
  conv => whnf
  refine ⟨fun m s => ∃ (k : Int) (es : List (List C)), s = ⟨[(0, .vals false [.rd none 2 (xs.map DPiece.c)]), (3, .vals false [.ref 100 0]), (4, .vals false [.sc (.int .i64 k)])], [], [(100, ⟨true, 0, 0, true, 2, es⟩)]⟩ ∧ m = xs.length - k.toNat ∧ 0 ≤ k ∧ k ≤ xs.length ∧ es = (xs.take k.toNat).map DPiece.c ++ List.replicate (xs.length - k.toNat) (List.map zC d157.zero),
    ⟨_, _, norm_wk (keep := [0, 3, 4]) (kb := []) (ρ := [(7, some 100)]) rfl, ⟨0, _, rfl, rfl, by omega, by omega, by simp⟩⟩, ?_⟩
  rintro m _ ⟨k, es, rfl, rfl, k0, k1, he⟩
  have hel : (es.length : Int) = xs.length := by rw [he]; simp; omega
  conv => whnf
  refine br_if (fun h => ?_) (fun h => ?_) <;> (try rw [h]) <;> (conv => whnf)
  · rw [ltI_t, List.length_map] at h
    obtain ⟨x, hx⟩ : ∃ x, xs[k.toNat]? = some x := ⟨_, List.getElem?_eq_getElem (by omega)⟩
    have hm := List.mem_of_getElem? hx
    have hlt : (xs.take k.toNat).length = k.toNat := by rw [List.length_take]; omega
    obtain ⟨r, hr⟩ : ∃ r, xs.length - k.toNat = r + 1 := ⟨xs.length - k.toNat - 1, by omega⟩
    rw [hr] at he
    have hget : es[k.toNat]? = some (List.map zC d157.zero) := by
      rw [he]
      have := lay_get (l := (xs.take k.toNat).map DPiece.c) (z := (List.map zC d157.zero)) (m := r)
      rw [List.length_map, hlt] at this
      exact this
    have hset : es.set k.toNat x.c = (xs.take (k.toNat + 1)).map DPiece.c ++ List.replicate r (List.map zC d157.zero) := by
      rw [he, map_take_succ DPiece.c hx]
      have := lay_at (l := (xs.take k.toNat).map DPiece.c) (z := (List.map zC d157.zero)) (v := x.c) (m := r)
      rw [List.length_map, hlt] at this
      exact this
    refine ⟨by omega, _, by rw [List.getElem?_map, hx]; rfl, ?_⟩
    conv => whnf
    refine (toPiece_ok x).mono ?_
    rintro _ _ ⟨rfl, rfl⟩
    conv => whnf
    refine ⟨by omega, by show k < (es.length : Int); omega, ?_⟩
    conv => whnf
    refine ⟨_, hget, ?_⟩
    conv => whnf
    rw [wrp_i64 (x := k + 1) (by omega) (by omega)]
    exact ⟨xs.length - (k + 1).toNat, _, by omega, norm_wk (keep := [0, 3, 4]) (kb := []) (ρ := [(100, some 100)]) rfl, ⟨k + 1, _, rfl, rfl, by omega, by omega, by
      have e2 : (k + 1).toNat = k.toNat + 1 := by omega
      have e3 : xs.length - (k.toNat + 1) = r := by omega
      rw [e2, e3]
      exact hset⟩⟩
  · rw [ltI_f, List.length_map] at h
    have hk : xs.take k.toNat = xs := List.take_of_length_le (by omega)
    have hz : xs.length - k.toNat = 0 := by omega
    rw [hk, hz, List.replicate_zero, List.append_nil] at he
    rw [he]
    exact ⟨rfl, rfl⟩

set_option maxRecDepth 100000 in
theorem toLink_ok (a : DLink) (hs : a.sz ≤ 1048576) : FnV Tryz.prog 201 [.rdv true a.c] fun rs outs => rs = [a.r] ∧ outs = [] := by
  refine fn_ok (E := Ento) τ_ok mixed Tryz.func201 (by rfl) (by rfl) false (by simp [Tryz.f201]) ?_
  conv => whnf
  have nQueue := szS_nonneg a.xQueue
  have nHeld := szL_nonneg DPiece.sz_nonneg a.xHeld
  unfold DLink.sz at hs
  refine (toStringS_ok a.xQueue (by have := szS_len a.xQueue; omega)).mono ?_
  rintro _ _ ⟨rfl, rfl⟩
  conv => whnf
  refine (toPieceS_ok a.xHeld (by omega) (fun y hy => by have := szL_mem DPiece.sz_nonneg hy; omega)).mono ?_
  rintro _ _ ⟨rfl, rfl⟩
  conv => whnf
  exact ⟨rfl, rfl⟩

set_option maxRecDepth 100000 in
theorem toProc_ok (a : DProc) (hs : a.sz ≤ 1048576) : FnV Tryz.prog 52 [.rdv true a.c] fun rs outs => rs = [a.r] ∧ outs = [] := by
  refine fn_ok (E := Ento) τ_ok mixed Tryz.func52 (by rfl) (by rfl) false (by simp [Tryz.f52]) ?_
  conv => whnf
  have nM := a.xM.sz_nonneg
  have nBox := szS_nonneg a.xBox
  have nOut := szS_nonneg a.xOut
  unfold DProc.sz at hs
  refine (toMachine_ok a.xM (by omega)).mono ?_
  rintro _ _ ⟨rfl, rfl⟩
  conv => whnf
  refine (toStringS_ok a.xBox (by have := szS_len a.xBox; omega)).mono ?_
  rintro _ _ ⟨rfl, rfl⟩
  conv => whnf
  refine (toStringS_ok a.xOut (by have := szS_len a.xOut; omega)).mono ?_
  rintro _ _ ⟨rfl, rfl⟩
  conv => whnf
  exact ⟨rfl, rfl⟩

set_option maxRecDepth 100000 in
theorem toHome_ok (a : DHome) (hs : a.sz ≤ 1048576) : FnV Tryz.prog 200 [.rdv true a.c] fun rs outs => rs = [a.r] ∧ outs = [] := by
  refine fn_ok (E := Ento) τ_ok mixed Tryz.func200 (by rfl) (by rfl) false (by simp [Tryz.f200]) ?_
  conv => whnf
  have nP := a.xP.sz_nonneg
  unfold DHome.sz at hs
  refine (toProc_ok a.xP (by omega)).mono ?_
  rintro _ _ ⟨rfl, rfl⟩
  conv => whnf
  exact ⟨rfl, rfl⟩

set_option maxRecDepth 100000 in
theorem toGram_ok (a : DGram) (hs : a.sz ≤ 1048576) : FnV Tryz.prog 202 [.rdv true a.c] fun rs outs => rs = [a.r] ∧ outs = [] := by
  refine fn_ok (E := Ento) τ_ok mixed Tryz.func202 (by rfl) (by rfl) false (by simp [Tryz.f202]) ?_
  conv => whnf
  have nP := a.xP.sz_nonneg
  unfold DGram.sz at hs
  refine (toPiece_ok a.xP).mono ?_
  rintro _ _ ⟨rfl, rfl⟩
  conv => whnf
  exact ⟨rfl, rfl⟩

set_option maxRecDepth 100000 in
theorem toParked_ok (a : DParked) : FnV Tryz.prog 203 [.rdv true a.c] fun rs outs => rs = [a.r] ∧ outs = [] := by
  refine fn_ok (E := Ento) τ_ok mixed Tryz.func203 (by rfl) (by rfl) false (by simp [Tryz.f203]) ?_
  conv => whnf
  exact ⟨rfl, rfl⟩

set_option maxRecDepth 100000 in
theorem toHomeS_ok (xs : List DHome) (hl : xs.length ≤ 1048576) (ho : ∀ y ∈ xs, y.sz ≤ 1048576) :
    FnV Tryz.prog 106 [.rdv false [.sl true 12 (xs.map DHome.c)]] fun rs outs => rs = [⟨false, [.own true 12 (xs.map DHome.c)]⟩] ∧ outs = [] := by
  refine fn_ok (E := Ento) τ_ok mixed Tryz.func106 (by rfl) (by rfl) false (by simp [Tryz.f106]) ?_
  conv => whnf
  rw [List.length_map]
  refine ⟨by omega, rfl, by simp only [d154]; omega, by omega, ?_⟩
  conv => whnf
  refine ⟨fun m s => ∃ (k : Int) (es : List (List C)), s = ⟨[(0, .vals false [.rd none 12 (xs.map DHome.c)]), (3, .vals false [.ref 100 0]), (4, .vals false [.sc (.int .i64 k)])], [], [(100, ⟨true, 0, 0, true, 12, es⟩)]⟩ ∧ m = xs.length - k.toNat ∧ 0 ≤ k ∧ k ≤ xs.length ∧ es = (xs.take k.toNat).map DHome.c ++ List.replicate (xs.length - k.toNat) (List.map zC d154.zero),
    ⟨_, _, norm_wk (keep := [0, 3, 4]) (kb := []) (ρ := [(7, some 100)]) rfl, ⟨0, _, rfl, rfl, by omega, by omega, by simp⟩⟩, ?_⟩
  rintro m _ ⟨k, es, rfl, rfl, k0, k1, he⟩
  have hel : (es.length : Int) = xs.length := by rw [he]; simp; omega
  conv => whnf
  refine br_if (fun h => ?_) (fun h => ?_) <;> (try rw [h]) <;> (conv => whnf)
  · rw [ltI_t, List.length_map] at h
    obtain ⟨x, hx⟩ : ∃ x, xs[k.toNat]? = some x := ⟨_, List.getElem?_eq_getElem (by omega)⟩
    have hm := List.mem_of_getElem? hx
    have hlt : (xs.take k.toNat).length = k.toNat := by rw [List.length_take]; omega
    obtain ⟨r, hr⟩ : ∃ r, xs.length - k.toNat = r + 1 := ⟨xs.length - k.toNat - 1, by omega⟩
    rw [hr] at he
    have hget : es[k.toNat]? = some (List.map zC d154.zero) := by
      rw [he]
      have := lay_get (l := (xs.take k.toNat).map DHome.c) (z := (List.map zC d154.zero)) (m := r)
      rw [List.length_map, hlt] at this
      exact this
    have hset : es.set k.toNat x.c = (xs.take (k.toNat + 1)).map DHome.c ++ List.replicate r (List.map zC d154.zero) := by
      rw [he, map_take_succ DHome.c hx]
      have := lay_at (l := (xs.take k.toNat).map DHome.c) (z := (List.map zC d154.zero)) (v := x.c) (m := r)
      rw [List.length_map, hlt] at this
      exact this
    refine ⟨by omega, _, by rw [List.getElem?_map, hx]; rfl, ?_⟩
    conv => whnf
    refine (toHome_ok x (ho x hm)).mono ?_
    rintro _ _ ⟨rfl, rfl⟩
    conv => whnf
    refine ⟨by omega, by show k < (es.length : Int); omega, ?_⟩
    conv => whnf
    refine ⟨_, hget, ?_⟩
    conv => whnf
    rw [wrp_i64 (x := k + 1) (by omega) (by omega)]
    exact ⟨xs.length - (k + 1).toNat, _, by omega, norm_wk (keep := [0, 3, 4]) (kb := []) (ρ := [(100, some 100)]) rfl, ⟨k + 1, _, rfl, rfl, by omega, by omega, by
      have e2 : (k + 1).toNat = k.toNat + 1 := by omega
      have e3 : xs.length - (k.toNat + 1) = r := by omega
      rw [e2, e3]
      exact hset⟩⟩
  · rw [ltI_f, List.length_map] at h
    have hk : xs.take k.toNat = xs := List.take_of_length_le (by omega)
    have hz : xs.length - k.toNat = 0 := by omega
    rw [hk, hz, List.replicate_zero, List.append_nil] at he
    rw [he]
    exact ⟨rfl, rfl⟩

set_option maxRecDepth 100000 in
theorem toLinkS_ok (xs : List DLink) (hl : xs.length ≤ 1048576) (ho : ∀ y ∈ xs, y.sz ≤ 1048576) :
    FnV Tryz.prog 107 [.rdv false [.sl true 5 (xs.map DLink.c)]] fun rs outs => rs = [⟨false, [.own true 5 (xs.map DLink.c)]⟩] ∧ outs = [] := by
  refine fn_ok (E := Ento) τ_ok mixed Tryz.func107 (by rfl) (by rfl) false (by simp [Tryz.f107]) ?_
  conv => whnf
  rw [List.length_map]
  refine ⟨by omega, rfl, by simp only [d173]; omega, by omega, ?_⟩
  conv => whnf
  refine ⟨fun m s => ∃ (k : Int) (es : List (List C)), s = ⟨[(0, .vals false [.rd none 5 (xs.map DLink.c)]), (3, .vals false [.ref 100 0]), (4, .vals false [.sc (.int .i64 k)])], [], [(100, ⟨true, 0, 0, true, 5, es⟩)]⟩ ∧ m = xs.length - k.toNat ∧ 0 ≤ k ∧ k ≤ xs.length ∧ es = (xs.take k.toNat).map DLink.c ++ List.replicate (xs.length - k.toNat) (List.map zC d173.zero),
    ⟨_, _, norm_wk (keep := [0, 3, 4]) (kb := []) (ρ := [(7, some 100)]) rfl, ⟨0, _, rfl, rfl, by omega, by omega, by simp⟩⟩, ?_⟩
  rintro m _ ⟨k, es, rfl, rfl, k0, k1, he⟩
  have hel : (es.length : Int) = xs.length := by rw [he]; simp; omega
  conv => whnf
  refine br_if (fun h => ?_) (fun h => ?_) <;> (try rw [h]) <;> (conv => whnf)
  · rw [ltI_t, List.length_map] at h
    obtain ⟨x, hx⟩ : ∃ x, xs[k.toNat]? = some x := ⟨_, List.getElem?_eq_getElem (by omega)⟩
    have hm := List.mem_of_getElem? hx
    have hlt : (xs.take k.toNat).length = k.toNat := by rw [List.length_take]; omega
    obtain ⟨r, hr⟩ : ∃ r, xs.length - k.toNat = r + 1 := ⟨xs.length - k.toNat - 1, by omega⟩
    rw [hr] at he
    have hget : es[k.toNat]? = some (List.map zC d173.zero) := by
      rw [he]
      have := lay_get (l := (xs.take k.toNat).map DLink.c) (z := (List.map zC d173.zero)) (m := r)
      rw [List.length_map, hlt] at this
      exact this
    have hset : es.set k.toNat x.c = (xs.take (k.toNat + 1)).map DLink.c ++ List.replicate r (List.map zC d173.zero) := by
      rw [he, map_take_succ DLink.c hx]
      have := lay_at (l := (xs.take k.toNat).map DLink.c) (z := (List.map zC d173.zero)) (v := x.c) (m := r)
      rw [List.length_map, hlt] at this
      exact this
    refine ⟨by omega, _, by rw [List.getElem?_map, hx]; rfl, ?_⟩
    conv => whnf
    refine (toLink_ok x (ho x hm)).mono ?_
    rintro _ _ ⟨rfl, rfl⟩
    conv => whnf
    refine ⟨by omega, by show k < (es.length : Int); omega, ?_⟩
    conv => whnf
    refine ⟨_, hget, ?_⟩
    conv => whnf
    rw [wrp_i64 (x := k + 1) (by omega) (by omega)]
    exact ⟨xs.length - (k + 1).toNat, _, by omega, norm_wk (keep := [0, 3, 4]) (kb := []) (ρ := [(100, some 100)]) rfl, ⟨k + 1, _, rfl, rfl, by omega, by omega, by
      have e2 : (k + 1).toNat = k.toNat + 1 := by omega
      have e3 : xs.length - (k.toNat + 1) = r := by omega
      rw [e2, e3]
      exact hset⟩⟩
  · rw [ltI_f, List.length_map] at h
    have hk : xs.take k.toNat = xs := List.take_of_length_le (by omega)
    have hz : xs.length - k.toNat = 0 := by omega
    rw [hk, hz, List.replicate_zero, List.append_nil] at he
    rw [he]
    exact ⟨rfl, rfl⟩

set_option maxRecDepth 100000 in
theorem toGramS_ok (xs : List DGram) (hl : xs.length ≤ 1048576) (ho : ∀ y ∈ xs, y.sz ≤ 1048576) :
    FnV Tryz.prog 108 [.rdv false [.sl true 5 (xs.map DGram.c)]] fun rs outs => rs = [⟨false, [.own true 5 (xs.map DGram.c)]⟩] ∧ outs = [] := by
  refine fn_ok (E := Ento) τ_ok mixed Tryz.func108 (by rfl) (by rfl) false (by simp [Tryz.f108]) ?_
  conv => whnf
  rw [List.length_map]
  refine ⟨by omega, rfl, by simp only [d159]; omega, by omega, ?_⟩
  conv => whnf
  refine ⟨fun m s => ∃ (k : Int) (es : List (List C)), s = ⟨[(0, .vals false [.rd none 5 (xs.map DGram.c)]), (3, .vals false [.ref 100 0]), (4, .vals false [.sc (.int .i64 k)])], [], [(100, ⟨true, 0, 0, true, 5, es⟩)]⟩ ∧ m = xs.length - k.toNat ∧ 0 ≤ k ∧ k ≤ xs.length ∧ es = (xs.take k.toNat).map DGram.c ++ List.replicate (xs.length - k.toNat) (List.map zC d159.zero),
    ⟨_, _, norm_wk (keep := [0, 3, 4]) (kb := []) (ρ := [(7, some 100)]) rfl, ⟨0, _, rfl, rfl, by omega, by omega, by simp⟩⟩, ?_⟩
  rintro m _ ⟨k, es, rfl, rfl, k0, k1, he⟩
  have hel : (es.length : Int) = xs.length := by rw [he]; simp; omega
  conv => whnf
  refine br_if (fun h => ?_) (fun h => ?_) <;> (try rw [h]) <;> (conv => whnf)
  · rw [ltI_t, List.length_map] at h
    obtain ⟨x, hx⟩ : ∃ x, xs[k.toNat]? = some x := ⟨_, List.getElem?_eq_getElem (by omega)⟩
    have hm := List.mem_of_getElem? hx
    have hlt : (xs.take k.toNat).length = k.toNat := by rw [List.length_take]; omega
    obtain ⟨r, hr⟩ : ∃ r, xs.length - k.toNat = r + 1 := ⟨xs.length - k.toNat - 1, by omega⟩
    rw [hr] at he
    have hget : es[k.toNat]? = some (List.map zC d159.zero) := by
      rw [he]
      have := lay_get (l := (xs.take k.toNat).map DGram.c) (z := (List.map zC d159.zero)) (m := r)
      rw [List.length_map, hlt] at this
      exact this
    have hset : es.set k.toNat x.c = (xs.take (k.toNat + 1)).map DGram.c ++ List.replicate r (List.map zC d159.zero) := by
      rw [he, map_take_succ DGram.c hx]
      have := lay_at (l := (xs.take k.toNat).map DGram.c) (z := (List.map zC d159.zero)) (v := x.c) (m := r)
      rw [List.length_map, hlt] at this
      exact this
    refine ⟨by omega, _, by rw [List.getElem?_map, hx]; rfl, ?_⟩
    conv => whnf
    refine (toGram_ok x (ho x hm)).mono ?_
    rintro _ _ ⟨rfl, rfl⟩
    conv => whnf
    refine ⟨by omega, by show k < (es.length : Int); omega, ?_⟩
    conv => whnf
    refine ⟨_, hget, ?_⟩
    conv => whnf
    rw [wrp_i64 (x := k + 1) (by omega) (by omega)]
    exact ⟨xs.length - (k + 1).toNat, _, by omega, norm_wk (keep := [0, 3, 4]) (kb := []) (ρ := [(100, some 100)]) rfl, ⟨k + 1, _, rfl, rfl, by omega, by omega, by
      have e2 : (k + 1).toNat = k.toNat + 1 := by omega
      have e3 : xs.length - (k.toNat + 1) = r := by omega
      rw [e2, e3]
      exact hset⟩⟩
  · rw [ltI_f, List.length_map] at h
    have hk : xs.take k.toNat = xs := List.take_of_length_le (by omega)
    have hz : xs.length - k.toNat = 0 := by omega
    rw [hk, hz, List.replicate_zero, List.append_nil] at he
    rw [he]
    exact ⟨rfl, rfl⟩

set_option maxRecDepth 100000 in
theorem toParkedS_ok (xs : List DParked) (hl : xs.length ≤ 1048576) (ho : ∀ y ∈ xs, y.sz ≤ 1048576) :
    FnV Tryz.prog 109 [.rdv false [.sl true 3 (xs.map DParked.c)]] fun rs outs => rs = [⟨false, [.own true 3 (xs.map DParked.c)]⟩] ∧ outs = [] := by
  refine fn_ok (E := Ento) τ_ok mixed Tryz.func109 (by rfl) (by rfl) false (by simp [Tryz.f109]) ?_
  conv => whnf
  rw [List.length_map]
  refine ⟨by omega, rfl, by simp only [d164]; omega, by omega, ?_⟩
  conv => whnf
  refine ⟨fun m s => ∃ (k : Int) (es : List (List C)), s = ⟨[(0, .vals false [.rd none 3 (xs.map DParked.c)]), (3, .vals false [.ref 100 0]), (4, .vals false [.sc (.int .i64 k)])], [], [(100, ⟨true, 0, 0, true, 3, es⟩)]⟩ ∧ m = xs.length - k.toNat ∧ 0 ≤ k ∧ k ≤ xs.length ∧ es = (xs.take k.toNat).map DParked.c ++ List.replicate (xs.length - k.toNat) (List.map zC d164.zero),
    ⟨_, _, norm_wk (keep := [0, 3, 4]) (kb := []) (ρ := [(7, some 100)]) rfl, ⟨0, _, rfl, rfl, by omega, by omega, by simp⟩⟩, ?_⟩
  rintro m _ ⟨k, es, rfl, rfl, k0, k1, he⟩
  have hel : (es.length : Int) = xs.length := by rw [he]; simp; omega
  conv => whnf
  refine br_if (fun h => ?_) (fun h => ?_) <;> (try rw [h]) <;> (conv => whnf)
  · rw [ltI_t, List.length_map] at h
    obtain ⟨x, hx⟩ : ∃ x, xs[k.toNat]? = some x := ⟨_, List.getElem?_eq_getElem (by omega)⟩
    have hm := List.mem_of_getElem? hx
    have hlt : (xs.take k.toNat).length = k.toNat := by rw [List.length_take]; omega
    obtain ⟨r, hr⟩ : ∃ r, xs.length - k.toNat = r + 1 := ⟨xs.length - k.toNat - 1, by omega⟩
    rw [hr] at he
    have hget : es[k.toNat]? = some (List.map zC d164.zero) := by
      rw [he]
      have := lay_get (l := (xs.take k.toNat).map DParked.c) (z := (List.map zC d164.zero)) (m := r)
      rw [List.length_map, hlt] at this
      exact this
    have hset : es.set k.toNat x.c = (xs.take (k.toNat + 1)).map DParked.c ++ List.replicate r (List.map zC d164.zero) := by
      rw [he, map_take_succ DParked.c hx]
      have := lay_at (l := (xs.take k.toNat).map DParked.c) (z := (List.map zC d164.zero)) (v := x.c) (m := r)
      rw [List.length_map, hlt] at this
      exact this
    refine ⟨by omega, _, by rw [List.getElem?_map, hx]; rfl, ?_⟩
    conv => whnf
    refine (toParked_ok x).mono ?_
    rintro _ _ ⟨rfl, rfl⟩
    conv => whnf
    refine ⟨by omega, by show k < (es.length : Int); omega, ?_⟩
    conv => whnf
    refine ⟨_, hget, ?_⟩
    conv => whnf
    rw [wrp_i64 (x := k + 1) (by omega) (by omega)]
    exact ⟨xs.length - (k + 1).toNat, _, by omega, norm_wk (keep := [0, 3, 4]) (kb := []) (ρ := [(100, some 100)]) rfl, ⟨k + 1, _, rfl, rfl, by omega, by omega, by
      have e2 : (k + 1).toNat = k.toNat + 1 := by omega
      have e3 : xs.length - (k.toNat + 1) = r := by omega
      rw [e2, e3]
      exact hset⟩⟩
  · rw [ltI_f, List.length_map] at h
    have hk : xs.take k.toNat = xs := List.take_of_length_le (by omega)
    have hz : xs.length - k.toNat = 0 := by omega
    rw [hk, hz, List.replicate_zero, List.append_nil] at he
    rw [he]
    exact ⟨rfl, rfl⟩

set_option maxRecDepth 100000 in
theorem toStringSS_ok (xs : List (List ByteArray)) (hl : xs.length ≤ 1048576) (ho : ∀ l ∈ xs, l.length ≤ 1048576) :
    FnV Tryz.prog 110 [.rdv false [.sl true 1 (sssC xs)]] fun rs outs => rs = [⟨false, [.own true 1 (sssC xs)]⟩] ∧ outs = [] := by
  refine fn_ok (E := Ento) τ_ok mixed Tryz.func110 (by rfl) (by rfl) false (by simp [Tryz.f110]) ?_
  conv => whnf
  rw [List.length_map]
  refine ⟨by omega, rfl, by simp only [d35]; omega, by omega, ?_⟩
  conv => whnf
  refine ⟨fun m s => ∃ (k : Int) (es : List (List C)), s = ⟨[(0, .vals false [.rd none 1 (sssC xs)]), (3, .vals false [.ref 100 0]), (4, .vals false [.sc (.int .i64 k)])], [], [(100, ⟨true, 0, 0, true, 1, es⟩)]⟩ ∧ m = xs.length - k.toNat ∧ 0 ≤ k ∧ k ≤ xs.length ∧ es = (xs.take k.toNat).map (fun l => [C.sl true 1 (ssC l)]) ++ List.replicate (xs.length - k.toNat) (List.map zC d35.zero),
    ⟨_, _, norm_wk (keep := [0, 3, 4]) (kb := []) (ρ := [(7, some 100)]) rfl, ⟨0, _, rfl, rfl, by omega, by omega, by simp⟩⟩, ?_⟩
  rintro m _ ⟨k, es, rfl, rfl, k0, k1, he⟩
  have hel : (es.length : Int) = xs.length := by rw [he]; simp; omega
  conv => whnf
  refine br_if (fun h => ?_) (fun h => ?_) <;> (try rw [h]) <;> (conv => whnf)
  · rw [ltI_t, List.length_map] at h
    obtain ⟨x, hx⟩ : ∃ x, xs[k.toNat]? = some x := ⟨_, List.getElem?_eq_getElem (by omega)⟩
    have hm := List.mem_of_getElem? hx
    have hlt : (xs.take k.toNat).length = k.toNat := by rw [List.length_take]; omega
    obtain ⟨r, hr⟩ : ∃ r, xs.length - k.toNat = r + 1 := ⟨xs.length - k.toNat - 1, by omega⟩
    rw [hr] at he
    have hget : es[k.toNat]? = some (List.map zC d35.zero) := by
      rw [he]
      have := lay_get (l := (xs.take k.toNat).map (fun l => [C.sl true 1 (ssC l)])) (z := (List.map zC d35.zero)) (m := r)
      rw [List.length_map, hlt] at this
      exact this
    have hset : es.set k.toNat [C.sl true 1 (ssC x)] = (xs.take (k.toNat + 1)).map (fun l => [C.sl true 1 (ssC l)]) ++ List.replicate r (List.map zC d35.zero) := by
      rw [he, map_take_succ (fun l => [C.sl true 1 (ssC l)]) hx]
      have := lay_at (l := (xs.take k.toNat).map (fun l => [C.sl true 1 (ssC l)])) (z := (List.map zC d35.zero)) (v := [C.sl true 1 (ssC x)]) (m := r)
      rw [List.length_map, hlt] at this
      exact this
    refine ⟨by omega, _, by rw [List.getElem?_map, hx]; rfl, ?_⟩
    conv => whnf
    refine (toStringS_ok x (ho x hm)).mono ?_
    rintro _ _ ⟨rfl, rfl⟩
    conv => whnf
    refine ⟨by omega, by show k < (es.length : Int); omega, ?_⟩
    conv => whnf
    refine ⟨_, hget, ?_⟩
    conv => whnf
    rw [wrp_i64 (x := k + 1) (by omega) (by omega)]
    exact ⟨xs.length - (k + 1).toNat, _, by omega, norm_wk (keep := [0, 3, 4]) (kb := []) (ρ := [(100, some 100)]) rfl, ⟨k + 1, _, rfl, rfl, by omega, by omega, by
      have e2 : (k + 1).toNat = k.toNat + 1 := by omega
      have e3 : xs.length - (k.toNat + 1) = r := by omega
      rw [e2, e3]
      exact hset⟩⟩
  · rw [ltI_f, List.length_map] at h
    have hk : xs.take k.toNat = xs := List.take_of_length_le (by omega)
    have hz : xs.length - k.toNat = 0 := by omega
    rw [hk, hz, List.replicate_zero, List.append_nil] at he
    rw [he]
    exact ⟨rfl, rfl⟩

set_option maxRecDepth 100000 in
theorem toWorld_ok (a : DWorld) (hs : a.sz ≤ 1048576) : FnV Tryz.prog 28 [.rdv true a.c] fun rs outs => rs = [a.r] ∧ outs = [] := by
  refine fn_ok (E := Ento) τ_ok mixed Tryz.func28 (by rfl) (by rfl) false (by simp [Tryz.f28]) ?_
  conv => whnf
  have nCode := a.xCode.sz_nonneg
  have nHomes := szL_nonneg DHome.sz_nonneg a.xHomes
  have nLinks := szL_nonneg DLink.sz_nonneg a.xLinks
  have nGrams := szL_nonneg DGram.sz_nonneg a.xGrams
  have nParked := szL_nonneg DParked.sz_nonneg a.xParked
  have nGave := szSS_nonneg a.xGave
  have nTook := szSS_nonneg a.xTook
  unfold DWorld.sz at hs
  refine (toCode_ok a.xCode (by omega)).mono ?_
  rintro _ _ ⟨rfl, rfl⟩
  conv => whnf
  refine (toHomeS_ok a.xHomes (by omega) (fun y hy => by have := szL_mem DHome.sz_nonneg hy; omega)).mono ?_
  rintro _ _ ⟨rfl, rfl⟩
  conv => whnf
  refine (toLinkS_ok a.xLinks (by omega) (fun y hy => by have := szL_mem DLink.sz_nonneg hy; omega)).mono ?_
  rintro _ _ ⟨rfl, rfl⟩
  conv => whnf
  refine (toGramS_ok a.xGrams (by omega) (fun y hy => by have := szL_mem DGram.sz_nonneg hy; omega)).mono ?_
  rintro _ _ ⟨rfl, rfl⟩
  conv => whnf
  refine (toParkedS_ok a.xParked (by omega) (fun y hy => by have := szL_mem DParked.sz_nonneg hy; omega)).mono ?_
  rintro _ _ ⟨rfl, rfl⟩
  conv => whnf
  refine (toStringSS_ok a.xGave (by have := szSS_len a.xGave; omega) (fun l hl => by have := szSS_mem hl; omega)).mono ?_
  rintro _ _ ⟨rfl, rfl⟩
  conv => whnf
  refine (toStringSS_ok a.xTook (by have := szSS_len a.xTook; omega) (fun l hl => by have := szSS_mem hl; omega)).mono ?_
  rintro _ _ ⟨rfl, rfl⟩
  conv => whnf
  exact ⟨rfl, rfl⟩

end Go.Proofs.YtcaonpncopfeoaaGreat.V
