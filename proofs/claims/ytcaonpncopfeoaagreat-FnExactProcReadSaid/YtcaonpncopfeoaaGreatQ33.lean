/- Processes read. -/
import Derived.Test.YtcaonpncopfeoaaGreatQ32
set_option linter.unusedVariables false
set_option linter.unusedSimpArgs false
namespace Go.Proofs.YtcaonpncopfeoaaGreat.V
open Go

def MdE33 (f : Nat) : List Mode :=
  match f with
  | 74 => [.mptr]
  | 75 => [.mptr]
  | 76 => [.mptr]
  | 77 => [.rd, .rd]
  | 78 => [.rd, .rd]
  | 82 => [.mptr]
  | 83 => [.mptr]
  | 84 => [.mptr, .rd]
  | 85 => [.rd, .rd]
  | 86 => [.rd, .rd]
  | _ => []
def E33 : Env := ⟨τ, MdE33⟩

theorem nodeOk_ok {x : DNode} {n : Int} (h : NodeOk x n) (hn : n ≤ 1000000000) : x.ok := by
  have hs : x.xS.size ≤ 9223372036854775807 := by
    by_cases h4 : x.xKind = 4
    · have := nameI_size ((node_k4 h4).1 h).2.1
      omega
    · rcases h with h | h | h | h | h | h | h | h | h
      all_goals first | (exact absurd h.1 h4) | omega
  have hk : 1 ≤ x.xKind ∧ x.xKind ≤ 9 := by
    rcases h with h | h | h | h | h | h | h | h | h <;> (have := h.1; omega)
  refine ⟨⟨by omega, by omega⟩, ?_, hs, ?_, ?_⟩
  all_goals
    rcases h with h | h | h | h | h | h | h | h | h
    all_goals constructor
    all_goals omega
theorem pool_ok {l : List DNode} (h : poolOk l = true) : (⟨l⟩ : DPool).ok := by
  obtain ⟨h1, h2⟩ := poolOk_t.1 h
  refine ⟨by show l.length ≤ _; omega, fun x hx => ?_⟩
  obtain ⟨i, hi⟩ := List.getElem?_of_mem hx
  have h3 : i < l.length := (List.getElem?_eq_some_iff.1 hi).1
  exact nodeOk_ok (h2 i x hi) (by omega)
theorem machine_ok {c : DCode} {m : DMachine} (h : machineOk c m = true) : m.ok := by
  obtain ⟨hc, h1, h2, h3, h4, h5⟩ := machineOk_t.1 h
  have hl := (poolOk_t.1 h1).1
  have hcl : c.xList.length ≤ 400 := (codeOk_t.1 hc).2.1
  have := mst_le h5
  unfold Has at h2 h3 h4
  exact ⟨pool_ok h1, ⟨by omega, by omega⟩, ⟨by omega, by omega⟩, ⟨by omega, by omega⟩, ⟨by omega, by omega⟩, ⟨by omega, by omega⟩, ⟨by omega, by omega⟩, ⟨by omega, by omega⟩⟩
theorem RdPost.det {α : Type} {p : Option (α × Int)} {x y : α} {a b : Int} {o : Bool} (h : RdPost p true x a o) (hp : p = some (y, b)) : x = y ∧ a = b ∧ o = true := by
  rcases h with ⟨h1, _, h2⟩ | ⟨_, h | h⟩
  · rw [hp] at h2
    cases h2
    exact ⟨rfl, rfl, h1⟩
  · cases h
  · rw [hp] at h
    cases h
noncomputable def rq4 (zs : List Int) (x1 : Int) (x2 : ByteArray) (x3 : List ByteArray) (a : Int) : Option (RawP × Int) := (txtsP zs a).bind fun r => some (⟨x1, x2, x3, r.1⟩, r.2)
noncomputable def rq3 (zs : List Int) (x1 : Int) (x2 : ByteArray) (a : Int) : Option (RawP × Int) := (txtsP zs a).bind fun r => rq4 zs x1 x2 r.1 r.2
noncomputable def rq2 (zs : List Int) (x1 : Int) (a : Int) : Option (RawP × Int) := (txtP zs a).bind fun r => rq3 zs x1 r.1 r.2
theorem raw_chain {zs : List Int} {x1 a0 a1 a2 a3 a4 : Int} {x2 : ByteArray} {l3 l4 : List ByteArray} {ok o1 o2 o3 o4 : Bool} (r1 : RdPost (numP zs a0) ok x1 a1 o1) (r2 : RdPost (txtP zs a1) o1 x2 a2 o2) (r3 : RdPost (txtsP zs a2) o2 l3 a3 o3) (r4 : RdPost (txtsP zs a3) o3 l4 a4 o4) :
    RdPost (rawP zs a0) ok ⟨x1, x2, l3, l4⟩ a4 o4 :=
  r1.bind (q := rq2 zs) (r2.bind (q := rq3 zs x1) (r3.bind (q := rq4 zs x1 x2) (r4.bind (q := fun l a => some ((⟨x1, x2, l3, l⟩ : RawP), a)) .pure)))
theorem raw_det {zs : List Int} {x1 a1 a2 a3 a4 : Int} {x2 : ByteArray} {l3 l4 : List ByteArray} {o1 o2 o3 o4 : Bool} (r1 : RdPost (numP zs 0) true x1 a1 o1) (r2 : RdPost (txtP zs a1) o1 x2 a2 o2) (t3 : TxPost zs a2 o2 20 l3 a3 o3) (t4 : TxPost zs a3 o3 40 l4 a4 o4)
    {r : RawP} {b : Int} (h : rawP zs 0 = some (r, b)) : (20 < r.box.length ∨ 40 < r.out.length) ∨ (r = ⟨x1, x2, l3, l4⟩ ∧ b = a4 ∧ o4 = true) := by
  obtain ⟨b1, b2, b3, e1, e2, e3, e4⟩ := raw_parts h
  obtain ⟨f1, rfl, rfl⟩ := r1.det e1
  obtain ⟨f2, rfl, rfl⟩ := r2.det e2
  rcases t3 with t3 | ⟨_, _, _, t3⟩
  · obtain ⟨f3, rfl, rfl⟩ := t3.det e3
    rcases t4 with t4 | ⟨_, _, _, t4⟩
    · obtain ⟨f4, rfl, rfl⟩ := t4.det e4
      obtain ⟨g1, g2, g3, g4⟩ := r
      simp only at f1 f2 f3 f4
      exact .inr ⟨by rw [f1, f2, f3, f4], rfl, rfl⟩
    · have := t4 _ _ e4
      exact .inl (.inr (by omega))
  · have := t3 _ _ e3
    exact .inl (.inl (by omega))
theorem raw_yes {zs : List Int} {x1 a1 a2 a3 a4 : Int} {x2 : ByteArray} {l3 l4 : List ByteArray} {o1 o2 o3 : Bool} (r1 : RdPost (numP zs 0) true x1 a1 o1) (r2 : RdPost (txtP zs a1) o1 x2 a2 o2) (t3 : TxPost zs a2 o2 20 l3 a3 o3) (t4 : TxPost zs a3 o3 40 l4 a4 true)
    (h3 : l3.length ≤ 20) (h4 : l4.length ≤ 40) : rawP zs 0 = some (⟨x1, x2, l3, l4⟩, a4) := by
  rcases t3 with t3 | ⟨_, _, t3, _⟩
  · rcases t4 with t4 | ⟨_, _, t4, _⟩
    · exact (raw_chain r1 r2 t3 t4).yes
    · omega
  · omega
theorem prd_bad {c : DCode} {s : ByteArray} {r : RawP} {b : Int} (h : rawP (sb s) 0 = some (r, b)) (ho : 20 < r.box.length ∨ 40 < r.out.length) : prdP c s = none := by
  cases hm : mrdP c r.text with
  | none => exact prd_none2 h hm
  | some m =>
    refine prd_no h hm fun hh => ?_
    obtain ⟨-, -, h3, h4, -⟩ := procOk_t.1 hh.2
    simp only at h3 h4
    omega
/-- Whatever was read, there is no process, where what was read is none. -/
theorem prd_else {c : DCode} {s : ByteArray} {x1 a1 a2 a3 a4 : Int} {x2 : ByteArray} {l3 l4 : List ByteArray} {o1 o2 o3 o4 : Bool} (r1 : RdPost (numP (sb s) 0) true x1 a1 o1) (r2 : RdPost (txtP (sb s) a1) o1 x2 a2 o2) (t3 : TxPost (sb s) a2 o2 20 l3 a3 o3) (t4 : TxPost (sb s) a3 o3 40 l4 a4 o4)
    (hn : o4 = true → rawP (sb s) 0 = some (⟨x1, x2, l3, l4⟩, a4) → prdP c s = none) : prdP c s = none := by
  cases h : rawP (sb s) 0 with
  | none => exact prd_none1 h
  | some q =>
    obtain ⟨r, b⟩ := q
    rcases raw_det r1 r2 t3 t4 h with ho | ⟨rfl, rfl, ho⟩
    · exact prd_bad h ho
    · exact hn ho h
def p0 : DProc := ⟨0, m0, [], []⟩
noncomputable def prdR (c : DCode) (s : ByteArray) : List RV :=
  match prdP c s with
  | some p => [p.r, bR true]
  | none => [p0.r, bR false]
theorem prdR_no {c : DCode} {s : ByteArray} (h : prdP c s = none) : [p0.r, bR false] = prdR c s ∧ ([] : List (List C)) = [] := by
  unfold prdR
  rw [h]
  exact ⟨rfl, rfl⟩
theorem prdR_yes {c : DCode} {s : ByteArray} {p : DProc} (h : prdP c s = some p) : [p.r, bR true] = prdR c s ∧ ([] : List (List C)) = [] := by
  unfold prdR
  rw [h]
  exact ⟨rfl, rfl⟩
theorem mrdR_n {c : DCode} {s : ByteArray} (h : mrdP c s = none) : mrdR c s = [mR m0, bR false] := (mrdR_no h).1.symm
theorem mrdR_s {c : DCode} {s : ByteArray} {m : DMachine} (h : mrdP c s = some m) : mrdR c s = [mR m, bR true] := (mrdR_yes h).1.symm
theorem q0f : notB false = true := notB_t.2 rfl

set_option maxRecDepth 100000 in
set_option maxHeartbeats 4000000 in
theorem i_ProcRead_ok (c : DCode) (s : ByteArray) (hc : c.ok) (hs : s.size ≤ 2000000) : FnV Tryz.prog 20 [cV c, sV s] fun rs outs => rs = prdR c s ∧ outs = [] := by
  refine fn_ok (E := E33) τ_ok mixed Tryz.func20 (by rfl) (by rfl) false (by simp [Tryz.f20]) ?_
  have hz := sb_bytes s
  have hl := sb_len s
  have hl' : (sb s).length ≤ 1000000000 := by omega
  conv => whnf
  refine ⟨by omega, ?_⟩
  conv => whnf
  rw [bytesOf_sb]
  refine (i_num_u (zs := sb s) (a := 0) (ok := true) hz hl' ⟨by omega, by omega⟩).mono ?_
  rintro _ _ ⟨x1, a1, o1, rfl, rfl, p1, y1, r1⟩
  conv => whnf
  refine (i_txt_u hz hl' p1).mono ?_
  rintro _ _ ⟨x2, a2, o2, rfl, rfl, p2, y2, r2⟩
  conv => whnf
  refine (i_texts_ok (sb s) a2 o2 20 hz hl' p2 (by decide) (by decide)).mono ?_
  rintro _ _ ⟨l3, a3, o3, rfl, rfl, p3, y3, z3, t3⟩
  conv => whnf
  refine (i_texts_ok (sb s) a3 o3 40 hz hl' p3 (by decide) (by decide)).mono ?_
  rintro _ _ ⟨l4, a4, o4, rfl, rfl, p4, y4, z4, t4⟩
  conv => whnf
  refine (i_MachineRead_ok c x2 hc (by omega)).mono ?_
  rintro _ _ ⟨rfl, rfl⟩
  cases hm : mrdP c x2 with
  | none =>
    rw [mrdR_n hm]
    conv => whnf
    have hno : prdP c s = none := prd_else r1 r2 t3 t4 fun _ h => prd_none2 h hm
    refine br_if (fun g1 => ?_) (fun g1 => ?_) <;> (try rw [g1]) <;> (conv => whnf)
    · exact prdR_no hno
    · rw [q0f]
      conv => whnf
      exact prdR_no hno
  | some m =>
    rw [mrdR_s hm]
    conv => whnf
    refine br_if (fun g1 => ?_) (fun g1 => ?_) <;> (try rw [g1]) <;> (conv => whnf)
    · rw [notB_t] at g1
      subst g1
      exact prdR_no (prd_else r1 r2 t3 t4 fun h _ => by cases h)
    rw [notB_f] at g1
    subst g1
    rw [q0n]
    conv => whnf
    have hmo := machine_ok (mrd_is hm).1
    have hpo : (⟨x1, m, l3, l4⟩ : DProc).ok := ⟨i64r y1, hmo, ⟨by show l3.length ≤ _; omega, fun y hy => by have := z3 y hy; omega⟩, ⟨by show l4.length ≤ _; omega, fun y hy => by have := z4 y hy; omega⟩⟩
    refine (i_ProcPack_ok c ⟨x1, m, l3, l4⟩ hc hpo (fun y hy => by have := z3 y hy; omega)).mono ?_
    rintro _ _ ⟨rfl, rfl⟩
    conv => whnf
    refine br_if (fun g2 => ?_) (fun g2 => ?_) <;> (try rw [g2]) <;> (conv => whnf)
    · rw [notB_t] at g2
      exact prdR_no (prd_else r1 r2 t3 t4 fun _ h => prd_no h hm fun hh => by rw [hh.2] at g2; cases g2)
    rw [notB_f] at g2
    obtain ⟨-, -, u3, u4, -⟩ := procOk_t.1 g2
    have hraw := raw_yes r1 r2 t3 t4 u3 u4
    have hiff := prd_iff hraw hm g2
    refine br_if (fun g3 => ?_) (fun g3 => ?_) <;> (try rw [g3]) <;> (conv => whnf)
    · rw [notB_t, eqStr_f] at g3
      exact prdR_no (prd_no hraw hm fun hh => g3 (hiff.2 hh.1))
    · rw [notB_f, eqStr_t] at g3
      exact prdR_yes (prd_some hraw hm g2 (hiff.1 g3))

set_option maxRecDepth 100000 in
set_option maxHeartbeats 4000000 in
theorem s_ProcRead_ok (c : DCode) (s : ByteArray) (hc : c.ok) (hs : s.size ≤ 2000000) : FnV Tryz.prog 18 [cV c, sV s] fun rs outs => rs = prdR c s ∧ outs = [] := by
  refine fn_ok (E := E33) τ_ok mixed Tryz.func18 (by rfl) (by rfl) false (by simp [Tryz.f18]) ?_
  have hz := sb_bytes s
  have hl := sb_len s
  have hl' : (sb s).length ≤ 1000000000 := by omega
  conv => whnf
  refine ⟨by omega, ?_⟩
  conv => whnf
  rw [bytesOf_sb]
  refine (s_num_u (zs := sb s) (a := 0) (ok := true) hz hl' ⟨by omega, by omega⟩).mono ?_
  rintro _ _ ⟨x1, a1, o1, rfl, rfl, p1, y1, r1⟩
  conv => whnf
  refine (s_txt_u hz hl' p1).mono ?_
  rintro _ _ ⟨x2, a2, o2, rfl, rfl, p2, y2, r2⟩
  conv => whnf
  refine (s_texts_ok (sb s) a2 o2 hz hl' p2).mono ?_
  rintro _ _ ⟨l3, a3, o3, rfl, rfl, p3, y3, z3, r3⟩
  conv => whnf
  refine (s_texts_ok (sb s) a3 o3 hz hl' p3).mono ?_
  rintro _ _ ⟨l4, a4, o4, rfl, rfl, p4, y4, z4, r4⟩
  conv => whnf
  have R := raw_chain r1 r2 r3 r4
  refine (s_MachineRead_ok c x2 hc (by omega)).mono ?_
  rintro _ _ ⟨rfl, rfl⟩
  cases hm : mrdP c x2 with
  | none =>
    rw [mrdR_n hm]
    conv => whnf
    refine br_if (fun g1 => ?_) (fun g1 => ?_) <;> (try rw [g1]) <;> (conv => whnf)
    · rw [notB_t] at g1
      subst g1
      exact prdR_no (prd_none1 R.no)
    rw [notB_f] at g1
    subst g1
    have hno : prdP c s = none := prd_none2 R.yes hm
    refine br_if (fun g2 => ?_) (fun g2 => ?_) <;> (try rw [g2]) <;> (conv => whnf)
    · exact prdR_no hno
    · rw [q0f]
      conv => whnf
      exact prdR_no hno
  | some m =>
    rw [mrdR_s hm]
    conv => whnf
    refine br_if (fun g1 => ?_) (fun g1 => ?_) <;> (try rw [g1]) <;> (conv => whnf)
    · rw [notB_t] at g1
      subst g1
      exact prdR_no (prd_none1 R.no)
    rw [notB_f] at g1
    subst g1
    refine br_if (fun g2 => ?_) (fun g2 => ?_) <;> (try rw [g2]) <;> (conv => whnf)
    · rw [notB_t, eqI_f] at g2
      exact prdR_no (prd_no R.yes hm fun hh => g2 (by rw [hh.1, hl]))
    rw [notB_f, eqI_t] at g2
    rw [q0n]
    conv => whnf
    have hmo := machine_ok (mrd_is hm).1
    have hpo : (⟨x1, m, l3, l4⟩ : DProc).ok := ⟨i64r y1, hmo, ⟨by show l3.length ≤ _; omega, fun y hy => by have := z3 y hy; omega⟩, ⟨by show l4.length ≤ _; omega, fun y hy => by have := z4 y hy; omega⟩⟩
    refine (s_ProcOk_ok c ⟨x1, m, l3, l4⟩ hc hpo (fun y hy => by have := z3 y hy; omega)).mono ?_
    rintro _ _ ⟨rfl, rfl⟩
    conv => whnf
    refine br_if (fun g3 => ?_) (fun g3 => ?_) <;> (try rw [g3]) <;> (conv => whnf)
    · rw [notB_t] at g3
      exact prdR_no (prd_no R.yes hm fun hh => by rw [hh.2] at g3; cases g3)
    · rw [notB_f] at g3
      exact prdR_yes (prd_some R.yes hm g3 (by rw [hl]; exact g2))

end Go.Proofs.YtcaonpncopfeoaaGreat.V
