/- A value as bytes. -/
import Derived.Test.YtcaonpncopfeoaaGreatQ15
set_option linter.unusedVariables false
set_option linter.unusedSimpArgs false
namespace Go.Proofs.YtcaonpncopfeoaaGreat.V
open Go

def MdE16 (f : Nat) : List Mode :=
  match f with
  | 195 => [.rd]
  | 204 => [.rd]
  | 260 => [.rd]
  | 261 => [.rd, .rd]
  | 266 => [.rd]
  | 275 => [.rd, .rd]
  | 322 => [.rd, .rd]
  | 325 => [.rd, .rd]
  | _ => []
def E16 : Env := ⟨τ, MdE16⟩

noncomputable def vpOk (l : List DNode) (v : Int) : Bool := clB (poolOk l = true ∧ 0 ≤ v ∧ v < l.length)
noncomputable def vpS (l : List DNode) (v : Int) : ByteArray := if vpOk l v = true then strOfNums (packL (keepN l [v])) else ⟨#[]⟩
theorem vp_no {l : List DNode} {v : Int} (h : ¬ (poolOk l = true ∧ 0 ≤ v ∧ v < l.length)) : [sR ⟨#[]⟩, bR false] = [sR (vpS l v), bR (vpOk l v)] ∧ ([] : List (List C)) = [] := by
  have e : vpOk l v = false := clB_f.2 h
  unfold vpS
  rw [e]
  exact ⟨rfl, rfl⟩
theorem vp_yes {l : List DNode} {v : Int} (h : poolOk l = true ∧ 0 ≤ v ∧ v < l.length) : [sR (strOfNums (packL (keepN l [v]))), bR true] = [sR (vpS l v), bR (vpOk l v)] ∧ ([] : List (List C)) = [] := by
  have e : vpOk l v = true := clB_t.2 h
  unfold vpS
  rw [e]
  exact ⟨rfl, rfl⟩

set_option maxRecDepth 100000 in
set_option maxHeartbeats 1000000 in
theorem s_ValuePack_ok (p : DPool) (v : Int) (ho : p.ok) : FnV Tryz.prog 262 [pV p, iV v] fun rs outs => rs = [sR (vpS p.xNodes v), bR (vpOk p.xNodes v)] ∧ outs = [] := by
  refine fn_ok (E := E16) τ_ok mixed Tryz.func262 (by rfl) (by rfl) false (by simp [Tryz.f262]) ?_
  have hl := ho.1
  conv => whnf
  refine (s_PoolOk_ok p ho).mono ?_
  rintro _ _ ⟨rfl, rfl⟩
  conv => whnf
  refine br_if (fun h1 => ?_) (fun h1 => ?_) <;> (try rw [h1]) <;> (conv => whnf)
  · exact vp_no fun h => by rw [notB_t, h.1] at h1; cases h1
  rw [notB_f] at h1
  have h3 := (poolOk_t.1 h1).1
  refine (s_l2Has_ok p v hl).mono ?_
  rintro _ _ ⟨rfl, rfl⟩
  conv => whnf
  refine br_if (fun h2 => ?_) (fun h2 => ?_) <;> (try rw [h2]) <;> (conv => whnf)
  · exact vp_no fun h => by rw [notB_t, decide_eq_false_iff_not] at h2; exact h2 h.2
  rw [notB_f, decide_eq_true_iff] at h2
  refine (s_l7Keep_ok p [v] (by omega) h1 (by simp) (fun r hr => by rw [List.mem_singleton.1 hr]; exact h2)).mono ?_
  rintro _ _ ⟨rfl, rfl⟩
  conv => whnf
  have hk := keep_len p.xNodes [v]
  have hok := keep_ok h1 [v]
  refine (s_pack_ok ⟨keepN p.xNodes [v]⟩ (poolOk_t.1 hok).2 (by show (keepN p.xNodes [v]).length ≤ 400000; omega)).mono ?_
  rintro _ _ ⟨rfl, rfl⟩
  conv => whnf
  refine ⟨packL (keepN p.xNodes [v]), by simp [bts], ?_⟩
  conv => whnf
  exact vp_yes ⟨h1, h2⟩

set_option maxRecDepth 100000 in
set_option maxHeartbeats 1000000 in
theorem i_ValuePack_ok (p : DPool) (v : Int) (ho : p.ok) : FnV Tryz.prog 305 [pV p, iV v] fun rs outs => rs = [sR (vpS p.xNodes v), bR (vpOk p.xNodes v)] ∧ outs = [] := by
  refine fn_ok (E := E16) τ_ok mixed Tryz.func305 (by rfl) (by rfl) false (by simp [Tryz.f305]) ?_
  have hl := ho.1
  conv => whnf
  refine (i_PoolOk_ok p ho).mono ?_
  rintro _ _ ⟨rfl, rfl⟩
  conv => whnf
  refine br_if (fun h1 => ?_) (fun h1 => ?_) <;> (try rw [h1]) <;> (conv => whnf)
  · exact vp_no fun h => by rw [notB_t, h.1] at h1; cases h1
  rw [notB_f] at h1
  have h3 := (poolOk_t.1 h1).1
  refine (i_isNode_ok p v hl).mono ?_
  rintro _ _ ⟨rfl, rfl⟩
  conv => whnf
  refine br_if (fun h2 => ?_) (fun h2 => ?_) <;> (try rw [h2]) <;> (conv => whnf)
  · exact vp_no fun h => by rw [notB_t, decide_eq_false_iff_not] at h2; exact h2 h.2
  rw [notB_f, decide_eq_true_iff] at h2
  refine (i_keep_ok p [v] (by omega) h1 (by simp) (fun r hr => by rw [List.mem_singleton.1 hr]; exact h2)).mono ?_
  rintro _ _ ⟨rfl, rfl⟩
  conv => whnf
  have hk := keep_len p.xNodes [v]
  have hok := keep_ok h1 [v]
  refine (i_pack_ok ⟨keepN p.xNodes [v]⟩ (poolOk_t.1 hok).2 (by show (keepN p.xNodes [v]).length ≤ 400000; omega)).mono ?_
  rintro _ _ ⟨rfl, rfl⟩
  conv => whnf
  refine ⟨packL (keepN p.xNodes [v]), by simp [bts], ?_⟩
  conv => whnf
  exact vp_yes ⟨h1, h2⟩

end Go.Proofs.YtcaonpncopfeoaaGreat.V
