/- Nodes read from bytes: the program's reader. -/
import Derived.Test.YtcaonpncopfeoaaGreatQ16
set_option linter.unusedVariables false
set_option linter.unusedSimpArgs false
namespace Go.Proofs.YtcaonpncopfeoaaGreat.V
open Go

def MdE17 (f : Nat) : List Mode :=
  match f with
  | 82 => [.mptr]
  | 83 => [.mptr]
  | _ => []
def E17 : Env := ⟨τ, MdE17⟩

def Pos (zs : List Int) (a : Int) : Prop := 0 ≤ a ∧ a ≤ zs.length
theorem posJ {zs : List Int} (hz : Bytes zs) (a : Int) : Pos zs (gJ zs a) := by
  have := g_cases zs a hz
  unfold Pos
  omega
theorem gX_r {zs : List Int} (hz : Bytes zs) (a : Int) : 0 ≤ gX zs a ∧ gX zs a ≤ 9223372036854775807 := by
  have := g_cases zs a hz
  omega

def nd0 (k : Int) : DNode := ⟨k, 0, ⟨#[]⟩, 0, 0⟩
/-- A node read from a place on. -/
noncomputable def ndP (zs : List Int) (a : Int) : Option (DNode × Int) :=
  if gB zs a = true then
    (if gX zs a = 2 ∨ gX zs a = 8 ∨ gX zs a = 9 then (if gB zs (gJ zs a) = true then some (⟨gX zs a, gX zs (gJ zs a), ⟨#[]⟩, 0, 0⟩, gJ zs (gJ zs a)) else none)
    else if gX zs a = 3 then (if gB zs (gJ zs a) = true then some (⟨gX zs a, gX zs (gJ zs a) - 1000000000, ⟨#[]⟩, 0, 0⟩, gJ zs (gJ zs a)) else none)
    else if gX zs a = 4 then (if tB zs (gJ zs a) = true then some (⟨gX zs a, 0, tS zs (gJ zs a), 0, 0⟩, tJ zs (gJ zs a)) else none)
    else if gX zs a = 5 then (if gB zs (gJ zs a) = true ∧ gB zs (gJ zs (gJ zs a)) = true then some (⟨gX zs a, 0, ⟨#[]⟩, gX zs (gJ zs a), gX zs (gJ zs (gJ zs a))⟩, gJ zs (gJ zs (gJ zs a))) else none)
    else if gX zs a = 6 then (if gB zs (gJ zs a) = true ∧ gB zs (gJ zs (gJ zs a)) = true then some (⟨gX zs a, gX zs (gJ zs a), ⟨#[]⟩, gX zs (gJ zs (gJ zs a)), 0⟩, gJ zs (gJ zs (gJ zs a))) else none)
    else if gX zs a = 7 then (if gB zs (gJ zs a) = true then some (⟨gX zs a, 0, ⟨#[]⟩, gX zs (gJ zs a), 0⟩, gJ zs (gJ zs a)) else none)
    else some (nd0 (gX zs a), gJ zs a))
  else none
/-- What a reader of a node leaves. -/
def NdPost (zs : List Int) (a : Int) (ok : Bool) (x : DNode) (a' : Int) (ok' : Bool) : Prop :=
  x.ok ∧ Pos zs a' ∧ ((ok' = true ∧ ok = true ∧ ndP zs a = some (x, a')) ∨ (ok' = false ∧ (ok = false ∨ ndP zs a = none)))

theorem posT {zs : List Int} (hz : Bytes zs) (a : Int) : Pos zs (tJ zs a) := by
  unfold tJ
  split
  · rename_i h
    unfold tB at h
    simp only [Bool.and_eq_true, decide_eq_true_eq] at h
    have := gX_r hz a
    have := posJ hz a
    unfold Pos at *
    omega
  · unfold Pos
    omega
theorem rd_num {zs : List Int} {a : Int} (ok : Bool) (hz : Bytes zs) (hl : zs.length ≤ 1000000000) (hp : Pos zs a) :
    FnV Tryz.prog 82 [curV zs a ok] fun rs outs => (gB zs a = true ∧ rs = [iR (gX zs a)] ∧ outs = [curC zs (gJ zs a) ok]) ∨ (gB zs a = false ∧ rs = [iR 0] ∧ outs = [curC zs a false]) := by
  unfold Pos at hp
  exact i_rd_num_ok zs a ok hz hl (by omega) (by omega)
theorem rd_text {zs : List Int} {a : Int} (ok : Bool) (hz : Bytes zs) (hl : zs.length ≤ 1000000000) (hp : Pos zs a) :
    FnV Tryz.prog 83 [curV zs a ok] fun rs outs => (tB zs a = true ∧ rs = [sR (tS zs a)] ∧ outs = [curC zs (tJ zs a) ok]) ∨ (tB zs a = false ∧ rs = [sR ⟨#[]⟩] ∧ outs = [curC zs a false]) := by
  unfold Pos at hp
  exact i_rd_text_ok zs a ok hz hl (by omega) (by omega)
theorem strOfNums_size (l : List Int) : (strOfNums l).size = l.length := by
  show (l.map fun n : Int => UInt8.ofNat n.toNat).toArray.size = l.length
  simp
theorem tS_size (zs : List Int) (a : Int) : (tS zs a).size ≤ zs.length := by
  unfold tS
  split
  · rw [strOfNums_size, List.length_drop, List.length_take]
    omega
  · exact Nat.zero_le _

set_option maxRecDepth 100000 in
set_option maxHeartbeats 4000000 in
theorem i_node_ok (zs : List Int) (a : Int) (ok : Bool) (hz : Bytes zs) (hl : zs.length ≤ 1000000000) (hp : Pos zs a) :
    FnV Tryz.prog 264 [curV zs a ok] fun rs outs => ∃ x a' ok', rs = [x.r] ∧ outs = [curC zs a' ok'] ∧ NdPost zs a ok x a' ok' := by
  refine fn_ok (E := E17) τ_ok mixed Tryz.func264 (by rfl) (by rfl) false (by simp [Tryz.f264]) ?_
  conv => whnf
  have pJ : ∀ b, Pos zs (gJ zs b) := posJ hz
  have pT : ∀ b, Pos zs (tJ zs b) := posT hz
  have gr : ∀ b, 0 ≤ gX zs b ∧ gX zs b ≤ 9223372036854775807 := gX_r hz
  have ts : ∀ b, (tS zs b).size ≤ 9223372036854775807 := fun b => by have := tS_size zs b; omega
  have w1 : ∀ b, wrp .i64 (gX zs b - 1000000000) = gX zs b - 1000000000 := fun b => by have := gr b; exact wrp_i64 (by omega) (by omega)
  have w2 : wrp .i64 (0 - 1000000000) = -1000000000 := wrp_i64 (by decide) (by decide)
  repeat' (first
    | (refine br_if (fun h => ?_) (fun h => ?_) <;> (try rw [h]) <;> (conv => whnf))
    | (refine (rd_num _ hz hl (by first | exact hp | exact pJ _ | exact pT _)).mono ?_; rintro _ _ (⟨h, rfl, rfl⟩ | ⟨h, rfl, rfl⟩) <;> (conv => whnf))
    | (refine (rd_text _ hz hl (by first | exact hp | exact pJ _ | exact pT _)).mono ?_; rintro _ _ (⟨h, rfl, rfl⟩ | ⟨h, rfl, rfl⟩) <;> (conv => whnf))
    | fail)
  all_goals simp only [eqI_t, eqI_f, w1, w2] at *
  all_goals refine ⟨⟨_, _, _, _, _⟩, _, _, rfl, rfl, ⟨⟨?_, ?_, ?_, ?_, ?_⟩, ?_, ?_⟩⟩
  all_goals first
    | exact hp
    | exact pJ _
    | exact pT _
    | exact ts _
    | exact Nat.zero_le _
    | (have := gr; simp only; constructor <;> first | omega | (have := gr (gJ zs a); omega) | (have := gr a; omega) | (have := gr (gJ zs (gJ zs a)); omega))
    | skip
  all_goals first
    | (exfalso; omega)
    | (refine .inr ⟨rfl, .inr ?_⟩; simp [ndP, nd0, *]; done)
    | (cases ok
       · exact .inr ⟨rfl, .inl rfl⟩
       · refine .inl ⟨rfl, rfl, ?_⟩
         simp [ndP, nd0, *]
         done)

end Go.Proofs.YtcaonpncopfeoaaGreat.V
