/- Nodes put behind others: add. -/
import Derived.Test.YtcaonpncopfeoaaGreatQ10
set_option linter.unusedVariables false
set_option linter.unusedSimpArgs false
namespace Go.Proofs.YtcaonpncopfeoaaGreat.V
open Go

def MdE11 (f : Nat) : List Mode :=
  match f with
  | _ => []
def E11 : Env := ⟨τ, MdE11⟩

@[reducible] def npC (l : List DNode) : List (List C) := l.map DNode.c
@[reducible] def ppV (l : List DNode) : AV := .mptr none [.sl true 5 (npC l)]
@[reducible] def nodV (x : DNode) : AV := .rdv true x.c

theorem flat_node (x : DNode) : Flat 5 [x.c] := by
  intro r hr
  rw [List.mem_singleton.1 hr]
  refine ⟨rfl, fun c hc => ?_⟩
  simp only [DNode.c, List.mem_cons, List.not_mem_nil, or_false] at hc
  rcases hc with rfl | rfl | rfl | rfl | rfl <;> exact ⟨_, rfl, rfl⟩

theorem npC_app (l : List DNode) (x : DNode) : npC l ++ [x.c] = npC (l ++ [x]) := by
  rw [npC, npC, List.map_append]
  rfl

set_option maxRecDepth 100000 in
theorem s_l2Add_ok (l : List DNode) (x : DNode) (hl : l.length ≤ 1000000) : FnV Tryz.prog 332 [ppV l, nodV x] fun rs outs => rs = [iR l.length] ∧ outs = [[.sl true 5 (npC (l ++ [x]))]] := by
  refine fn_ok (E := E11) τ_ok mixed Tryz.func332 (by rfl) (by rfl) false (by simp [Tryz.f332]) ?_
  conv => whnf
  have hsz : ∀ n : Nat, n = 1 → ((npC l).length + n) * d274.bytes ≤ 140737488355328 := fun n hn => by
    rw [hn, npC, List.length_map]
    simp only [d274]
    omega
  refine ⟨.take 0 (.take 1 (.take 2 (.take 3 (.or 4 (.or 5 (.or 6 (.or 7 (.take 8 (.take 9 (.or 10 .done .nil))) .nil) .nil) .nil) (.or 5 (.or 4 (.or 6 (.or 7 (.take 8 (.take 9 (.or 10 .done .nil))) .nil) .nil) (.or 6 (.or 4 (.or 7 (.take 8 (.take 9 (.or 10 .done .nil))) .nil) .nil) .nil)) .nil))))), by rfl, ?_⟩
  apply Exists.intro
  refine ⟨?_, ?_⟩
  · conv => whnf
    refine ⟨?_, ?_⟩
    · conv => whnf
      refine .inl ⟨flat_node x, ?_⟩
      conv => whnf
      refine ⟨hsz _ rfl, ?_⟩
      conv => whnf
      exact norm_wk (keep := [0, 4]) (kb := [1000000]) (ρ := [(12, some 12)]) rfl
    · conv => whnf
      refine ⟨?_, ?_⟩
      · conv => whnf
        refine .inl ⟨flat_node x, ?_⟩
        conv => whnf
        refine ⟨hsz _ rfl, ?_⟩
        conv => whnf
        exact norm_wk (keep := [0, 4]) (kb := [1000000]) (ρ := [(12, some 12)]) rfl
      · conv => whnf
        refine .inl ⟨flat_node x, ?_⟩
        conv => whnf
        refine ⟨hsz _ rfl, ?_⟩
        conv => whnf
        exact norm_wk (keep := [0, 4]) (kb := [1000000]) (ρ := [(12, some 12)]) rfl
  conv => whnf
  show [iR (wrp .i64 (((npC l ++ [x.c]).length : Int) - 1))] = _ ∧ [[C.sl true 5 (npC l ++ [x.c])]] = _
  rw [npC_app, npC, List.length_map, List.length_append, List.length_singleton, wrp_i64 (by omega) (by omega), show ((l.length + 1 : Nat) : Int) - 1 = l.length by omega]
  exact ⟨rfl, rfl⟩

set_option maxRecDepth 100000 in
theorem i_add_ok (l : List DNode) (x : DNode) (hl : l.length ≤ 1000000) : FnV Tryz.prog 345 [ppV l, nodV x] fun rs outs => rs = [iR l.length] ∧ outs = [[.sl true 5 (npC (l ++ [x]))]] := by
  refine fn_ok (E := E11) τ_ok mixed Tryz.func345 (by rfl) (by rfl) false (by simp [Tryz.f345]) ?_
  conv => whnf
  have hsz : ∀ n : Nat, n = 1 → ((npC l).length + n) * d274.bytes ≤ 140737488355328 := fun n hn => by
    rw [hn, npC, List.length_map]
    simp only [d274]
    omega
  refine ⟨.take 0 (.take 1 (.take 2 (.take 3 (.or 4 (.or 5 (.or 6 (.or 7 (.take 8 (.take 9 (.or 10 .done .nil))) .nil) .nil) .nil) (.or 5 (.or 4 (.or 6 (.or 7 (.take 8 (.take 9 (.or 10 .done .nil))) .nil) .nil) (.or 6 (.or 4 (.or 7 (.take 8 (.take 9 (.or 10 .done .nil))) .nil) .nil) .nil)) .nil))))), by rfl, ?_⟩
  apply Exists.intro
  refine ⟨?_, ?_⟩
  · conv => whnf
    refine ⟨?_, ?_⟩
    · conv => whnf
      refine .inl ⟨flat_node x, ?_⟩
      conv => whnf
      refine ⟨hsz _ rfl, ?_⟩
      conv => whnf
      exact norm_wk (keep := [0, 4]) (kb := [1000000]) (ρ := [(12, some 12)]) rfl
    · conv => whnf
      refine ⟨?_, ?_⟩
      · conv => whnf
        refine .inl ⟨flat_node x, ?_⟩
        conv => whnf
        refine ⟨hsz _ rfl, ?_⟩
        conv => whnf
        exact norm_wk (keep := [0, 4]) (kb := [1000000]) (ρ := [(12, some 12)]) rfl
      · conv => whnf
        refine .inl ⟨flat_node x, ?_⟩
        conv => whnf
        refine ⟨hsz _ rfl, ?_⟩
        conv => whnf
        exact norm_wk (keep := [0, 4]) (kb := [1000000]) (ρ := [(12, some 12)]) rfl
  conv => whnf
  show [iR (wrp .i64 (((npC l ++ [x.c]).length : Int) - 1))] = _ ∧ [[C.sl true 5 (npC l ++ [x.c])]] = _
  rw [npC_app, npC, List.length_map, List.length_append, List.length_singleton, wrp_i64 (by omega) (by omega), show ((l.length + 1 : Nat) : Int) - 1 = l.length by omega]
  exact ⟨rfl, rfl⟩

end Go.Proofs.YtcaonpncopfeoaaGreat.V
