/- The program's maps: of whole numbers. -/
import Derived.Test.YtcaonpncopfeoaaGreatT
set_option linter.unusedVariables false
set_option linter.unusedSimpArgs false
namespace Go.Proofs.YtcaonpncopfeoaaGreat.V
open Go Classical

theorem findNow_int {q : IntKind} {x : Int} : ∀ (l : List MapEntry) (i : Nat), (∀ e ∈ l, keyIs none e.key) → Instr.findNow (.int q) (.int .i64 x) l i = some (findV (.int .i64 x) l i)
  | [], _, _ => rfl
  | e :: r, i, h => by
    obtain ⟨y, hy⟩ := h e (List.mem_cons_self ..)
    have ih := findNow_int (q := q) (x := x) r (i + 1) fun e he => h e (List.mem_cons_of_mem _ he)
    unfold Instr.findNow findV
    rw [hy]
    by_cases hxy : x = y
    · subst hxy
      simp [Instr.sameNow]
    · have hne : ¬ (Value.int .i64 x = Value.int .i64 y) := fun e => hxy (by cases e; rfl)
      have hb : (x == y) = false := by simp [hxy]
      simp [Instr.sameNow, hne, hb, ih]

set_option maxRecDepth 100000 in
theorem mapTyInt : MapTy Tryz.prog 187 none where
  is := by
    refine ⟨_, _, Tryz.underlying187, ?_, ?_, ?_, ?_⟩
    · rintro w b _ ⟨x, rfl⟩
      exact MapKept.run_checkKey (d := .int .i64) Tryz.underlying3 (by simp [MapKept.IsKey]) b 9999
    · rintro w _ l ⟨x, rfl⟩ hl
      exact MapKept.run_findKey Tryz.underlying3 (findNow_int l 0 hl)
    · intro w
      obtain ⟨i, h1, h2⟩ : ∃ i, Tryz.prog.info? 3 = some i ∧ i.zero = some (.int .i64 0) := ⟨_, Tryz.type3, rfl⟩
      simp [zeroValue, typeInfo, h1, h2]
    · rintro w _ ⟨x, rfl⟩
      simp [Instr.keyThatStays, Instr.sameBits]

end Go.Proofs.YtcaonpncopfeoaaGreat.V
