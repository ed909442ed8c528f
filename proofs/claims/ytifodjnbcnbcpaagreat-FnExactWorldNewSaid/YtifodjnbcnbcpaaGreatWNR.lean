/- The law FnExactWorldNew: for every input it returns true, and its arguments read afterwards as they read before. -/
import Derived.Test.YtifodjnbcnbcpaaGreatWN7
import Derived.Test.YtifodjnbcnbcpaaGreatRows
import Derived.WalkKit
import Derived.ProofKit
import Derived.OpenShut
import Derived.ShutString
import Derived.ChangeOld
import Derived.Below
namespace Go.Proofs.YtifodjnbcnbcpaaGreat.fnExactWorldNew
open Go.ChangeShapes Go.WideShapes Go.ChangeAt Go.RowKit V
open Go.ChangeMaps (open_string shut_string)
set_option linter.unusedVariables false
set_option linter.unusedSimpArgs false

theorem own : ownKnob Tryz.prog.godebug = none := by kernel_rfl
theorem laidOut : laidOutB Tryz.prog = true := by kernel_rfl

theorem walk (a0 : Array Value) (C0 : List C) (a1 : Int) (w : World) (t0 : TyL rowCode C0) (e0 : ArgOk w (Old w) (fun _ => False) (.agg a0) (.rdv true C0)) (w1 : (Lit.int .i64 a1).wf = true) :
    Calls Tryz.prog 3 #[.agg a0, .int .i64 a1] w fun e w' => e = .returned (.bool true) ∧ Below w.heap.size w w' :=
  law_calls (vs := [.agg a0, .int .i64 a1]) (FnExactWorldNew_all a1 t0) ⟨e0, int_reads _, trivial⟩

set_option maxRecDepth 100000 in
theorem lifted (os : Os) (started : os.Started) (H : Type) (enc : TypeId × Value → H) :
    ReturnsInHanded {} Tryz.checked os 3 .any (Rows.fnExactWorldNewSpec.pre6 enc Tryz.prog Tryz.f3 Rows.fnExactWorldNewRow.domain false) (Rows.fnExactWorldNewSpec.post enc Tryz.prog Tryz.f3 false true false false) := by
  refine returnsInHanded_of_change (C := Tryz.checked) own started (by kernel_rfl) Tryz.func3
    (ChangeSpec.witness6 (enc := enc) (C := Tryz.checked) false ⟨#[], #[.agg #[.slice none 0 0, .slice none 0 0, .slice none 0 0], .int .i64 0], []⟩ 8 (by kernel_rfl) (by kernel_rfl) (by kernel_rfl) (by kernel_rfl)) ?_
  intro W base args ds gs before hval0 hW hcnd _
  have hval : ∀ (j : Nat) t v, Tryz.f3.params[j]? = some t → args[j]? = some v → Value.okWide Tryz.prog W .any base t v := hval0
  have hW' := hW
  obtain ⟨p, q, hA0, hV, rfl, hfz, hnd⟩ := hW
  have hA : DataW.TrodAll enc Tryz.prog W 0 (fun _ => true) true Tryz.f3.params.toList args.toList ds p := hA0
  rw [Tryz.params3] at hA hval
  obtain ⟨v0, vs0, d0, ds0, p0, q0, hargs, rfl, rfl, h0, r0⟩ := trodAll_cons hA
  obtain ⟨v1, vs1, d1, ds1, p1, q1, rfl, rfl, rfl, h1, r1⟩ := trodAll_cons r0
  obtain ⟨rfl, rfl, rfl⟩ := trodAll_nil r1
  obtain rfl : args = #[v0, v1] := by cases args; simp_all
  obtain ⟨rfl, rfl⟩ := trodVars_none hV
  have k0 := h0
  have lt0 : ∀ x ∈ p0, x.block < W.heap.size := by obtain ⟨m, hm⟩ := k0; exact DataW.trod_lt m _ _ _ hm
  obtain ⟨a0, rfl, _⟩ := okWide_struct Tryz.underlying28 (hval 0 28 v0 rfl rfl)
  obtain ⟨C0, t0, e0⟩ := arg_agg τ_ok (n := 30) (row := rowCode) rfl h0
  obtain ⟨a1, rfl, rfl, rfl, w1⟩ := open_int Tryz.underlying3 (hval 1 3 v1 rfl rfl) h1
  clear hA0 hval0
  refine (walk a0 C0 a1 W t0 e0 w1).mono fun e W' ⟨he, bel⟩ => ?_
  subst he
  exact ⟨_, rfl, _, _, _, [], _, [], hW', trodAll_mk1 (shut_bool Tryz.underlying4 _), (trodAll_cons_mk (Below.trod laidOut (by kernel_rfl) (of_decide_eq_true (by kernel_rfl)) k0 bel lt0) (trodAll_cons_mk (shut_int Tryz.underlying3 w1) trodAll_mk0)), rfl, bel.frame _, fun h => by cases h⟩

theorem and2 {a b : Bool} (h1 : a = true) (h2 : b = true) : (a && b) = true := by rw [h1, h2]; rfl
theorem part0 : (Rows.fnExactWorldNewRow.wf (OpenSpec.ofChange Rows.fnExactWorldNewSpec)) = true := by kernel_rfl
theorem part1 : (laidOutB Tryz.pinned.checked.prog) = true := by kernel_rfl
theorem part2 : (mapsRowed Tryz.pinned.checked.prog) = true := by kernel_rfl
theorem part3 : (Tryz.f3.params.all (Tryz.pinned.checked.prog.readableRec ·)) = true := by kernel_rfl
theorem part4 : (namedTie Tryz.pinned.checked.prog Rows.fnExactWorldNewRow.named Rows.fnExactWorldNewSpec.vars) = true := by kernel_rfl
theorem part5 : ((Rows.fnExactWorldNewRow.stops == [])) = true := by kernel_rfl
theorem part6 : ((Tryz.pinned.checked.prog.stops == [])) = true := by kernel_rfl
theorem part7 : ((Rows.fnExactWorldNewRow.knobs == [])) = true := by kernel_rfl
theorem part8 : ((Tryz.pinned.checked.prog.stopKnobs == [])) = true := by kernel_rfl
theorem part9 : ((Rows.fnExactWorldNewRow.inPlace == Tryz.pinned.checked.prog.inPlace 3)) = true := by kernel_rfl
theorem part10 : ((Rows.fnExactWorldNewRow.unfollowed == Tryz.pinned.checked.prog.unfollowed 3)) = true := by kernel_rfl
theorem part11 : ((Rows.fnExactWorldNewRow.recurses == Tryz.pinned.checked.prog.recurses 3)) = true := by kernel_rfl
theorem part12 : ((Rows.fnExactWorldNewRow.named == Tryz.pinned.checked.prog.varsNamed 3)) = true := by kernel_rfl
theorem part13 : ((Rows.fnExactWorldNewRow.maps == (Tryz.f3.params.toList ++ Rows.fnExactWorldNewSpec.plain.varTypes Tryz.pinned.checked.prog).any (Tryz.pinned.checked.prog.mapsRec ·))) = true := by kernel_rfl
theorem part14 : ((Rows.fnExactWorldNewRow.ifaces == (Tryz.f3.params.toList ++ Rows.fnExactWorldNewSpec.plain.varTypes Tryz.pinned.checked.prog).any (Tryz.pinned.checked.prog.ifacesRec ·))) = true := by kernel_rfl
theorem part15 : ((Rows.fnExactWorldNewRow.mapsOut == Tryz.pinned.checked.prog.mapsAmong Tryz.f3.resultTypes.toList)) = true := by kernel_rfl
theorem part16 : ((Rows.fnExactWorldNewRow.loops == (Tryz.f3.params.toList ++ Rows.fnExactWorldNewSpec.plain.varTypes Tryz.pinned.checked.prog).any (Tryz.pinned.checked.prog.loopsFrom ·))) = true := by kernel_rfl
theorem part17 : ((Rows.fnExactWorldNewRow.wideKeys == (Tryz.f3.params.toList ++ Rows.fnExactWorldNewSpec.plain.varTypes Tryz.pinned.checked.prog ++ Tryz.f3.resultTypes.toList).any (Tryz.pinned.checked.prog.wideKeysFrom ·))) = true := by kernel_rfl
theorem part18 : (Rows.fnExactWorldNewSpec.vars.all (Tryz.pinned.checked.prog.varReadable ·)) = true := by kernel_rfl
theorem part19 : (Tryz.f3.resultTypes.all (fun t => Tryz.pinned.checked.prog.readableRec t && decide (t < Tryz.pinned.checked.prog.types.size))) = true := by kernel_rfl
theorem part20 : ((Rows.fnExactWorldNewRow.ifacesOut == Tryz.f3.resultTypes.toList.any (Tryz.pinned.checked.prog.ifacesRec ·))) = true := by kernel_rfl
theorem part21 : ((Rows.fnExactWorldNewRow.loopsOut == Tryz.f3.resultTypes.toList.any (Tryz.pinned.checked.prog.loopsFrom ·))) = true := by kernel_rfl
theorem part22 : ((Rows.fnExactWorldNewRow.plainKeys == Tryz.pinned.checked.prog.plainKeys)) = true := by kernel_rfl
theorem part23 : (Rows.fnExactWorldNewRow.shortTexts.isNone) = true := by kernel_rfl
theorem part24 : (Tryz.pinned.checked.prog.stopsHeard) = true := by kernel_rfl
theorem part25 : (Tryz.pinned.checked.prog.mayEnter) = true := by kernel_rfl
theorem part26 : ((Rows.fnExactWorldNewRow.lifted == Tryz.pinned.checked.prog.liftsFinal)) = true := by kernel_rfl
theorem part27 : ((Tryz.pinned.checked.prog.make == some Rows.fnExactWorldNewRow.make)) = true := by kernel_rfl
theorem part28 : ((Rows.fnExactWorldNewRow.kinds == (if Rows.fnExactWorldNewRow.domain.isEmpty then [] else Tryz.f3.params.toList.map fun t => match Tryz.pinned.checked.prog.underlying t with | some (.int k) => some k | _ => none))) = true := by kernel_rfl
theorem part29 : ((Rows.fnExactWorldNewRow.pinned == Rows.fnExactWorldNewRow.pinnedBy)) = true := by kernel_rfl
theorem part30 : ((Rows.fnExactWorldNewRow.veiled == (Tryz.f3.params.toList ++ Rows.fnExactWorldNewSpec.plain.varTypes Tryz.pinned.checked.prog ++ Tryz.f3.resultTypes.toList).any (Tryz.pinned.checked.prog.veiledRec ·))) = true := by kernel_rfl
theorem part31 : (Rows.fnExactWorldNewRow.veiledFits Tryz.pinned.checked.prog Tryz.f3.params.toList (Tryz.f3.params.toList ++ Rows.fnExactWorldNewSpec.plain.varTypes Tryz.pinned.checked.prog ++ Tryz.f3.resultTypes.toList)) = true := by kernel_rfl
set_option maxRecDepth 100000 in
theorem closed : joinedFacts Tryz.pinned.checked.prog 3 Tryz.f3 Rows.fnExactWorldNewSpec Rows.fnExactWorldNewRow = true := (and2 (and2 (and2 (and2 (and2 (and2 (and2 (and2 (and2 (and2 (and2 (and2 (and2 (and2 (and2 (and2 (and2 (and2 (and2 (and2 (and2 (and2 (and2 (and2 (and2 (and2 (and2 (and2 (and2 (and2 (and2 part0 part1) part2) part3) part4) part5) part6) part7) part8) part9) part10) part11) part12) part13) part14) part15) part16) part17) part18) part19) part20) part21) part22) part23) part24) part25) part26) part27) part28) part29) part30) part31)

theorem over : Rows.fnExactWorldNewRow.holds Tryz.pinned (OpenSpec.ofChange Rows.fnExactWorldNewSpec) :=
  OpenClaim.holds_of_wide 3 Tryz.f3 rfl rfl rfl rfl rfl rfl rfl ⟨rfl, rfl, rfl, rfl, rfl⟩ rfl rfl rfl rfl rfl (by kernel_rfl) Tryz.func3 closed
    (of_decide_eq_true (by kernel_rfl)) (by unfold Func.isWrapper; first | (rw [if_pos (by decide +kernel)]; kernel_rfl) | (rw [if_neg (by decide +kernel)]; exact ⟨rfl, rfl⟩))
    (fun os started H enc _ => lifted os started H enc)

/-- The statement. -/
theorem proved : Rows.FnExactWorldNewSaid := over
#print axioms proved
end Go.Proofs.YtifodjnbcnbcpaaGreat.fnExactWorldNew
