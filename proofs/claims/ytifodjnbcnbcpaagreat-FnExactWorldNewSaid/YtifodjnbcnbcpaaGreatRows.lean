/-
  No cell of these rows narrows 'for every input' (looked for: loops, veiled, ifaces, maps, wideKeys, modest, calm, conditions, laid).
  DERIVED. THE GIVEN ROWS OF THIS SEAT. 6 by the template 'for every input the law returns true; each argument reads behind the call as it read before'; 0 by the template 'total and deterministic' (their statements: YtifodjnbcnbcpaaGreatTotals.lean).
  GIVEN WITH THE SEED: the statements are not yours to turn. If you find one false, say at which input.
  Laid BY PROGRAM, IN A SANDBOX (cutbox-rows.mjs): the forced cells as the released guide's own fill.sh prints them over the translation a196b622942527c0… (all of the seat's roots in one cut). By AI agents, Wed Nov 11 2026. No macro, syntax, notation, axiom, sorry.
-/
import Derived.Test.YtifodjnbcnbcpaaGreatChecked
import GoSem.Claim
import GoSem.ClaimJoined
import GoSem.ClaimMapViews
import Derived.JoinedTies
import Derived.KernelRfl
namespace Go.Proofs.YtifodjnbcnbcpaaGreat
/- THE CELL 'sum', in the pinned program and in every row, IS THE sha256 OF THE DUMP (.gsa) THAT YtifodjnbcnbcpaaGreatProg.lean LOADS. Nothing in Lean hashes anything: it is a label: what it is worth is what the hold of that sum in a sandbox is worth. -/
noncomputable def Tryz.pinned : Pinned := { name := "ytifodjnbcnbcpaagreat", sum := "a196b622942527c09161d662769b453ec55a1f930ef35604cb2b534a82f7c12d", checked := Tryz.checked }
namespace Rows
def none {H : Type} : Left H := { results := [], args := [] }

/-- 'laws.FnExactWorldNew': WHATEVER THE INPUT: true; the input reads as it did. -/
def fnExactWorldNewSpec : ChangeSpec := { name := "fnExactWorldNew", fn := fun _ => fun
  | [d1, d2] => { results := [.lit (.bool true)], args := [d1, d2] }
  | _ => none }
def fnExactWorldNewRow : OpenClaim := { program := "ytifodjnbcnbcpaagreat", sum := "a196b622942527c09161d662769b453ec55a1f930ef35604cb2b534a82f7c12d", func := "loop.example/g00189/laws.FnExactWorldNew", spec := "fnExactWorldNew", unfollowed := true, recurses := true, plainKeys := false, apart := false }
def FnExactWorldNewSaid : Prop := fnExactWorldNewRow.holds Tryz.pinned (OpenSpec.ofChange fnExactWorldNewSpec)

/-- ITS FALSE NEIGHBOUR: 'it returns false'. Refute it at one input. -/
def fnExactWorldNewWrong : ChangeSpec := { name := "fnExactWorldNew", fn := fun _ => fun
  | [d1, d2] => { results := [.lit (.bool false)], args := [d1, d2] }
  | _ => none }
def FnExactWorldNewWrongFalsely : Prop := fnExactWorldNewRow.holds Tryz.pinned (OpenSpec.ofChange fnExactWorldNewWrong)

/-- 'laws.FnExactProcStep': WHATEVER THE INPUT: true; the input reads as it did. -/
def fnExactProcStepSpec : ChangeSpec := { name := "fnExactProcStep", fn := fun _ => fun
  | [d1, d2, d3] => { results := [.lit (.bool true)], args := [d1, d2, d3] }
  | _ => none }
def fnExactProcStepRow : OpenClaim := { program := "ytifodjnbcnbcpaagreat", sum := "a196b622942527c09161d662769b453ec55a1f930ef35604cb2b534a82f7c12d", func := "loop.example/g00189/laws.FnExactProcStep", spec := "fnExactProcStep", unfollowed := true, recurses := true, plainKeys := false, apart := false }
def FnExactProcStepSaid : Prop := fnExactProcStepRow.holds Tryz.pinned (OpenSpec.ofChange fnExactProcStepSpec)

/-- ITS FALSE NEIGHBOUR: 'it returns false'. Refute it at one input. -/
def fnExactProcStepWrong : ChangeSpec := { name := "fnExactProcStep", fn := fun _ => fun
  | [d1, d2, d3] => { results := [.lit (.bool false)], args := [d1, d2, d3] }
  | _ => none }
def FnExactProcStepWrongFalsely : Prop := fnExactProcStepRow.holds Tryz.pinned (OpenSpec.ofChange fnExactProcStepWrong)

/-- 'laws.FnExactWorldDo': WHATEVER THE INPUT: true; the input reads as it did. -/
def fnExactWorldDoSpec : ChangeSpec := { name := "fnExactWorldDo", fn := fun _ => fun
  | [d1, d2] => { results := [.lit (.bool true)], args := [d1, d2] }
  | _ => none }
def fnExactWorldDoRow : OpenClaim := { program := "ytifodjnbcnbcpaagreat", sum := "a196b622942527c09161d662769b453ec55a1f930ef35604cb2b534a82f7c12d", func := "loop.example/g00189/laws.FnExactWorldDo", spec := "fnExactWorldDo", inPlace := ["slices.overlaps[loop.example/g00189/impl.Piece]"], unfollowed := true, recurses := true, plainKeys := false, apart := false }
def FnExactWorldDoSaid : Prop := fnExactWorldDoRow.holds Tryz.pinned (OpenSpec.ofChange fnExactWorldDoSpec)

/-- ITS FALSE NEIGHBOUR: 'it returns false'. Refute it at one input. -/
def fnExactWorldDoWrong : ChangeSpec := { name := "fnExactWorldDo", fn := fun _ => fun
  | [d1, d2] => { results := [.lit (.bool false)], args := [d1, d2] }
  | _ => none }
def FnExactWorldDoWrongFalsely : Prop := fnExactWorldDoRow.holds Tryz.pinned (OpenSpec.ofChange fnExactWorldDoWrong)

/-- 'laws.FnExactRound': WHATEVER THE INPUT: true; the input reads as it did. -/
def fnExactRoundSpec : ChangeSpec := { name := "fnExactRound", fn := fun _ => fun
  | [d] => { results := [.lit (.bool true)], args := [d] }
  | _ => none }
def fnExactRoundRow : OpenClaim := { program := "ytifodjnbcnbcpaagreat", sum := "a196b622942527c09161d662769b453ec55a1f930ef35604cb2b534a82f7c12d", func := "loop.example/g00189/laws.FnExactRound", spec := "fnExactRound", inPlace := ["slices.overlaps[loop.example/g00189/impl.Piece]"], unfollowed := true, recurses := true, plainKeys := false, apart := false }
def FnExactRoundSaid : Prop := fnExactRoundRow.holds Tryz.pinned (OpenSpec.ofChange fnExactRoundSpec)

/-- ITS FALSE NEIGHBOUR: 'it returns false'. Refute it at one input. -/
def fnExactRoundWrong : ChangeSpec := { name := "fnExactRound", fn := fun _ => fun
  | [d] => { results := [.lit (.bool false)], args := [d] }
  | _ => none }
def FnExactRoundWrongFalsely : Prop := fnExactRoundRow.holds Tryz.pinned (OpenSpec.ofChange fnExactRoundWrong)

/-- 'laws.FnExactDays': WHATEVER THE INPUT: true; the input reads as it did. -/
def fnExactDaysSpec : ChangeSpec := { name := "fnExactDays", fn := fun _ => fun
  | [d1, d2] => { results := [.lit (.bool true)], args := [d1, d2] }
  | _ => none }
def fnExactDaysRow : OpenClaim := { program := "ytifodjnbcnbcpaagreat", sum := "a196b622942527c09161d662769b453ec55a1f930ef35604cb2b534a82f7c12d", func := "loop.example/g00189/laws.FnExactDays", spec := "fnExactDays", inPlace := ["slices.overlaps[loop.example/g00189/impl.Piece]"], unfollowed := true, recurses := true, plainKeys := false, apart := false }
def FnExactDaysSaid : Prop := fnExactDaysRow.holds Tryz.pinned (OpenSpec.ofChange fnExactDaysSpec)

/-- ITS FALSE NEIGHBOUR: 'it returns false'. Refute it at one input. -/
def fnExactDaysWrong : ChangeSpec := { name := "fnExactDays", fn := fun _ => fun
  | [d1, d2] => { results := [.lit (.bool false)], args := [d1, d2] }
  | _ => none }
def FnExactDaysWrongFalsely : Prop := fnExactDaysRow.holds Tryz.pinned (OpenSpec.ofChange fnExactDaysWrong)

/-- 'laws.FnExactWorldRun': WHATEVER THE INPUT: true; the input reads as it did. -/
def fnExactWorldRunSpec : ChangeSpec := { name := "fnExactWorldRun", fn := fun _ => fun
  | [d1, d2] => { results := [.lit (.bool true)], args := [d1, d2] }
  | _ => none }
def fnExactWorldRunRow : OpenClaim := { program := "ytifodjnbcnbcpaagreat", sum := "a196b622942527c09161d662769b453ec55a1f930ef35604cb2b534a82f7c12d", func := "loop.example/g00189/laws.FnExactWorldRun", spec := "fnExactWorldRun", inPlace := ["slices.overlaps[loop.example/g00189/impl.Piece]"], unfollowed := true, recurses := true, plainKeys := false, apart := false }
def FnExactWorldRunSaid : Prop := fnExactWorldRunRow.holds Tryz.pinned (OpenSpec.ofChange fnExactWorldRunSpec)

/-- ITS FALSE NEIGHBOUR: 'it returns false'. Refute it at one input. -/
def fnExactWorldRunWrong : ChangeSpec := { name := "fnExactWorldRun", fn := fun _ => fun
  | [d1, d2] => { results := [.lit (.bool false)], args := [d1, d2] }
  | _ => none }
def FnExactWorldRunWrongFalsely : Prop := fnExactWorldRunRow.holds Tryz.pinned (OpenSpec.ofChange fnExactWorldRunWrong)

/- THE SECOND FORM. 'bulk': how many values and letters a reading holds, each counted each time it is reached (what is shared counts as often as it is met; a slice's spare places count too). A statement '..UptoSaid' is the law's where the arguments, and the package variables that the reading takes, are together of bulk at most 1048576: NARROWER than '..Said'. Prove '..Said' where nothing that the law and all that it calls make is longer than what came in: it says more and counts as full. Else prove '..UptoSaid'. A law counts once. -/
mutual
def uptoBulk {H : Type} : DataW H → Nat
  | .lit (.string bytes) => bytes.length + 1
  | .lit _ => 1
  | .nil => 1
  | .ptr d => uptoBulk d + 1
  | .slice elems spare => uptoBulkAll elems + uptoBulkAll spare + 1
  | .agg parts => uptoBulkAll parts + 1
  | .iface _ d => uptoBulk d + 1
  | .map entries => uptoBulkEntries entries + 1
  | .held _ => 1
def uptoBulkAll {H : Type} : List (DataW H) → Nat
  | [] => 0
  | d :: r => uptoBulk d + uptoBulkAll r
def uptoBulkEntries {H : Type} : List (Lit × DataW H) → Nat
  | [] => 0
  | x :: r => uptoBulkEntry x + uptoBulkEntries r
def uptoBulkEntry {H : Type} : Lit × DataW H → Nat
  | (.string bytes, d) => bytes.length + uptoBulk d + 1
  | (_, d) => uptoBulk d + 1
 end
def uptoSmall : (H : Type) → List (DataW H) → Bool := fun _ ds => decide (uptoBulkAll ds ≤ 1048576)
def OpenSpec.upto (s : _root_.Go.ChangeSpec) : _root_.Go.OpenSpec := { _root_.Go.OpenSpec.ofChange s with cond := some uptoSmall }

/-- 'laws.FnExactWorldNew', WHERE WHAT IT READS IS OF BULK AT MOST 1048576: true; the input reads as it did. -/
def fnExactWorldNewUptoRow : OpenClaim := { program := "ytifodjnbcnbcpaagreat", sum := "a196b622942527c09161d662769b453ec55a1f930ef35604cb2b534a82f7c12d", func := "loop.example/g00189/laws.FnExactWorldNew", spec := "fnExactWorldNew", unfollowed := true, recurses := true, plainKeys := false, apart := false, narrowed := true }
def FnExactWorldNewUptoSaid : Prop := fnExactWorldNewUptoRow.holds Tryz.pinned (OpenSpec.upto fnExactWorldNewSpec)

/-- 'laws.FnExactProcStep', WHERE WHAT IT READS IS OF BULK AT MOST 1048576: true; the input reads as it did. -/
def fnExactProcStepUptoRow : OpenClaim := { program := "ytifodjnbcnbcpaagreat", sum := "a196b622942527c09161d662769b453ec55a1f930ef35604cb2b534a82f7c12d", func := "loop.example/g00189/laws.FnExactProcStep", spec := "fnExactProcStep", unfollowed := true, recurses := true, plainKeys := false, apart := false, narrowed := true }
def FnExactProcStepUptoSaid : Prop := fnExactProcStepUptoRow.holds Tryz.pinned (OpenSpec.upto fnExactProcStepSpec)

/-- 'laws.FnExactWorldDo', WHERE WHAT IT READS IS OF BULK AT MOST 1048576: true; the input reads as it did. -/
def fnExactWorldDoUptoRow : OpenClaim := { program := "ytifodjnbcnbcpaagreat", sum := "a196b622942527c09161d662769b453ec55a1f930ef35604cb2b534a82f7c12d", func := "loop.example/g00189/laws.FnExactWorldDo", spec := "fnExactWorldDo", inPlace := ["slices.overlaps[loop.example/g00189/impl.Piece]"], unfollowed := true, recurses := true, plainKeys := false, apart := false, narrowed := true }
def FnExactWorldDoUptoSaid : Prop := fnExactWorldDoUptoRow.holds Tryz.pinned (OpenSpec.upto fnExactWorldDoSpec)

/-- 'laws.FnExactRound', WHERE WHAT IT READS IS OF BULK AT MOST 1048576: true; the input reads as it did. -/
def fnExactRoundUptoRow : OpenClaim := { program := "ytifodjnbcnbcpaagreat", sum := "a196b622942527c09161d662769b453ec55a1f930ef35604cb2b534a82f7c12d", func := "loop.example/g00189/laws.FnExactRound", spec := "fnExactRound", inPlace := ["slices.overlaps[loop.example/g00189/impl.Piece]"], unfollowed := true, recurses := true, plainKeys := false, apart := false, narrowed := true }
def FnExactRoundUptoSaid : Prop := fnExactRoundUptoRow.holds Tryz.pinned (OpenSpec.upto fnExactRoundSpec)

/-- 'laws.FnExactDays', WHERE WHAT IT READS IS OF BULK AT MOST 1048576: true; the input reads as it did. -/
def fnExactDaysUptoRow : OpenClaim := { program := "ytifodjnbcnbcpaagreat", sum := "a196b622942527c09161d662769b453ec55a1f930ef35604cb2b534a82f7c12d", func := "loop.example/g00189/laws.FnExactDays", spec := "fnExactDays", inPlace := ["slices.overlaps[loop.example/g00189/impl.Piece]"], unfollowed := true, recurses := true, plainKeys := false, apart := false, narrowed := true }
def FnExactDaysUptoSaid : Prop := fnExactDaysUptoRow.holds Tryz.pinned (OpenSpec.upto fnExactDaysSpec)

/-- 'laws.FnExactWorldRun', WHERE WHAT IT READS IS OF BULK AT MOST 1048576: true; the input reads as it did. -/
def fnExactWorldRunUptoRow : OpenClaim := { program := "ytifodjnbcnbcpaagreat", sum := "a196b622942527c09161d662769b453ec55a1f930ef35604cb2b534a82f7c12d", func := "loop.example/g00189/laws.FnExactWorldRun", spec := "fnExactWorldRun", inPlace := ["slices.overlaps[loop.example/g00189/impl.Piece]"], unfollowed := true, recurses := true, plainKeys := false, apart := false, narrowed := true }
def FnExactWorldRunUptoSaid : Prop := fnExactWorldRunUptoRow.holds Tryz.pinned (OpenSpec.upto fnExactWorldRunSpec)

end Rows
end Go.Proofs.YtifodjnbcnbcpaaGreat
