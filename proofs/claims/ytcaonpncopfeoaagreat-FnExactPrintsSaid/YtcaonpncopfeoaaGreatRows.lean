/-
  No cell of these rows narrows 'for every input' (looked for: loops, veiled, ifaces, maps, wideKeys, modest, calm, conditions, laid).
  DERIVED. THE GIVEN ROWS OF THIS SEAT. 14 by the template 'for every input the law returns true; each argument reads behind the call as it read before'; 0 by the template 'total and deterministic' (their statements: YtcaonpncopfeoaaGreatTotals.lean).
  GIVEN WITH THE SEED: the statements are not yours to turn. If you find one false, say at which input.
  Laid BY PROGRAM, IN A SANDBOX (cutbox-rows.mjs): the forced cells as the released guide's own fill.sh prints them over the translation 7fb3e421681167fd… (all of the seat's roots in one cut). By AI agents, Wed Nov 11 2026. No macro, syntax, notation, axiom, sorry.
-/
import Derived.Test.YtcaonpncopfeoaaGreatChecked
import GoSem.Claim
import GoSem.ClaimJoined
import GoSem.ClaimMapViews
import Derived.JoinedTies
import Derived.KernelRfl
namespace Go.Proofs.YtcaonpncopfeoaaGreat
/- THE CELL 'sum', in the pinned program and in every row, IS THE sha256 OF THE DUMP (.gsa) THAT YtcaonpncopfeoaaGreatProg.lean LOADS. Nothing in Lean hashes anything: it is a label: what it is worth is what the hold of that sum in a sandbox is worth. -/
noncomputable def Tryz.pinned : Pinned := { name := "ytcaonpncopfeoaagreat", sum := "7fb3e421681167fd165223d7af2ef5f8027212b2dc62833a22a8b586d86c3975", checked := Tryz.checked }
namespace Rows
def none {H : Type} : Left H := { results := [], args := [] }

/-- 'laws.FnExactProcRead': WHATEVER THE INPUT: true; the input reads as it did. -/
def fnExactProcReadSpec : ChangeSpec := { name := "fnExactProcRead", fn := fun _ => fun
  | [d1, d2] => { results := [.lit (.bool true)], args := [d1, d2] }
  | _ => none }
def fnExactProcReadRow : OpenClaim := { program := "ytcaonpncopfeoaagreat", sum := "7fb3e421681167fd165223d7af2ef5f8027212b2dc62833a22a8b586d86c3975", func := "loop.example/g00189/laws.FnExactProcRead", spec := "fnExactProcRead", unfollowed := true, recurses := true, plainKeys := false, apart := false }
def FnExactProcReadSaid : Prop := fnExactProcReadRow.holds Tryz.pinned (OpenSpec.ofChange fnExactProcReadSpec)

/-- ITS FALSE NEIGHBOUR: 'it returns false'. Refute it at one input. -/
def fnExactProcReadWrong : ChangeSpec := { name := "fnExactProcRead", fn := fun _ => fun
  | [d1, d2] => { results := [.lit (.bool false)], args := [d1, d2] }
  | _ => none }
def FnExactProcReadWrongFalsely : Prop := fnExactProcReadRow.holds Tryz.pinned (OpenSpec.ofChange fnExactProcReadWrong)

/-- 'laws.FnExactWorldOk': WHATEVER THE INPUT: true; the input reads as it did. -/
def fnExactWorldOkSpec : ChangeSpec := { name := "fnExactWorldOk", fn := fun _ => fun
  | [d] => { results := [.lit (.bool true)], args := [d] }
  | _ => none }
def fnExactWorldOkRow : OpenClaim := { program := "ytcaonpncopfeoaagreat", sum := "7fb3e421681167fd165223d7af2ef5f8027212b2dc62833a22a8b586d86c3975", func := "loop.example/g00189/laws.FnExactWorldOk", spec := "fnExactWorldOk", unfollowed := true, recurses := true, plainKeys := false, apart := false }
def FnExactWorldOkSaid : Prop := fnExactWorldOkRow.holds Tryz.pinned (OpenSpec.ofChange fnExactWorldOkSpec)

/-- ITS FALSE NEIGHBOUR: 'it returns false'. Refute it at one input. -/
def fnExactWorldOkWrong : ChangeSpec := { name := "fnExactWorldOk", fn := fun _ => fun
  | [d] => { results := [.lit (.bool false)], args := [d] }
  | _ => none }
def FnExactWorldOkWrongFalsely : Prop := fnExactWorldOkRow.holds Tryz.pinned (OpenSpec.ofChange fnExactWorldOkWrong)

/-- 'laws.FnExactJudgeOrder': WHATEVER THE INPUT: true; the input reads as it did. -/
def fnExactJudgeOrderSpec : ChangeSpec := { name := "fnExactJudgeOrder", fn := fun _ => fun
  | [d] => { results := [.lit (.bool true)], args := [d] }
  | _ => none }
def fnExactJudgeOrderRow : OpenClaim := { program := "ytcaonpncopfeoaagreat", sum := "7fb3e421681167fd165223d7af2ef5f8027212b2dc62833a22a8b586d86c3975", func := "loop.example/g00189/laws.FnExactJudgeOrder", spec := "fnExactJudgeOrder", unfollowed := true, recurses := true, plainKeys := false, apart := false }
def FnExactJudgeOrderSaid : Prop := fnExactJudgeOrderRow.holds Tryz.pinned (OpenSpec.ofChange fnExactJudgeOrderSpec)

/-- ITS FALSE NEIGHBOUR: 'it returns false'. Refute it at one input. -/
def fnExactJudgeOrderWrong : ChangeSpec := { name := "fnExactJudgeOrder", fn := fun _ => fun
  | [d] => { results := [.lit (.bool false)], args := [d] }
  | _ => none }
def FnExactJudgeOrderWrongFalsely : Prop := fnExactJudgeOrderRow.holds Tryz.pinned (OpenSpec.ofChange fnExactJudgeOrderWrong)

/-- 'laws.FnExactJudgeQueue': WHATEVER THE INPUT: true; the input reads as it did. -/
def fnExactJudgeQueueSpec : ChangeSpec := { name := "fnExactJudgeQueue", fn := fun _ => fun
  | [d] => { results := [.lit (.bool true)], args := [d] }
  | _ => none }
def fnExactJudgeQueueRow : OpenClaim := { program := "ytcaonpncopfeoaagreat", sum := "7fb3e421681167fd165223d7af2ef5f8027212b2dc62833a22a8b586d86c3975", func := "loop.example/g00189/laws.FnExactJudgeQueue", spec := "fnExactJudgeQueue", unfollowed := true, recurses := true, plainKeys := false, apart := false }
def FnExactJudgeQueueSaid : Prop := fnExactJudgeQueueRow.holds Tryz.pinned (OpenSpec.ofChange fnExactJudgeQueueSpec)

/-- ITS FALSE NEIGHBOUR: 'it returns false'. Refute it at one input. -/
def fnExactJudgeQueueWrong : ChangeSpec := { name := "fnExactJudgeQueue", fn := fun _ => fun
  | [d] => { results := [.lit (.bool false)], args := [d] }
  | _ => none }
def FnExactJudgeQueueWrongFalsely : Prop := fnExactJudgeQueueRow.holds Tryz.pinned (OpenSpec.ofChange fnExactJudgeQueueWrong)

/-- 'laws.FnExactWorldNew': WHATEVER THE INPUT: true; the input reads as it did. -/
def fnExactWorldNewSpec : ChangeSpec := { name := "fnExactWorldNew", fn := fun _ => fun
  | [d1, d2] => { results := [.lit (.bool true)], args := [d1, d2] }
  | _ => none }
def fnExactWorldNewRow : OpenClaim := { program := "ytcaonpncopfeoaagreat", sum := "7fb3e421681167fd165223d7af2ef5f8027212b2dc62833a22a8b586d86c3975", func := "loop.example/g00189/laws.FnExactWorldNew", spec := "fnExactWorldNew", unfollowed := true, recurses := true, plainKeys := false, apart := false }
def FnExactWorldNewSaid : Prop := fnExactWorldNewRow.holds Tryz.pinned (OpenSpec.ofChange fnExactWorldNewSpec)

/-- ITS FALSE NEIGHBOUR: 'it returns false'. Refute it at one input. -/
def fnExactWorldNewWrong : ChangeSpec := { name := "fnExactWorldNew", fn := fun _ => fun
  | [d1, d2] => { results := [.lit (.bool false)], args := [d1, d2] }
  | _ => none }
def FnExactWorldNewWrongFalsely : Prop := fnExactWorldNewRow.holds Tryz.pinned (OpenSpec.ofChange fnExactWorldNewWrong)

/-- 'laws.FnExactPrints': WHATEVER THE INPUT: true; the input reads as it did. -/
def fnExactPrintsSpec : ChangeSpec := { name := "fnExactPrints", fn := fun _ => fun
  | [d1, d2] => { results := [.lit (.bool true)], args := [d1, d2] }
  | _ => none }
def fnExactPrintsRow : OpenClaim := { program := "ytcaonpncopfeoaagreat", sum := "7fb3e421681167fd165223d7af2ef5f8027212b2dc62833a22a8b586d86c3975", func := "loop.example/g00189/laws.FnExactPrints", spec := "fnExactPrints", unfollowed := true, recurses := true, plainKeys := false, apart := false }
def FnExactPrintsSaid : Prop := fnExactPrintsRow.holds Tryz.pinned (OpenSpec.ofChange fnExactPrintsSpec)

/-- ITS FALSE NEIGHBOUR: 'it returns false'. Refute it at one input. -/
def fnExactPrintsWrong : ChangeSpec := { name := "fnExactPrints", fn := fun _ => fun
  | [d1, d2] => { results := [.lit (.bool false)], args := [d1, d2] }
  | _ => none }
def FnExactPrintsWrongFalsely : Prop := fnExactPrintsRow.holds Tryz.pinned (OpenSpec.ofChange fnExactPrintsWrong)

/-- 'laws.FnExactWhereIs': WHATEVER THE INPUT: true; the input reads as it did. -/
def fnExactWhereIsSpec : ChangeSpec := { name := "fnExactWhereIs", fn := fun _ => fun
  | [d1, d2] => { results := [.lit (.bool true)], args := [d1, d2] }
  | _ => none }
def fnExactWhereIsRow : OpenClaim := { program := "ytcaonpncopfeoaagreat", sum := "7fb3e421681167fd165223d7af2ef5f8027212b2dc62833a22a8b586d86c3975", func := "loop.example/g00189/laws.FnExactWhereIs", spec := "fnExactWhereIs", unfollowed := true, recurses := true, plainKeys := false, apart := false }
def FnExactWhereIsSaid : Prop := fnExactWhereIsRow.holds Tryz.pinned (OpenSpec.ofChange fnExactWhereIsSpec)

/-- ITS FALSE NEIGHBOUR: 'it returns false'. Refute it at one input. -/
def fnExactWhereIsWrong : ChangeSpec := { name := "fnExactWhereIs", fn := fun _ => fun
  | [d1, d2] => { results := [.lit (.bool false)], args := [d1, d2] }
  | _ => none }
def FnExactWhereIsWrongFalsely : Prop := fnExactWhereIsRow.holds Tryz.pinned (OpenSpec.ofChange fnExactWhereIsWrong)

/-- 'laws.FnExactJudgeOnce': WHATEVER THE INPUT: true; the input reads as it did. -/
def fnExactJudgeOnceSpec : ChangeSpec := { name := "fnExactJudgeOnce", fn := fun _ => fun
  | [d] => { results := [.lit (.bool true)], args := [d] }
  | _ => none }
def fnExactJudgeOnceRow : OpenClaim := { program := "ytcaonpncopfeoaagreat", sum := "7fb3e421681167fd165223d7af2ef5f8027212b2dc62833a22a8b586d86c3975", func := "loop.example/g00189/laws.FnExactJudgeOnce", spec := "fnExactJudgeOnce", unfollowed := true, recurses := true, plainKeys := false, apart := false }
def FnExactJudgeOnceSaid : Prop := fnExactJudgeOnceRow.holds Tryz.pinned (OpenSpec.ofChange fnExactJudgeOnceSpec)

/-- ITS FALSE NEIGHBOUR: 'it returns false'. Refute it at one input. -/
def fnExactJudgeOnceWrong : ChangeSpec := { name := "fnExactJudgeOnce", fn := fun _ => fun
  | [d] => { results := [.lit (.bool false)], args := [d] }
  | _ => none }
def FnExactJudgeOnceWrongFalsely : Prop := fnExactJudgeOnceRow.holds Tryz.pinned (OpenSpec.ofChange fnExactJudgeOnceWrong)

/-- 'laws.FnExactJudgeAll': WHATEVER THE INPUT: true; the input reads as it did. -/
def fnExactJudgeAllSpec : ChangeSpec := { name := "fnExactJudgeAll", fn := fun _ => fun
  | [d] => { results := [.lit (.bool true)], args := [d] }
  | _ => none }
def fnExactJudgeAllRow : OpenClaim := { program := "ytcaonpncopfeoaagreat", sum := "7fb3e421681167fd165223d7af2ef5f8027212b2dc62833a22a8b586d86c3975", func := "loop.example/g00189/laws.FnExactJudgeAll", spec := "fnExactJudgeAll", unfollowed := true, recurses := true, plainKeys := false, apart := false }
def FnExactJudgeAllSaid : Prop := fnExactJudgeAllRow.holds Tryz.pinned (OpenSpec.ofChange fnExactJudgeAllSpec)

/-- ITS FALSE NEIGHBOUR: 'it returns false'. Refute it at one input. -/
def fnExactJudgeAllWrong : ChangeSpec := { name := "fnExactJudgeAll", fn := fun _ => fun
  | [d] => { results := [.lit (.bool false)], args := [d] }
  | _ => none }
def FnExactJudgeAllWrongFalsely : Prop := fnExactJudgeAllRow.holds Tryz.pinned (OpenSpec.ofChange fnExactJudgeAllWrong)

/-- 'laws.FnExactProcStep': WHATEVER THE INPUT: true; the input reads as it did. -/
def fnExactProcStepSpec : ChangeSpec := { name := "fnExactProcStep", fn := fun _ => fun
  | [d1, d2, d3] => { results := [.lit (.bool true)], args := [d1, d2, d3] }
  | _ => none }
def fnExactProcStepRow : OpenClaim := { program := "ytcaonpncopfeoaagreat", sum := "7fb3e421681167fd165223d7af2ef5f8027212b2dc62833a22a8b586d86c3975", func := "loop.example/g00189/laws.FnExactProcStep", spec := "fnExactProcStep", unfollowed := true, recurses := true, plainKeys := false, apart := false }
def FnExactProcStepSaid : Prop := fnExactProcStepRow.holds Tryz.pinned (OpenSpec.ofChange fnExactProcStepSpec)

/-- ITS FALSE NEIGHBOUR: 'it returns false'. Refute it at one input. -/
def fnExactProcStepWrong : ChangeSpec := { name := "fnExactProcStep", fn := fun _ => fun
  | [d1, d2, d3] => { results := [.lit (.bool false)], args := [d1, d2, d3] }
  | _ => none }
def FnExactProcStepWrongFalsely : Prop := fnExactProcStepRow.holds Tryz.pinned (OpenSpec.ofChange fnExactProcStepWrong)

/-- 'laws.FnExactWorldDo': WHATEVER THE INPUT: true; the input reads as it did. -/
def fnExactWorldDoSpec : ChangeSpec := { name := "fnExactWorldDo", fn := fun _ => fun
  | [d1, d2] => { results := [.lit (.bool true)], args := [d1, d2] }
  | _ => none }
def fnExactWorldDoRow : OpenClaim := { program := "ytcaonpncopfeoaagreat", sum := "7fb3e421681167fd165223d7af2ef5f8027212b2dc62833a22a8b586d86c3975", func := "loop.example/g00189/laws.FnExactWorldDo", spec := "fnExactWorldDo", inPlace := ["slices.overlaps[loop.example/g00189/impl.Piece]"], unfollowed := true, recurses := true, plainKeys := false, apart := false }
def FnExactWorldDoSaid : Prop := fnExactWorldDoRow.holds Tryz.pinned (OpenSpec.ofChange fnExactWorldDoSpec)

/-- ITS FALSE NEIGHBOUR: 'it returns false'. Refute it at one input. -/
def fnExactWorldDoWrong : ChangeSpec := { name := "fnExactWorldDo", fn := fun _ => fun
  | [d1, d2] => { results := [.lit (.bool false)], args := [d1, d2] }
  | _ => none }
def FnExactWorldDoWrongFalsely : Prop := fnExactWorldDoRow.holds Tryz.pinned (OpenSpec.ofChange fnExactWorldDoWrong)

/-- 'laws.FnExactRound': WHATEVER THE INPUT: true; the input reads as it did. -/
def fnExactRoundSpec : ChangeSpec := { name := "fnExactRound", fn := fun _ => fun
  | [d] => { results := [.lit (.bool true)], args := [d] }
  | _ => none }
def fnExactRoundRow : OpenClaim := { program := "ytcaonpncopfeoaagreat", sum := "7fb3e421681167fd165223d7af2ef5f8027212b2dc62833a22a8b586d86c3975", func := "loop.example/g00189/laws.FnExactRound", spec := "fnExactRound", inPlace := ["slices.overlaps[loop.example/g00189/impl.Piece]"], unfollowed := true, recurses := true, plainKeys := false, apart := false }
def FnExactRoundSaid : Prop := fnExactRoundRow.holds Tryz.pinned (OpenSpec.ofChange fnExactRoundSpec)

/-- ITS FALSE NEIGHBOUR: 'it returns false'. Refute it at one input. -/
def fnExactRoundWrong : ChangeSpec := { name := "fnExactRound", fn := fun _ => fun
  | [d] => { results := [.lit (.bool false)], args := [d] }
  | _ => none }
def FnExactRoundWrongFalsely : Prop := fnExactRoundRow.holds Tryz.pinned (OpenSpec.ofChange fnExactRoundWrong)

/-- 'laws.FnExactDays': WHATEVER THE INPUT: true; the input reads as it did. -/
def fnExactDaysSpec : ChangeSpec := { name := "fnExactDays", fn := fun _ => fun
  | [d1, d2] => { results := [.lit (.bool true)], args := [d1, d2] }
  | _ => none }
def fnExactDaysRow : OpenClaim := { program := "ytcaonpncopfeoaagreat", sum := "7fb3e421681167fd165223d7af2ef5f8027212b2dc62833a22a8b586d86c3975", func := "loop.example/g00189/laws.FnExactDays", spec := "fnExactDays", inPlace := ["slices.overlaps[loop.example/g00189/impl.Piece]"], unfollowed := true, recurses := true, plainKeys := false, apart := false }
def FnExactDaysSaid : Prop := fnExactDaysRow.holds Tryz.pinned (OpenSpec.ofChange fnExactDaysSpec)

/-- ITS FALSE NEIGHBOUR: 'it returns false'. Refute it at one input. -/
def fnExactDaysWrong : ChangeSpec := { name := "fnExactDays", fn := fun _ => fun
  | [d1, d2] => { results := [.lit (.bool false)], args := [d1, d2] }
  | _ => none }
def FnExactDaysWrongFalsely : Prop := fnExactDaysRow.holds Tryz.pinned (OpenSpec.ofChange fnExactDaysWrong)

/-- 'laws.FnExactWorldRun': WHATEVER THE INPUT: true; the input reads as it did. -/
def fnExactWorldRunSpec : ChangeSpec := { name := "fnExactWorldRun", fn := fun _ => fun
  | [d1, d2] => { results := [.lit (.bool true)], args := [d1, d2] }
  | _ => none }
def fnExactWorldRunRow : OpenClaim := { program := "ytcaonpncopfeoaagreat", sum := "7fb3e421681167fd165223d7af2ef5f8027212b2dc62833a22a8b586d86c3975", func := "loop.example/g00189/laws.FnExactWorldRun", spec := "fnExactWorldRun", inPlace := ["slices.overlaps[loop.example/g00189/impl.Piece]"], unfollowed := true, recurses := true, plainKeys := false, apart := false }
def FnExactWorldRunSaid : Prop := fnExactWorldRunRow.holds Tryz.pinned (OpenSpec.ofChange fnExactWorldRunSpec)

/-- ITS FALSE NEIGHBOUR: 'it returns false'. Refute it at one input. -/
def fnExactWorldRunWrong : ChangeSpec := { name := "fnExactWorldRun", fn := fun _ => fun
  | [d1, d2] => { results := [.lit (.bool false)], args := [d1, d2] }
  | _ => none }
def FnExactWorldRunWrongFalsely : Prop := fnExactWorldRunRow.holds Tryz.pinned (OpenSpec.ofChange fnExactWorldRunWrong)

/- THE SECOND FORM. 'bulk': how many values and letters a reading holds, each counted each time it is reached (what is shared counts as often as it is met; a slice's spare places count too). A statement '..UptoSaid' is the law's where the arguments, and the package variables that the reading takes, are together of bulk at most 1048576: NARROWER than '..Said'. Prove '..Said' where nothing that the law and all that it calls make is longer than what came in: it says more and counts as full. Else prove '..UptoSaid'. A law counts once. -/
mutual
def uptoBulk {H : Type} : DataW H → Nat
  | .lit (.string bytes) => bytes.length + 1
  | .lit _ => 1
  | .nil => 1
  | .ptr d => uptoBulk d + 1
  | .slice elems spare => uptoBulkAll elems + uptoBulkAll spare + 1
  | .agg parts => uptoBulkAll parts + 1
  | .iface _ d => uptoBulk d + 1
  | .map entries => uptoBulkEntries entries + 1
  | .held _ => 1
def uptoBulkAll {H : Type} : List (DataW H) → Nat
  | [] => 0
  | d :: r => uptoBulk d + uptoBulkAll r
def uptoBulkEntries {H : Type} : List (Lit × DataW H) → Nat
  | [] => 0
  | x :: r => uptoBulkEntry x + uptoBulkEntries r
def uptoBulkEntry {H : Type} : Lit × DataW H → Nat
  | (.string bytes, d) => bytes.length + uptoBulk d + 1
  | (_, d) => uptoBulk d + 1
 end
def uptoSmall : (H : Type) → List (DataW H) → Bool := fun _ ds => decide (uptoBulkAll ds ≤ 1048576)
def OpenSpec.upto (s : _root_.Go.ChangeSpec) : _root_.Go.OpenSpec := { _root_.Go.OpenSpec.ofChange s with cond := some uptoSmall }

/-- 'laws.FnExactProcRead', WHERE WHAT IT READS IS OF BULK AT MOST 1048576: true; the input reads as it did. -/
def fnExactProcReadUptoRow : OpenClaim := { program := "ytcaonpncopfeoaagreat", sum := "7fb3e421681167fd165223d7af2ef5f8027212b2dc62833a22a8b586d86c3975", func := "loop.example/g00189/laws.FnExactProcRead", spec := "fnExactProcRead", unfollowed := true, recurses := true, plainKeys := false, apart := false, narrowed := true }
def FnExactProcReadUptoSaid : Prop := fnExactProcReadUptoRow.holds Tryz.pinned (OpenSpec.upto fnExactProcReadSpec)

/-- 'laws.FnExactWorldOk', WHERE WHAT IT READS IS OF BULK AT MOST 1048576: true; the input reads as it did. -/
def fnExactWorldOkUptoRow : OpenClaim := { program := "ytcaonpncopfeoaagreat", sum := "7fb3e421681167fd165223d7af2ef5f8027212b2dc62833a22a8b586d86c3975", func := "loop.example/g00189/laws.FnExactWorldOk", spec := "fnExactWorldOk", unfollowed := true, recurses := true, plainKeys := false, apart := false, narrowed := true }
def FnExactWorldOkUptoSaid : Prop := fnExactWorldOkUptoRow.holds Tryz.pinned (OpenSpec.upto fnExactWorldOkSpec)

/-- 'laws.FnExactJudgeOrder', WHERE WHAT IT READS IS OF BULK AT MOST 1048576: true; the input reads as it did. -/
def fnExactJudgeOrderUptoRow : OpenClaim := { program := "ytcaonpncopfeoaagreat", sum := "7fb3e421681167fd165223d7af2ef5f8027212b2dc62833a22a8b586d86c3975", func := "loop.example/g00189/laws.FnExactJudgeOrder", spec := "fnExactJudgeOrder", unfollowed := true, recurses := true, plainKeys := false, apart := false, narrowed := true }
def FnExactJudgeOrderUptoSaid : Prop := fnExactJudgeOrderUptoRow.holds Tryz.pinned (OpenSpec.upto fnExactJudgeOrderSpec)

/-- 'laws.FnExactJudgeQueue', WHERE WHAT IT READS IS OF BULK AT MOST 1048576: true; the input reads as it did. -/
def fnExactJudgeQueueUptoRow : OpenClaim := { program := "ytcaonpncopfeoaagreat", sum := "7fb3e421681167fd165223d7af2ef5f8027212b2dc62833a22a8b586d86c3975", func := "loop.example/g00189/laws.FnExactJudgeQueue", spec := "fnExactJudgeQueue", unfollowed := true, recurses := true, plainKeys := false, apart := false, narrowed := true }
def FnExactJudgeQueueUptoSaid : Prop := fnExactJudgeQueueUptoRow.holds Tryz.pinned (OpenSpec.upto fnExactJudgeQueueSpec)

/-- 'laws.FnExactWorldNew', WHERE WHAT IT READS IS OF BULK AT MOST 1048576: true; the input reads as it did. -/
def fnExactWorldNewUptoRow : OpenClaim := { program := "ytcaonpncopfeoaagreat", sum := "7fb3e421681167fd165223d7af2ef5f8027212b2dc62833a22a8b586d86c3975", func := "loop.example/g00189/laws.FnExactWorldNew", spec := "fnExactWorldNew", unfollowed := true, recurses := true, plainKeys := false, apart := false, narrowed := true }
def FnExactWorldNewUptoSaid : Prop := fnExactWorldNewUptoRow.holds Tryz.pinned (OpenSpec.upto fnExactWorldNewSpec)

/-- 'laws.FnExactPrints', WHERE WHAT IT READS IS OF BULK AT MOST 1048576: true; the input reads as it did. -/
def fnExactPrintsUptoRow : OpenClaim := { program := "ytcaonpncopfeoaagreat", sum := "7fb3e421681167fd165223d7af2ef5f8027212b2dc62833a22a8b586d86c3975", func := "loop.example/g00189/laws.FnExactPrints", spec := "fnExactPrints", unfollowed := true, recurses := true, plainKeys := false, apart := false, narrowed := true }
def FnExactPrintsUptoSaid : Prop := fnExactPrintsUptoRow.holds Tryz.pinned (OpenSpec.upto fnExactPrintsSpec)

/-- 'laws.FnExactWhereIs', WHERE WHAT IT READS IS OF BULK AT MOST 1048576: true; the input reads as it did. -/
def fnExactWhereIsUptoRow : OpenClaim := { program := "ytcaonpncopfeoaagreat", sum := "7fb3e421681167fd165223d7af2ef5f8027212b2dc62833a22a8b586d86c3975", func := "loop.example/g00189/laws.FnExactWhereIs", spec := "fnExactWhereIs", unfollowed := true, recurses := true, plainKeys := false, apart := false, narrowed := true }
def FnExactWhereIsUptoSaid : Prop := fnExactWhereIsUptoRow.holds Tryz.pinned (OpenSpec.upto fnExactWhereIsSpec)

/-- 'laws.FnExactJudgeOnce', WHERE WHAT IT READS IS OF BULK AT MOST 1048576: true; the input reads as it did. -/
def fnExactJudgeOnceUptoRow : OpenClaim := { program := "ytcaonpncopfeoaagreat", sum := "7fb3e421681167fd165223d7af2ef5f8027212b2dc62833a22a8b586d86c3975", func := "loop.example/g00189/laws.FnExactJudgeOnce", spec := "fnExactJudgeOnce", unfollowed := true, recurses := true, plainKeys := false, apart := false, narrowed := true }
def FnExactJudgeOnceUptoSaid : Prop := fnExactJudgeOnceUptoRow.holds Tryz.pinned (OpenSpec.upto fnExactJudgeOnceSpec)

/-- 'laws.FnExactJudgeAll', WHERE WHAT IT READS IS OF BULK AT MOST 1048576: true; the input reads as it did. -/
def fnExactJudgeAllUptoRow : OpenClaim := { program := "ytcaonpncopfeoaagreat", sum := "7fb3e421681167fd165223d7af2ef5f8027212b2dc62833a22a8b586d86c3975", func := "loop.example/g00189/laws.FnExactJudgeAll", spec := "fnExactJudgeAll", unfollowed := true, recurses := true, plainKeys := false, apart := false, narrowed := true }
def FnExactJudgeAllUptoSaid : Prop := fnExactJudgeAllUptoRow.holds Tryz.pinned (OpenSpec.upto fnExactJudgeAllSpec)

/-- 'laws.FnExactProcStep', WHERE WHAT IT READS IS OF BULK AT MOST 1048576: true; the input reads as it did. -/
def fnExactProcStepUptoRow : OpenClaim := { program := "ytcaonpncopfeoaagreat", sum := "7fb3e421681167fd165223d7af2ef5f8027212b2dc62833a22a8b586d86c3975", func := "loop.example/g00189/laws.FnExactProcStep", spec := "fnExactProcStep", unfollowed := true, recurses := true, plainKeys := false, apart := false, narrowed := true }
def FnExactProcStepUptoSaid : Prop := fnExactProcStepUptoRow.holds Tryz.pinned (OpenSpec.upto fnExactProcStepSpec)

/-- 'laws.FnExactWorldDo', WHERE WHAT IT READS IS OF BULK AT MOST 1048576: true; the input reads as it did. -/
def fnExactWorldDoUptoRow : OpenClaim := { program := "ytcaonpncopfeoaagreat", sum := "7fb3e421681167fd165223d7af2ef5f8027212b2dc62833a22a8b586d86c3975", func := "loop.example/g00189/laws.FnExactWorldDo", spec := "fnExactWorldDo", inPlace := ["slices.overlaps[loop.example/g00189/impl.Piece]"], unfollowed := true, recurses := true, plainKeys := false, apart := false, narrowed := true }
def FnExactWorldDoUptoSaid : Prop := fnExactWorldDoUptoRow.holds Tryz.pinned (OpenSpec.upto fnExactWorldDoSpec)

/-- 'laws.FnExactRound', WHERE WHAT IT READS IS OF BULK AT MOST 1048576: true; the input reads as it did. -/
def fnExactRoundUptoRow : OpenClaim := { program := "ytcaonpncopfeoaagreat", sum := "7fb3e421681167fd165223d7af2ef5f8027212b2dc62833a22a8b586d86c3975", func := "loop.example/g00189/laws.FnExactRound", spec := "fnExactRound", inPlace := ["slices.overlaps[loop.example/g00189/impl.Piece]"], unfollowed := true, recurses := true, plainKeys := false, apart := false, narrowed := true }
def FnExactRoundUptoSaid : Prop := fnExactRoundUptoRow.holds Tryz.pinned (OpenSpec.upto fnExactRoundSpec)

/-- 'laws.FnExactDays', WHERE WHAT IT READS IS OF BULK AT MOST 1048576: true; the input reads as it did. -/
def fnExactDaysUptoRow : OpenClaim := { program := "ytcaonpncopfeoaagreat", sum := "7fb3e421681167fd165223d7af2ef5f8027212b2dc62833a22a8b586d86c3975", func := "loop.example/g00189/laws.FnExactDays", spec := "fnExactDays", inPlace := ["slices.overlaps[loop.example/g00189/impl.Piece]"], unfollowed := true, recurses := true, plainKeys := false, apart := false, narrowed := true }
def FnExactDaysUptoSaid : Prop := fnExactDaysUptoRow.holds Tryz.pinned (OpenSpec.upto fnExactDaysSpec)

/-- 'laws.FnExactWorldRun', WHERE WHAT IT READS IS OF BULK AT MOST 1048576: true; the input reads as it did. -/
def fnExactWorldRunUptoRow : OpenClaim := { program := "ytcaonpncopfeoaagreat", sum := "7fb3e421681167fd165223d7af2ef5f8027212b2dc62833a22a8b586d86c3975", func := "loop.example/g00189/laws.FnExactWorldRun", spec := "fnExactWorldRun", inPlace := ["slices.overlaps[loop.example/g00189/impl.Piece]"], unfollowed := true, recurses := true, plainKeys := false, apart := false, narrowed := true }
def FnExactWorldRunUptoSaid : Prop := fnExactWorldRunUptoRow.holds Tryz.pinned (OpenSpec.upto fnExactWorldRunSpec)

end Rows
end Go.Proofs.YtcaonpncopfeoaaGreat
