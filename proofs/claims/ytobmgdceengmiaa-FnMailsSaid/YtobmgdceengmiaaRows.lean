/-
  No cell of these rows narrows 'for every input' (looked for: loops, veiled, ifaces, maps, wideKeys, modest, calm, conditions, laid).
  DERIVED. THE GIVEN ROWS OF THIS SEAT. 6 by the template 'for every input the law returns true; each argument reads behind the call as it read before'; 0 by the template 'total and deterministic' (their statements: YtobmgdceengmiaaTotals.lean).
  GIVEN WITH THE SEED: the statements are not yours to turn. If you find one false, say at which input.
  Laid BY PROGRAM, IN A SANDBOX (cutbox-rows.mjs): the forced cells as the released guide's own fill.sh prints them over the translation 016afa36f71d6193… (all of the seat's roots in one cut). By AI agents, Wed Nov 11 2026. No macro, syntax, notation, axiom, sorry.
-/
import Derived.Test.YtobmgdceengmiaaChecked
import GoSem.Claim
import GoSem.ClaimJoined
import GoSem.ClaimMapViews
import Derived.JoinedTies
import Derived.KernelRfl
namespace Go.Proofs.Ytobmgdceengmiaa
/- THE CELL 'sum', in the pinned program and in every row, IS THE sha256 OF THE DUMP (.gsa) THAT YtobmgdceengmiaaProg.lean LOADS. Nothing in Lean hashes anything: it is a label: what it is worth is what the hold of that sum in a sandbox is worth. -/
noncomputable def Try.pinned : Pinned := { name := "ytobmgdceengmiaa", sum := "016afa36f71d61938bc09d21c6097104289fc58794259c2dafdc7992cd1c1d53", checked := Try.checked }
namespace Rows
def none {H : Type} : Left H := { results := [], args := [] }

/-- 'laws.FnExactMailMove': WHATEVER THE INPUT: true; the input reads as it did. -/
def fnExactMailMoveSpec : ChangeSpec := { name := "fnExactMailMove", fn := fun _ => fun
  | [d] => { results := [.lit (.bool true)], args := [d] }
  | _ => none }
def fnExactMailMoveRow : OpenClaim := { program := "ytobmgdceengmiaa", sum := "016afa36f71d61938bc09d21c6097104289fc58794259c2dafdc7992cd1c1d53", func := "loop.example/g00189/laws.FnExactMailMove", spec := "fnExactMailMove", apart := false }
def FnExactMailMoveSaid : Prop := fnExactMailMoveRow.holds Try.pinned (OpenSpec.ofChange fnExactMailMoveSpec)

/-- ITS FALSE NEIGHBOUR: 'it returns false'. Refute it at one input. -/
def fnExactMailMoveWrong : ChangeSpec := { name := "fnExactMailMove", fn := fun _ => fun
  | [d] => { results := [.lit (.bool false)], args := [d] }
  | _ => none }
def FnExactMailMoveWrongFalsely : Prop := fnExactMailMoveRow.holds Try.pinned (OpenSpec.ofChange fnExactMailMoveWrong)

/-- 'laws.FnExactDeedOk': WHATEVER THE INPUT: true; the input reads as it did. -/
def fnExactDeedOkSpec : ChangeSpec := { name := "fnExactDeedOk", fn := fun _ => fun
  | [d] => { results := [.lit (.bool true)], args := [d] }
  | _ => none }
def fnExactDeedOkRow : OpenClaim := { program := "ytobmgdceengmiaa", sum := "016afa36f71d61938bc09d21c6097104289fc58794259c2dafdc7992cd1c1d53", func := "loop.example/g00189/laws.FnExactDeedOk", spec := "fnExactDeedOk", apart := false }
def FnExactDeedOkSaid : Prop := fnExactDeedOkRow.holds Try.pinned (OpenSpec.ofChange fnExactDeedOkSpec)

/-- ITS FALSE NEIGHBOUR: 'it returns false'. Refute it at one input. -/
def fnExactDeedOkWrong : ChangeSpec := { name := "fnExactDeedOk", fn := fun _ => fun
  | [d] => { results := [.lit (.bool false)], args := [d] }
  | _ => none }
def FnExactDeedOkWrongFalsely : Prop := fnExactDeedOkRow.holds Try.pinned (OpenSpec.ofChange fnExactDeedOkWrong)

/-- 'laws.FnExactMailWord': WHATEVER THE INPUT: true; the input reads as it did. -/
def fnExactMailWordSpec : ChangeSpec := { name := "fnExactMailWord", fn := fun _ => fun
  | [d1, d2] => { results := [.lit (.bool true)], args := [d1, d2] }
  | _ => none }
def fnExactMailWordRow : OpenClaim := { program := "ytobmgdceengmiaa", sum := "016afa36f71d61938bc09d21c6097104289fc58794259c2dafdc7992cd1c1d53", func := "loop.example/g00189/laws.FnExactMailWord", spec := "fnExactMailWord", apart := false }
def FnExactMailWordSaid : Prop := fnExactMailWordRow.holds Try.pinned (OpenSpec.ofChange fnExactMailWordSpec)

/-- ITS FALSE NEIGHBOUR: 'it returns false'. Refute it at one input. -/
def fnExactMailWordWrong : ChangeSpec := { name := "fnExactMailWord", fn := fun _ => fun
  | [d1, d2] => { results := [.lit (.bool false)], args := [d1, d2] }
  | _ => none }
def FnExactMailWordWrongFalsely : Prop := fnExactMailWordRow.holds Try.pinned (OpenSpec.ofChange fnExactMailWordWrong)

/-- 'laws.FnExactDeedLine': WHATEVER THE INPUT: true; the input reads as it did. -/
def fnExactDeedLineSpec : ChangeSpec := { name := "fnExactDeedLine", fn := fun _ => fun
  | [d] => { results := [.lit (.bool true)], args := [d] }
  | _ => none }
def fnExactDeedLineRow : OpenClaim := { program := "ytobmgdceengmiaa", sum := "016afa36f71d61938bc09d21c6097104289fc58794259c2dafdc7992cd1c1d53", func := "loop.example/g00189/laws.FnExactDeedLine", spec := "fnExactDeedLine", recurses := true, apart := false }
def FnExactDeedLineSaid : Prop := fnExactDeedLineRow.holds Try.pinned (OpenSpec.ofChange fnExactDeedLineSpec)

/-- ITS FALSE NEIGHBOUR: 'it returns false'. Refute it at one input. -/
def fnExactDeedLineWrong : ChangeSpec := { name := "fnExactDeedLine", fn := fun _ => fun
  | [d] => { results := [.lit (.bool false)], args := [d] }
  | _ => none }
def FnExactDeedLineWrongFalsely : Prop := fnExactDeedLineRow.holds Try.pinned (OpenSpec.ofChange fnExactDeedLineWrong)

/-- 'laws.FnExactMailRead': WHATEVER THE INPUT: true; the input reads as it did. -/
def fnExactMailReadSpec : ChangeSpec := { name := "fnExactMailRead", fn := fun _ => fun
  | [d] => { results := [.lit (.bool true)], args := [d] }
  | _ => none }
def fnExactMailReadRow : OpenClaim := { program := "ytobmgdceengmiaa", sum := "016afa36f71d61938bc09d21c6097104289fc58794259c2dafdc7992cd1c1d53", func := "loop.example/g00189/laws.FnExactMailRead", spec := "fnExactMailRead", apart := false }
def FnExactMailReadSaid : Prop := fnExactMailReadRow.holds Try.pinned (OpenSpec.ofChange fnExactMailReadSpec)

/-- ITS FALSE NEIGHBOUR: 'it returns false'. Refute it at one input. -/
def fnExactMailReadWrong : ChangeSpec := { name := "fnExactMailRead", fn := fun _ => fun
  | [d] => { results := [.lit (.bool false)], args := [d] }
  | _ => none }
def FnExactMailReadWrongFalsely : Prop := fnExactMailReadRow.holds Try.pinned (OpenSpec.ofChange fnExactMailReadWrong)

/-- 'laws.FnMails': WHATEVER THE INPUT: true; the input reads as it did. -/
def fnMailsSpec : ChangeSpec := { name := "fnMails", fn := fun _ => fun
  | [d] => { results := [.lit (.bool true)], args := [d] }
  | _ => none }
def fnMailsRow : OpenClaim := { program := "ytobmgdceengmiaa", sum := "016afa36f71d61938bc09d21c6097104289fc58794259c2dafdc7992cd1c1d53", func := "loop.example/g00189/laws.FnMails", spec := "fnMails", apart := false }
def FnMailsSaid : Prop := fnMailsRow.holds Try.pinned (OpenSpec.ofChange fnMailsSpec)

/-- ITS FALSE NEIGHBOUR: 'it returns false'. Refute it at one input. -/
def fnMailsWrong : ChangeSpec := { name := "fnMails", fn := fun _ => fun
  | [d] => { results := [.lit (.bool false)], args := [d] }
  | _ => none }
def FnMailsWrongFalsely : Prop := fnMailsRow.holds Try.pinned (OpenSpec.ofChange fnMailsWrong)

/- THE SECOND FORM. 'bulk': how many values and letters a reading holds, each counted each time it is reached (what is shared counts as often as it is met; a slice's spare places count too). A statement '..UptoSaid' is the law's where the arguments, and the package variables that the reading takes, are together of bulk at most 1048576: NARROWER than '..Said'. Prove '..Said' where nothing that the law and all that it calls make is longer than what came in: it says more and counts as full. Else prove '..UptoSaid'. A law counts once. -/
mutual
def uptoBulk {H : Type} : DataW H → Nat
  | .lit (.string bytes) => bytes.length + 1
  | .lit _ => 1
  | .nil => 1
  | .ptr d => uptoBulk d + 1
  | .slice elems spare => uptoBulkAll elems + uptoBulkAll spare + 1
  | .agg parts => uptoBulkAll parts + 1
  | .iface _ d => uptoBulk d + 1
  | .map entries => uptoBulkEntries entries + 1
  | .held _ => 1
def uptoBulkAll {H : Type} : List (DataW H) → Nat
  | [] => 0
  | d :: r => uptoBulk d + uptoBulkAll r
def uptoBulkEntries {H : Type} : List (Lit × DataW H) → Nat
  | [] => 0
  | x :: r => uptoBulkEntry x + uptoBulkEntries r
def uptoBulkEntry {H : Type} : Lit × DataW H → Nat
  | (.string bytes, d) => bytes.length + uptoBulk d + 1
  | (_, d) => uptoBulk d + 1
 end
def uptoSmall : (H : Type) → List (DataW H) → Bool := fun _ ds => decide (uptoBulkAll ds ≤ 1048576)
def OpenSpec.upto (s : _root_.Go.ChangeSpec) : _root_.Go.OpenSpec := { _root_.Go.OpenSpec.ofChange s with cond := some uptoSmall }

/-- 'laws.FnExactMailMove', WHERE WHAT IT READS IS OF BULK AT MOST 1048576: true; the input reads as it did. -/
def fnExactMailMoveUptoRow : OpenClaim := { program := "ytobmgdceengmiaa", sum := "016afa36f71d61938bc09d21c6097104289fc58794259c2dafdc7992cd1c1d53", func := "loop.example/g00189/laws.FnExactMailMove", spec := "fnExactMailMove", apart := false, narrowed := true }
def FnExactMailMoveUptoSaid : Prop := fnExactMailMoveUptoRow.holds Try.pinned (OpenSpec.upto fnExactMailMoveSpec)

/-- 'laws.FnExactDeedOk', WHERE WHAT IT READS IS OF BULK AT MOST 1048576: true; the input reads as it did. -/
def fnExactDeedOkUptoRow : OpenClaim := { program := "ytobmgdceengmiaa", sum := "016afa36f71d61938bc09d21c6097104289fc58794259c2dafdc7992cd1c1d53", func := "loop.example/g00189/laws.FnExactDeedOk", spec := "fnExactDeedOk", apart := false, narrowed := true }
def FnExactDeedOkUptoSaid : Prop := fnExactDeedOkUptoRow.holds Try.pinned (OpenSpec.upto fnExactDeedOkSpec)

/-- 'laws.FnExactMailWord', WHERE WHAT IT READS IS OF BULK AT MOST 1048576: true; the input reads as it did. -/
def fnExactMailWordUptoRow : OpenClaim := { program := "ytobmgdceengmiaa", sum := "016afa36f71d61938bc09d21c6097104289fc58794259c2dafdc7992cd1c1d53", func := "loop.example/g00189/laws.FnExactMailWord", spec := "fnExactMailWord", apart := false, narrowed := true }
def FnExactMailWordUptoSaid : Prop := fnExactMailWordUptoRow.holds Try.pinned (OpenSpec.upto fnExactMailWordSpec)

/-- 'laws.FnExactDeedLine', WHERE WHAT IT READS IS OF BULK AT MOST 1048576: true; the input reads as it did. -/
def fnExactDeedLineUptoRow : OpenClaim := { program := "ytobmgdceengmiaa", sum := "016afa36f71d61938bc09d21c6097104289fc58794259c2dafdc7992cd1c1d53", func := "loop.example/g00189/laws.FnExactDeedLine", spec := "fnExactDeedLine", recurses := true, apart := false, narrowed := true }
def FnExactDeedLineUptoSaid : Prop := fnExactDeedLineUptoRow.holds Try.pinned (OpenSpec.upto fnExactDeedLineSpec)

/-- 'laws.FnExactMailRead', WHERE WHAT IT READS IS OF BULK AT MOST 1048576: true; the input reads as it did. -/
def fnExactMailReadUptoRow : OpenClaim := { program := "ytobmgdceengmiaa", sum := "016afa36f71d61938bc09d21c6097104289fc58794259c2dafdc7992cd1c1d53", func := "loop.example/g00189/laws.FnExactMailRead", spec := "fnExactMailRead", apart := false, narrowed := true }
def FnExactMailReadUptoSaid : Prop := fnExactMailReadUptoRow.holds Try.pinned (OpenSpec.upto fnExactMailReadSpec)

/-- 'laws.FnMails', WHERE WHAT IT READS IS OF BULK AT MOST 1048576: true; the input reads as it did. -/
def fnMailsUptoRow : OpenClaim := { program := "ytobmgdceengmiaa", sum := "016afa36f71d61938bc09d21c6097104289fc58794259c2dafdc7992cd1c1d53", func := "loop.example/g00189/laws.FnMails", spec := "fnMails", apart := false, narrowed := true }
def FnMailsUptoSaid : Prop := fnMailsUptoRow.holds Try.pinned (OpenSpec.upto fnMailsSpec)

end Rows
end Go.Proofs.Ytobmgdceengmiaa
