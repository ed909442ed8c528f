/- The data of the laws: structures, their cells, their sizes. (printed by wip/tools/fam.py) -/
import Derived.Test.YtcaonpncopfeoaaGreatM5
set_option linter.unusedVariables false
set_option linter.unusedSimpArgs false
namespace Go.Proofs.YtcaonpncopfeoaaGreat.V
open Go

@[reducible] def ssC (ss : List ByteArray) : List (List C) := ss.map fun s => [.sc (.string s)]
@[reducible] def sssC (l : List (List ByteArray)) : List (List C) := l.map fun ss => [.sl true 1 (ssC ss)]
def szL {α : Type} (f : α → Int) : List α → Int
  | [] => 0
  | x :: r => f x + szL f r
def szB (s : ByteArray) : Int := s.size
def szS (l : List ByteArray) : Int := l.length + szL szB l
def szSS (l : List (List ByteArray)) : Int := l.length + szL szS l
theorem szL_nonneg {α : Type} {f : α → Int} (h : ∀ x, 0 ≤ f x) (l : List α) : 0 ≤ szL f l := by
  induction l with
  | nil => exact Int.le_refl 0
  | cons x r ih => have := h x; simp only [szL]; omega
theorem szB_nonneg (s : ByteArray) : 0 ≤ szB s := by unfold szB; omega
theorem szS_nonneg (l : List ByteArray) : 0 ≤ szS l := by have := szL_nonneg szB_nonneg l; unfold szS; omega
theorem szSS_nonneg (l : List (List ByteArray)) : 0 ≤ szSS l := by have := szL_nonneg szS_nonneg l; unfold szSS; omega
theorem szS_len (l : List ByteArray) : (l.length : Int) ≤ szS l := by have := szL_nonneg szB_nonneg l; unfold szS; omega
theorem szSS_len (l : List (List ByteArray)) : (l.length : Int) ≤ szSS l := by have := szL_nonneg szS_nonneg l; unfold szSS; omega
theorem szL_app {α : Type} {f : α → Int} (a b : List α) : szL f (a ++ b) = szL f a + szL f b := by
  induction a with
  | nil => simp [szL]
  | cons x r ih => simp only [List.cons_append, szL, ih]; omega
theorem szL_take {α : Type} {f : α → Int} (h : ∀ x, 0 ≤ f x) (l : List α) (k : Nat) : szL f (l.take k) ≤ szL f l := by
  have e := szL_app (f := f) (l.take k) (l.drop k)
  rw [List.take_append_drop] at e
  have := szL_nonneg h (l.drop k)
  omega
theorem szL_succ {α : Type} {f : α → Int} {l : List α} {k : Nat} {x : α} (h : l[k]? = some x) : szL f (l.take (k + 1)) = szL f (l.take k) + f x := by
  rw [List.take_add_one, h, szL_app]
  simp [szL]
theorem szL_mem {α : Type} {f : α → Int} (h : ∀ x, 0 ≤ f x) {l : List α} {x : α} (hx : x ∈ l) : f x ≤ szL f l := by
  induction l with
  | nil => cases hx
  | cons y r ih =>
    have h1 := h y
    have h2 := szL_nonneg h r
    simp only [szL]
    cases hx with
    | head => omega
    | tail _ hx => have := ih hx; omega
theorem szSS_mem {l : List (List ByteArray)} {x : List ByteArray} (hx : x ∈ l) : (x.length : Int) ≤ szSS l := by have h := szL_mem szS_nonneg hx; have := szS_len x; unfold szSS; omega
/-- What is left of a size. -/
def szR (n left : Int) : Int := if left < n then -1 else left - n
theorem szR_neg {n left : Int} (h : left < n) : szR n left = -1 := by unfold szR; rw [if_pos h]
theorem szR_pos {n left : Int} (h : n ≤ left) : szR n left = left - n := by unfold szR; rw [if_neg (by omega)]
theorem szR_lt {n left : Int} (hn : 0 ≤ left) : szR n left < 0 ↔ left < n := by unfold szR; split <;> omega

structure DNode where
  xKind : Int
  xN : Int
  xS : ByteArray
  xA : Int
  xB : Int
@[reducible] def DNode.c (a : DNode) : List C := [.sc (.int .i64 a.xKind), .sc (.int .i64 a.xN), .sc (.string a.xS), .sc (.int .i64 a.xA), .sc (.int .i64 a.xB)]
@[reducible] def DNode.r (a : DNode) : RV := ⟨true, [.rd (.sc (.int .i64 a.xKind)), .rd (.sc (.int .i64 a.xN)), .rd (.sc (.string a.xS)), .rd (.sc (.int .i64 a.xA)), .rd (.sc (.int .i64 a.xB))]⟩
@[reducible] def DNode.x (a : DNode) : List X := [.sc (.int .i64 a.xKind), .sc (.int .i64 a.xN), .sc (.string a.xS), .sc (.int .i64 a.xA), .sc (.int .i64 a.xB)]
def DNode.sz (a : DNode) : Int := (a.xS.size : Int)
def DNode.ok (a : DNode) : Prop := (-9223372036854775808 ≤ a.xKind ∧ a.xKind ≤ 9223372036854775807) ∧ (-9223372036854775808 ≤ a.xN ∧ a.xN ≤ 9223372036854775807) ∧ a.xS.size ≤ 9223372036854775807 ∧ (-9223372036854775808 ≤ a.xA ∧ a.xA ≤ 9223372036854775807) ∧ (-9223372036854775808 ≤ a.xB ∧ a.xB ≤ 9223372036854775807)
theorem DNode.sz_nonneg (a : DNode) : 0 ≤ a.sz := by
  unfold DNode.sz
  omega

structure DPool where
  xNodes : List DNode
@[reducible] def DPool.c (a : DPool) : List C := [.sl true 5 (a.xNodes.map DNode.c)]
@[reducible] def DPool.r (a : DPool) : RV := ⟨true, [.own true 5 (a.xNodes.map DNode.c)]⟩
@[reducible] def DPool.x (a : DPool) : List X := [.rd none 5 (a.xNodes.map DNode.c)]
def DPool.sz (a : DPool) : Int := ((a.xNodes.length : Int) + szL DNode.sz a.xNodes)
def DPool.ok (a : DPool) : Prop := (a.xNodes.length ≤ 9223372036854775807 ∧ ∀ y ∈ a.xNodes, y.ok)
theorem DPool.sz_nonneg (a : DPool) : 0 ≤ a.sz := by
  have := szL_nonneg DNode.sz_nonneg a.xNodes
  unfold DPool.sz
  omega

structure DInstr where
  xOp : Int
  xN : Int
  xI : Int
  xS : ByteArray
@[reducible] def DInstr.c (a : DInstr) : List C := [.sc (.int .i64 a.xOp), .sc (.int .i64 a.xN), .sc (.int .i64 a.xI), .sc (.string a.xS)]
@[reducible] def DInstr.r (a : DInstr) : RV := ⟨true, [.rd (.sc (.int .i64 a.xOp)), .rd (.sc (.int .i64 a.xN)), .rd (.sc (.int .i64 a.xI)), .rd (.sc (.string a.xS))]⟩
@[reducible] def DInstr.x (a : DInstr) : List X := [.sc (.int .i64 a.xOp), .sc (.int .i64 a.xN), .sc (.int .i64 a.xI), .sc (.string a.xS)]
def DInstr.sz (a : DInstr) : Int := (a.xS.size : Int)
def DInstr.ok (a : DInstr) : Prop := (-9223372036854775808 ≤ a.xOp ∧ a.xOp ≤ 9223372036854775807) ∧ (-9223372036854775808 ≤ a.xN ∧ a.xN ≤ 9223372036854775807) ∧ (-9223372036854775808 ≤ a.xI ∧ a.xI ≤ 9223372036854775807) ∧ a.xS.size ≤ 9223372036854775807
theorem DInstr.sz_nonneg (a : DInstr) : 0 ≤ a.sz := by
  unfold DInstr.sz
  omega

structure DDef where
  xName : ByteArray
  xAt : Int
  xArgs : Int
@[reducible] def DDef.c (a : DDef) : List C := [.sc (.string a.xName), .sc (.int .i64 a.xAt), .sc (.int .i64 a.xArgs)]
@[reducible] def DDef.r (a : DDef) : RV := ⟨true, [.rd (.sc (.string a.xName)), .rd (.sc (.int .i64 a.xAt)), .rd (.sc (.int .i64 a.xArgs))]⟩
@[reducible] def DDef.x (a : DDef) : List X := [.sc (.string a.xName), .sc (.int .i64 a.xAt), .sc (.int .i64 a.xArgs)]
def DDef.sz (a : DDef) : Int := (a.xName.size : Int)
def DDef.ok (a : DDef) : Prop := a.xName.size ≤ 9223372036854775807 ∧ (-9223372036854775808 ≤ a.xAt ∧ a.xAt ≤ 9223372036854775807) ∧ (-9223372036854775808 ≤ a.xArgs ∧ a.xArgs ≤ 9223372036854775807)
theorem DDef.sz_nonneg (a : DDef) : 0 ≤ a.sz := by
  unfold DDef.sz
  omega

structure DCode where
  xPool : DPool
  xList : List DInstr
  xDefs : List DDef
@[reducible] def DCode.c (a : DCode) : List C := [.sl true 5 (a.xPool.xNodes.map DNode.c), .sl true 4 (a.xList.map DInstr.c), .sl true 3 (a.xDefs.map DDef.c)]
@[reducible] def DCode.r (a : DCode) : RV := ⟨true, [.own true 5 (a.xPool.xNodes.map DNode.c), .own true 4 (a.xList.map DInstr.c), .own true 3 (a.xDefs.map DDef.c)]⟩
@[reducible] def DCode.x (a : DCode) : List X := [.rd none 5 (a.xPool.xNodes.map DNode.c), .rd none 4 (a.xList.map DInstr.c), .rd none 3 (a.xDefs.map DDef.c)]
def DCode.sz (a : DCode) : Int := a.xPool.sz + ((a.xList.length : Int) + szL DInstr.sz a.xList) + ((a.xDefs.length : Int) + szL DDef.sz a.xDefs)
def DCode.ok (a : DCode) : Prop := a.xPool.ok ∧ (a.xList.length ≤ 9223372036854775807 ∧ ∀ y ∈ a.xList, y.ok) ∧ (a.xDefs.length ≤ 9223372036854775807 ∧ ∀ y ∈ a.xDefs, y.ok)
theorem DCode.sz_nonneg (a : DCode) : 0 ≤ a.sz := by
  have := a.xPool.sz_nonneg
  have := szL_nonneg DInstr.sz_nonneg a.xList
  have := szL_nonneg DDef.sz_nonneg a.xDefs
  unfold DCode.sz
  omega

structure DMachine where
  xPool : DPool
  xAt : Int
  xS : Int
  xE : Int
  xD : Int
  xState : Int
  xAsk : Int
  xArg : Int
@[reducible] def DMachine.c (a : DMachine) : List C := [.sl true 5 (a.xPool.xNodes.map DNode.c), .sc (.int .i64 a.xAt), .sc (.int .i64 a.xS), .sc (.int .i64 a.xE), .sc (.int .i64 a.xD), .sc (.int .i64 a.xState), .sc (.int .i64 a.xAsk), .sc (.int .i64 a.xArg)]
@[reducible] def DMachine.r (a : DMachine) : RV := ⟨true, [.own true 5 (a.xPool.xNodes.map DNode.c), .rd (.sc (.int .i64 a.xAt)), .rd (.sc (.int .i64 a.xS)), .rd (.sc (.int .i64 a.xE)), .rd (.sc (.int .i64 a.xD)), .rd (.sc (.int .i64 a.xState)), .rd (.sc (.int .i64 a.xAsk)), .rd (.sc (.int .i64 a.xArg))]⟩
@[reducible] def DMachine.x (a : DMachine) : List X := [.rd none 5 (a.xPool.xNodes.map DNode.c), .sc (.int .i64 a.xAt), .sc (.int .i64 a.xS), .sc (.int .i64 a.xE), .sc (.int .i64 a.xD), .sc (.int .i64 a.xState), .sc (.int .i64 a.xAsk), .sc (.int .i64 a.xArg)]
def DMachine.sz (a : DMachine) : Int := a.xPool.sz
def DMachine.ok (a : DMachine) : Prop := a.xPool.ok ∧ (-9223372036854775808 ≤ a.xAt ∧ a.xAt ≤ 9223372036854775807) ∧ (-9223372036854775808 ≤ a.xS ∧ a.xS ≤ 9223372036854775807) ∧ (-9223372036854775808 ≤ a.xE ∧ a.xE ≤ 9223372036854775807) ∧ (-9223372036854775808 ≤ a.xD ∧ a.xD ≤ 9223372036854775807) ∧ (-9223372036854775808 ≤ a.xState ∧ a.xState ≤ 9223372036854775807) ∧ (-9223372036854775808 ≤ a.xAsk ∧ a.xAsk ≤ 9223372036854775807) ∧ (-9223372036854775808 ≤ a.xArg ∧ a.xArg ≤ 9223372036854775807)
theorem DMachine.sz_nonneg (a : DMachine) : 0 ≤ a.sz := by
  have := a.xPool.sz_nonneg
  unfold DMachine.sz
  omega

structure DPiece where
  xNo : Int
  xText : ByteArray
@[reducible] def DPiece.c (a : DPiece) : List C := [.sc (.int .i64 a.xNo), .sc (.string a.xText)]
@[reducible] def DPiece.r (a : DPiece) : RV := ⟨true, [.rd (.sc (.int .i64 a.xNo)), .rd (.sc (.string a.xText))]⟩
@[reducible] def DPiece.x (a : DPiece) : List X := [.sc (.int .i64 a.xNo), .sc (.string a.xText)]
def DPiece.sz (a : DPiece) : Int := (a.xText.size : Int)
def DPiece.ok (a : DPiece) : Prop := (-9223372036854775808 ≤ a.xNo ∧ a.xNo ≤ 9223372036854775807) ∧ a.xText.size ≤ 9223372036854775807
theorem DPiece.sz_nonneg (a : DPiece) : 0 ≤ a.sz := by
  unfold DPiece.sz
  omega

structure DLink where
  xSent : Int
  xAcked : Int
  xQueue : List ByteArray
  xGot : Int
  xHeld : List DPiece
@[reducible] def DLink.c (a : DLink) : List C := [.sc (.int .i64 a.xSent), .sc (.int .i64 a.xAcked), .sl true 1 (ssC a.xQueue), .sc (.int .i64 a.xGot), .sl true 2 (a.xHeld.map DPiece.c)]
@[reducible] def DLink.r (a : DLink) : RV := ⟨true, [.rd (.sc (.int .i64 a.xSent)), .rd (.sc (.int .i64 a.xAcked)), .own true 1 (ssC a.xQueue), .rd (.sc (.int .i64 a.xGot)), .own true 2 (a.xHeld.map DPiece.c)]⟩
@[reducible] def DLink.x (a : DLink) : List X := [.sc (.int .i64 a.xSent), .sc (.int .i64 a.xAcked), .rd none 1 (ssC a.xQueue), .sc (.int .i64 a.xGot), .rd none 2 (a.xHeld.map DPiece.c)]
def DLink.sz (a : DLink) : Int := szS a.xQueue + ((a.xHeld.length : Int) + szL DPiece.sz a.xHeld)
def DLink.ok (a : DLink) : Prop := (-9223372036854775808 ≤ a.xSent ∧ a.xSent ≤ 9223372036854775807) ∧ (-9223372036854775808 ≤ a.xAcked ∧ a.xAcked ≤ 9223372036854775807) ∧ (a.xQueue.length ≤ 9223372036854775807 ∧ ∀ y ∈ a.xQueue, y.size ≤ 9223372036854775807) ∧ (-9223372036854775808 ≤ a.xGot ∧ a.xGot ≤ 9223372036854775807) ∧ (a.xHeld.length ≤ 9223372036854775807 ∧ ∀ y ∈ a.xHeld, y.ok)
theorem DLink.sz_nonneg (a : DLink) : 0 ≤ a.sz := by
  have := szS_nonneg a.xQueue
  have := szL_nonneg DPiece.sz_nonneg a.xHeld
  unfold DLink.sz
  omega

structure DProc where
  xPid : Int
  xM : DMachine
  xBox : List ByteArray
  xOut : List ByteArray
@[reducible] def DProc.c (a : DProc) : List C := [.sc (.int .i64 a.xPid), .sl true 5 (a.xM.xPool.xNodes.map DNode.c), .sc (.int .i64 a.xM.xAt), .sc (.int .i64 a.xM.xS), .sc (.int .i64 a.xM.xE), .sc (.int .i64 a.xM.xD), .sc (.int .i64 a.xM.xState), .sc (.int .i64 a.xM.xAsk), .sc (.int .i64 a.xM.xArg), .sl true 1 (ssC a.xBox), .sl true 1 (ssC a.xOut)]
@[reducible] def DProc.r (a : DProc) : RV := ⟨true, [.rd (.sc (.int .i64 a.xPid)), .own true 5 (a.xM.xPool.xNodes.map DNode.c), .rd (.sc (.int .i64 a.xM.xAt)), .rd (.sc (.int .i64 a.xM.xS)), .rd (.sc (.int .i64 a.xM.xE)), .rd (.sc (.int .i64 a.xM.xD)), .rd (.sc (.int .i64 a.xM.xState)), .rd (.sc (.int .i64 a.xM.xAsk)), .rd (.sc (.int .i64 a.xM.xArg)), .own true 1 (ssC a.xBox), .own true 1 (ssC a.xOut)]⟩
@[reducible] def DProc.x (a : DProc) : List X := [.sc (.int .i64 a.xPid), .rd none 5 (a.xM.xPool.xNodes.map DNode.c), .sc (.int .i64 a.xM.xAt), .sc (.int .i64 a.xM.xS), .sc (.int .i64 a.xM.xE), .sc (.int .i64 a.xM.xD), .sc (.int .i64 a.xM.xState), .sc (.int .i64 a.xM.xAsk), .sc (.int .i64 a.xM.xArg), .rd none 1 (ssC a.xBox), .rd none 1 (ssC a.xOut)]
def DProc.sz (a : DProc) : Int := a.xM.sz + szS a.xBox + szS a.xOut
def DProc.ok (a : DProc) : Prop := (-9223372036854775808 ≤ a.xPid ∧ a.xPid ≤ 9223372036854775807) ∧ a.xM.ok ∧ (a.xBox.length ≤ 9223372036854775807 ∧ ∀ y ∈ a.xBox, y.size ≤ 9223372036854775807) ∧ (a.xOut.length ≤ 9223372036854775807 ∧ ∀ y ∈ a.xOut, y.size ≤ 9223372036854775807)
theorem DProc.sz_nonneg (a : DProc) : 0 ≤ a.sz := by
  have := a.xM.sz_nonneg
  have := szS_nonneg a.xBox
  have := szS_nonneg a.xOut
  unfold DProc.sz
  omega

structure DHome where
  xAt : Int
  xP : DProc
@[reducible] def DHome.c (a : DHome) : List C := [.sc (.int .i64 a.xAt), .sc (.int .i64 a.xP.xPid), .sl true 5 (a.xP.xM.xPool.xNodes.map DNode.c), .sc (.int .i64 a.xP.xM.xAt), .sc (.int .i64 a.xP.xM.xS), .sc (.int .i64 a.xP.xM.xE), .sc (.int .i64 a.xP.xM.xD), .sc (.int .i64 a.xP.xM.xState), .sc (.int .i64 a.xP.xM.xAsk), .sc (.int .i64 a.xP.xM.xArg), .sl true 1 (ssC a.xP.xBox), .sl true 1 (ssC a.xP.xOut)]
@[reducible] def DHome.r (a : DHome) : RV := ⟨true, [.rd (.sc (.int .i64 a.xAt)), .rd (.sc (.int .i64 a.xP.xPid)), .own true 5 (a.xP.xM.xPool.xNodes.map DNode.c), .rd (.sc (.int .i64 a.xP.xM.xAt)), .rd (.sc (.int .i64 a.xP.xM.xS)), .rd (.sc (.int .i64 a.xP.xM.xE)), .rd (.sc (.int .i64 a.xP.xM.xD)), .rd (.sc (.int .i64 a.xP.xM.xState)), .rd (.sc (.int .i64 a.xP.xM.xAsk)), .rd (.sc (.int .i64 a.xP.xM.xArg)), .own true 1 (ssC a.xP.xBox), .own true 1 (ssC a.xP.xOut)]⟩
@[reducible] def DHome.x (a : DHome) : List X := [.sc (.int .i64 a.xAt), .sc (.int .i64 a.xP.xPid), .rd none 5 (a.xP.xM.xPool.xNodes.map DNode.c), .sc (.int .i64 a.xP.xM.xAt), .sc (.int .i64 a.xP.xM.xS), .sc (.int .i64 a.xP.xM.xE), .sc (.int .i64 a.xP.xM.xD), .sc (.int .i64 a.xP.xM.xState), .sc (.int .i64 a.xP.xM.xAsk), .sc (.int .i64 a.xP.xM.xArg), .rd none 1 (ssC a.xP.xBox), .rd none 1 (ssC a.xP.xOut)]
def DHome.sz (a : DHome) : Int := a.xP.sz
def DHome.ok (a : DHome) : Prop := (-9223372036854775808 ≤ a.xAt ∧ a.xAt ≤ 9223372036854775807) ∧ a.xP.ok
theorem DHome.sz_nonneg (a : DHome) : 0 ≤ a.sz := by
  have := a.xP.sz_nonneg
  unfold DHome.sz
  omega

structure DGram where
  xKind : Int
  xFrom : Int
  xTo : Int
  xP : DPiece
@[reducible] def DGram.c (a : DGram) : List C := [.sc (.int .i64 a.xKind), .sc (.int .i64 a.xFrom), .sc (.int .i64 a.xTo), .sc (.int .i64 a.xP.xNo), .sc (.string a.xP.xText)]
@[reducible] def DGram.r (a : DGram) : RV := ⟨true, [.rd (.sc (.int .i64 a.xKind)), .rd (.sc (.int .i64 a.xFrom)), .rd (.sc (.int .i64 a.xTo)), .rd (.sc (.int .i64 a.xP.xNo)), .rd (.sc (.string a.xP.xText))]⟩
@[reducible] def DGram.x (a : DGram) : List X := [.sc (.int .i64 a.xKind), .sc (.int .i64 a.xFrom), .sc (.int .i64 a.xTo), .sc (.int .i64 a.xP.xNo), .sc (.string a.xP.xText)]
def DGram.sz (a : DGram) : Int := a.xP.sz
def DGram.ok (a : DGram) : Prop := (-9223372036854775808 ≤ a.xKind ∧ a.xKind ≤ 9223372036854775807) ∧ (-9223372036854775808 ≤ a.xFrom ∧ a.xFrom ≤ 9223372036854775807) ∧ (-9223372036854775808 ≤ a.xTo ∧ a.xTo ≤ 9223372036854775807) ∧ a.xP.ok
theorem DGram.sz_nonneg (a : DGram) : 0 ≤ a.sz := by
  have := a.xP.sz_nonneg
  unfold DGram.sz
  omega

structure DParked where
  xAt : Int
  xTo : Int
  xText : ByteArray
@[reducible] def DParked.c (a : DParked) : List C := [.sc (.int .i64 a.xAt), .sc (.int .i64 a.xTo), .sc (.string a.xText)]
@[reducible] def DParked.r (a : DParked) : RV := ⟨true, [.rd (.sc (.int .i64 a.xAt)), .rd (.sc (.int .i64 a.xTo)), .rd (.sc (.string a.xText))]⟩
@[reducible] def DParked.x (a : DParked) : List X := [.sc (.int .i64 a.xAt), .sc (.int .i64 a.xTo), .sc (.string a.xText)]
def DParked.sz (a : DParked) : Int := (a.xText.size : Int)
def DParked.ok (a : DParked) : Prop := (-9223372036854775808 ≤ a.xAt ∧ a.xAt ≤ 9223372036854775807) ∧ (-9223372036854775808 ≤ a.xTo ∧ a.xTo ≤ 9223372036854775807) ∧ a.xText.size ≤ 9223372036854775807
theorem DParked.sz_nonneg (a : DParked) : 0 ≤ a.sz := by
  unfold DParked.sz
  omega

structure DWorld where
  xCode : DCode
  xPlaces : Int
  xHomes : List DHome
  xLinks : List DLink
  xGrams : List DGram
  xParked : List DParked
  xNext : Int
  xGave : List (List ByteArray)
  xTook : List (List ByteArray)
@[reducible] def DWorld.c (a : DWorld) : List C := [.sl true 5 (a.xCode.xPool.xNodes.map DNode.c), .sl true 4 (a.xCode.xList.map DInstr.c), .sl true 3 (a.xCode.xDefs.map DDef.c), .sc (.int .i64 a.xPlaces), .sl true 12 (a.xHomes.map DHome.c), .sl true 5 (a.xLinks.map DLink.c), .sl true 5 (a.xGrams.map DGram.c), .sl true 3 (a.xParked.map DParked.c), .sc (.int .i64 a.xNext), .sl true 1 (sssC a.xGave), .sl true 1 (sssC a.xTook)]
@[reducible] def DWorld.r (a : DWorld) : RV := ⟨true, [.own true 5 (a.xCode.xPool.xNodes.map DNode.c), .own true 4 (a.xCode.xList.map DInstr.c), .own true 3 (a.xCode.xDefs.map DDef.c), .rd (.sc (.int .i64 a.xPlaces)), .own true 12 (a.xHomes.map DHome.c), .own true 5 (a.xLinks.map DLink.c), .own true 5 (a.xGrams.map DGram.c), .own true 3 (a.xParked.map DParked.c), .rd (.sc (.int .i64 a.xNext)), .own true 1 (sssC a.xGave), .own true 1 (sssC a.xTook)]⟩
@[reducible] def DWorld.x (a : DWorld) : List X := [.rd none 5 (a.xCode.xPool.xNodes.map DNode.c), .rd none 4 (a.xCode.xList.map DInstr.c), .rd none 3 (a.xCode.xDefs.map DDef.c), .sc (.int .i64 a.xPlaces), .rd none 12 (a.xHomes.map DHome.c), .rd none 5 (a.xLinks.map DLink.c), .rd none 5 (a.xGrams.map DGram.c), .rd none 3 (a.xParked.map DParked.c), .sc (.int .i64 a.xNext), .rd none 1 (sssC a.xGave), .rd none 1 (sssC a.xTook)]
def DWorld.sz (a : DWorld) : Int := a.xCode.sz + ((a.xHomes.length : Int) + szL DHome.sz a.xHomes) + ((a.xLinks.length : Int) + szL DLink.sz a.xLinks) + ((a.xGrams.length : Int) + szL DGram.sz a.xGrams) + ((a.xParked.length : Int) + szL DParked.sz a.xParked) + szSS a.xGave + szSS a.xTook
def DWorld.ok (a : DWorld) : Prop := a.xCode.ok ∧ (-9223372036854775808 ≤ a.xPlaces ∧ a.xPlaces ≤ 9223372036854775807) ∧ (a.xHomes.length ≤ 9223372036854775807 ∧ ∀ y ∈ a.xHomes, y.ok) ∧ (a.xLinks.length ≤ 9223372036854775807 ∧ ∀ y ∈ a.xLinks, y.ok) ∧ (a.xGrams.length ≤ 9223372036854775807 ∧ ∀ y ∈ a.xGrams, y.ok) ∧ (a.xParked.length ≤ 9223372036854775807 ∧ ∀ y ∈ a.xParked, y.ok) ∧ (-9223372036854775808 ≤ a.xNext ∧ a.xNext ≤ 9223372036854775807) ∧ (a.xGave.length ≤ 9223372036854775807 ∧ ∀ l ∈ a.xGave, l.length ≤ 9223372036854775807 ∧ ∀ y ∈ l, y.size ≤ 9223372036854775807) ∧ (a.xTook.length ≤ 9223372036854775807 ∧ ∀ l ∈ a.xTook, l.length ≤ 9223372036854775807 ∧ ∀ y ∈ l, y.size ≤ 9223372036854775807)
theorem DWorld.sz_nonneg (a : DWorld) : 0 ≤ a.sz := by
  have := a.xCode.sz_nonneg
  have := szL_nonneg DHome.sz_nonneg a.xHomes
  have := szL_nonneg DLink.sz_nonneg a.xLinks
  have := szL_nonneg DGram.sz_nonneg a.xGrams
  have := szL_nonneg DParked.sz_nonneg a.xParked
  have := szSS_nonneg a.xGave
  have := szSS_nonneg a.xTook
  unfold DWorld.sz
  omega

end Go.Proofs.YtcaonpncopfeoaaGreat.V
