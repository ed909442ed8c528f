/- Marks. (printed by wip/tools/mk.py) -/
import Derived.Test.YtcaonpncopfeoaaGreatD1
set_option linter.unusedVariables false
set_option linter.unusedSimpArgs false
namespace Go.Proofs.YtcaonpncopfeoaaGreat.V
open Go

/-- Decimal digits. -/
def dg (n : Nat) : List Int := if n = 0 then [] else dg (n / 10) ++ [((48 + n % 10 : Nat) : Int)]
  termination_by n
  decreasing_by omega
def mkT (k : Int) : ByteArray := if k ≤ 0 then strOfNums [109, 48] else strOfNums (109 :: dg k.toNat)
/-- A list that is marked from a number on. -/
def mkL {α : Type} (f : α → Int → α) (n : α → Int) : List α → Int → List α
  | [], _ => []
  | x :: r, k => f x k :: mkL f n r (k + n x)
theorem mkL_len {α : Type} (f : α → Int → α) (n : α → Int) : ∀ (l : List α) (k : Int), (mkL f n l k).length = l.length
  | [], _ => rfl
  | x :: r, k => by simp only [mkL, List.length_cons, mkL_len f n r]
theorem mkL_app {α : Type} (f : α → Int → α) (n : α → Int) : ∀ (l r : List α) (k : Int), mkL f n (l ++ r) k = mkL f n l k ++ mkL f n r (k + szL n l)
  | [], r, k => by simp [mkL, szL]
  | x :: l, r, k => by simp only [List.cons_append, mkL, mkL_app f n l r, szL, List.cons.injEq, true_and]; rw [Int.add_assoc]
theorem mkL_succ {α : Type} (f : α → Int → α) (n : α → Int) {l : List α} {i : Nat} {x : α} (h : l[i]? = some x) (k : Int) : mkL f n (l.take (i + 1)) k = mkL f n (l.take i) k ++ [f x (k + szL n (l.take i))] := by
  rw [List.take_add_one, h, mkL_app]
  rfl
theorem mkL_at {α : Type} (f : α → Int → α) (n : α → Int) {l : List α} {i : Nat} {x : α} (h : l[i]? = some x) (k : Int) : (mkL f n l k)[i]? = some (f x (k + szL n (l.take i))) := by
  have h2 : mkL f n l k = mkL f n (l.take (i + 1)) k ++ mkL f n (l.drop (i + 1)) (k + szL n (l.take (i + 1))) := by rw [← mkL_app, List.take_append_drop]
  have h1 : (mkL f n (l.take i) k).length = i := by rw [mkL_len, List.length_take]; have := (List.getElem?_eq_some_iff.1 h).1; omega
  rw [h2, mkL_succ f n h, List.append_assoc, List.getElem?_append_right (by omega), h1, Nat.sub_self]
  rfl
/-- A list marked up to a place. -/
def mkTo {α : Type} (f : α → Int → α) (n : α → Int) (l : List α) (k : Int) (i : Nat) : List α := mkL f n (l.take i) k ++ l.drop i
theorem mkTo_zero {α : Type} (f : α → Int → α) (n : α → Int) (l : List α) (k : Int) : mkTo f n l k 0 = l := by simp [mkTo, mkL]
theorem mkTo_all {α : Type} (f : α → Int → α) (n : α → Int) (l : List α) (k : Int) {i : Nat} (h : l.length ≤ i) : mkTo f n l k i = mkL f n l k := by
  rw [mkTo, List.take_of_length_le h, List.drop_eq_nil_of_le h, List.append_nil]
theorem mkTo_len {α : Type} (f : α → Int → α) (n : α → Int) (l : List α) (k : Int) (i : Nat) : (mkTo f n l k i).length = l.length := by
  rw [mkTo, List.length_append, mkL_len, List.length_take, List.length_drop]
  omega
theorem mkTo_at {α : Type} (f : α → Int → α) (n : α → Int) {l : List α} {i : Nat} {x : α} (h : l[i]? = some x) (k : Int) : (mkTo f n l k i)[i]? = some x := by
  have hi := (List.getElem?_eq_some_iff.1 h).1
  have h1 : (mkL f n (l.take i) k).length = i := by rw [mkL_len, List.length_take]; omega
  rw [mkTo, List.getElem?_append_right (by omega), h1, Nat.sub_self, List.getElem?_drop, Nat.add_zero]
  exact h
theorem mkTo_set {α : Type} (f : α → Int → α) (n : α → Int) {l : List α} {i : Nat} {x : α} (h : l[i]? = some x) (k : Int) : (mkTo f n l k i).set i (f x (k + szL n (l.take i))) = mkTo f n l k (i + 1) := by
  have hi := (List.getElem?_eq_some_iff.1 h).1
  have h1 : (mkL f n (l.take i) k).length = i := by rw [mkL_len, List.length_take]; omega
  rw [mkTo, mkTo, List.set_append_right _ _ (by omega), h1, Nat.sub_self, mkL_succ f n h, List.drop_eq_getElem_cons hi, List.set_cons_zero, List.append_assoc]
  rfl
theorem szL_one {α : Type} (l : List α) : szL (fun _ => (1 : Int)) l = l.length := by
  induction l with
  | nil => rfl
  | cons x r ih => simp only [szL, ih, List.length_cons]; omega
def mkS (l : List ByteArray) (k : Int) : List ByteArray := mkL (fun _ k => mkT k) (fun _ => 1) l k
def mzS (l : List ByteArray) : Int := szL (fun _ => 1) l
theorem mzS_nonneg (l : List ByteArray) : 0 ≤ mzS l := by unfold mzS; rw [szL_one]; omega

def DNode.me (a : DNode) (k : Int) : DNode := ⟨(k), (k + 1), mkT (k + 2), (k + 3), (k + 4)⟩
def DNode.mz (a : DNode) : Int := 5
theorem DNode.mz_nonneg (a : DNode) : 0 ≤ a.mz := by
  unfold DNode.mz
  omega
def DInstr.me (a : DInstr) (k : Int) : DInstr := ⟨(k), (k + 1), (k + 2), mkT (k + 3)⟩
def DInstr.mz (a : DInstr) : Int := 4
theorem DInstr.mz_nonneg (a : DInstr) : 0 ≤ a.mz := by
  unfold DInstr.mz
  omega
def DDef.me (a : DDef) (k : Int) : DDef := ⟨mkT (k), (k + 1), (k + 2)⟩
def DDef.mz (a : DDef) : Int := 3
theorem DDef.mz_nonneg (a : DDef) : 0 ≤ a.mz := by
  unfold DDef.mz
  omega
def DPiece.me (a : DPiece) (k : Int) : DPiece := ⟨(k), mkT (k + 1)⟩
def DPiece.mz (a : DPiece) : Int := 2
theorem DPiece.mz_nonneg (a : DPiece) : 0 ≤ a.mz := by
  unfold DPiece.mz
  omega
def DLink.me (a : DLink) (k : Int) : DLink := ⟨(k), (k + 1), mkS a.xQueue (k + 2), (k + 2 + mzS a.xQueue), mkL DPiece.me DPiece.mz a.xHeld (k + 3 + mzS a.xQueue)⟩
def DLink.mz (a : DLink) : Int := 3 + mzS a.xQueue + szL DPiece.mz a.xHeld
theorem DLink.mz_nonneg (a : DLink) : 0 ≤ a.mz := by
  have := mzS_nonneg a.xQueue
  have := szL_nonneg DPiece.mz_nonneg a.xHeld
  unfold DLink.mz
  omega
def DHome.me (a : DHome) (k : Int) : DHome := ⟨(k), ⟨(k + 1), ⟨⟨mkL DNode.me DNode.mz a.xP.xM.xPool.xNodes (k + 2)⟩, (k + 2 + szL DNode.mz a.xP.xM.xPool.xNodes), (k + 3 + szL DNode.mz a.xP.xM.xPool.xNodes), (k + 4 + szL DNode.mz a.xP.xM.xPool.xNodes), (k + 5 + szL DNode.mz a.xP.xM.xPool.xNodes), (k + 6 + szL DNode.mz a.xP.xM.xPool.xNodes), (k + 7 + szL DNode.mz a.xP.xM.xPool.xNodes), (k + 8 + szL DNode.mz a.xP.xM.xPool.xNodes)⟩, mkS a.xP.xBox (k + 9 + szL DNode.mz a.xP.xM.xPool.xNodes), mkS a.xP.xOut (k + 9 + szL DNode.mz a.xP.xM.xPool.xNodes + mzS a.xP.xBox)⟩⟩
def DHome.mz (a : DHome) : Int := 9 + szL DNode.mz a.xP.xM.xPool.xNodes + mzS a.xP.xBox + mzS a.xP.xOut
theorem DHome.mz_nonneg (a : DHome) : 0 ≤ a.mz := by
  have := szL_nonneg DNode.mz_nonneg a.xP.xM.xPool.xNodes
  have := mzS_nonneg a.xP.xBox
  have := mzS_nonneg a.xP.xOut
  unfold DHome.mz
  omega
def DGram.me (a : DGram) (k : Int) : DGram := ⟨(k), (k + 1), (k + 2), ⟨(k + 3), mkT (k + 4)⟩⟩
def DGram.mz (a : DGram) : Int := 5
theorem DGram.mz_nonneg (a : DGram) : 0 ≤ a.mz := by
  unfold DGram.mz
  omega
def DParked.me (a : DParked) (k : Int) : DParked := ⟨(k), (k + 1), mkT (k + 2)⟩
def DParked.mz (a : DParked) : Int := 3
theorem DParked.mz_nonneg (a : DParked) : 0 ≤ a.mz := by
  unfold DParked.mz
  omega
def DPool.mw (a : DPool) (k : Int) : DPool := ⟨mkL DNode.me DNode.mz a.xNodes (k)⟩
def DPool.wz (a : DPool) : Int := szL DNode.mz a.xNodes
theorem DPool.wz_nonneg (a : DPool) : 0 ≤ a.wz := by
  have := szL_nonneg DNode.mz_nonneg a.xNodes
  unfold DPool.wz
  omega
def DMachine.mw (a : DMachine) (k : Int) : DMachine := ⟨⟨mkL DNode.me DNode.mz a.xPool.xNodes (k)⟩, a.xAt, a.xS, a.xE, a.xD, a.xState, a.xAsk, a.xArg⟩
def DMachine.wz (a : DMachine) : Int := szL DNode.mz a.xPool.xNodes
theorem DMachine.wz_nonneg (a : DMachine) : 0 ≤ a.wz := by
  have := szL_nonneg DNode.mz_nonneg a.xPool.xNodes
  unfold DMachine.wz
  omega
def DProc.mw (a : DProc) (k : Int) : DProc := ⟨a.xPid, ⟨⟨mkL DNode.me DNode.mz a.xM.xPool.xNodes (k)⟩, a.xM.xAt, a.xM.xS, a.xM.xE, a.xM.xD, a.xM.xState, a.xM.xAsk, a.xM.xArg⟩, mkS a.xBox (k + szL DNode.mz a.xM.xPool.xNodes), mkS a.xOut (k + szL DNode.mz a.xM.xPool.xNodes + mzS a.xBox)⟩
def DProc.wz (a : DProc) : Int := szL DNode.mz a.xM.xPool.xNodes + mzS a.xBox + mzS a.xOut
theorem DProc.wz_nonneg (a : DProc) : 0 ≤ a.wz := by
  have := szL_nonneg DNode.mz_nonneg a.xM.xPool.xNodes
  have := mzS_nonneg a.xBox
  have := mzS_nonneg a.xOut
  unfold DProc.wz
  omega
def DCode.mw (a : DCode) (k : Int) : DCode := ⟨⟨mkL DNode.me DNode.mz a.xPool.xNodes (k)⟩, mkL DInstr.me DInstr.mz a.xList (k + szL DNode.mz a.xPool.xNodes), mkL DDef.me DDef.mz a.xDefs (k + szL DNode.mz a.xPool.xNodes + szL DInstr.mz a.xList)⟩
def DCode.wz (a : DCode) : Int := szL DNode.mz a.xPool.xNodes + szL DInstr.mz a.xList + szL DDef.mz a.xDefs
theorem DCode.wz_nonneg (a : DCode) : 0 ≤ a.wz := by
  have := szL_nonneg DNode.mz_nonneg a.xPool.xNodes
  have := szL_nonneg DInstr.mz_nonneg a.xList
  have := szL_nonneg DDef.mz_nonneg a.xDefs
  unfold DCode.wz
  omega
def DWorld.mw (a : DWorld) (k : Int) : DWorld := ⟨⟨⟨mkL DNode.me DNode.mz a.xCode.xPool.xNodes (k)⟩, mkL DInstr.me DInstr.mz a.xCode.xList (k + szL DNode.mz a.xCode.xPool.xNodes), mkL DDef.me DDef.mz a.xCode.xDefs (k + szL DNode.mz a.xCode.xPool.xNodes + szL DInstr.mz a.xCode.xList)⟩, a.xPlaces, mkL DHome.me DHome.mz a.xHomes (k + szL DNode.mz a.xCode.xPool.xNodes + szL DInstr.mz a.xCode.xList + szL DDef.mz a.xCode.xDefs), mkL DLink.me DLink.mz a.xLinks (k + szL DNode.mz a.xCode.xPool.xNodes + szL DInstr.mz a.xCode.xList + szL DDef.mz a.xCode.xDefs + szL DHome.mz a.xHomes), mkL DGram.me DGram.mz a.xGrams (k + szL DNode.mz a.xCode.xPool.xNodes + szL DInstr.mz a.xCode.xList + szL DDef.mz a.xCode.xDefs + szL DHome.mz a.xHomes + szL DLink.mz a.xLinks), mkL DParked.me DParked.mz a.xParked (k + szL DNode.mz a.xCode.xPool.xNodes + szL DInstr.mz a.xCode.xList + szL DDef.mz a.xCode.xDefs + szL DHome.mz a.xHomes + szL DLink.mz a.xLinks + szL DGram.mz a.xGrams), a.xNext, mkL mkS mzS a.xGave (k + szL DNode.mz a.xCode.xPool.xNodes + szL DInstr.mz a.xCode.xList + szL DDef.mz a.xCode.xDefs + szL DHome.mz a.xHomes + szL DLink.mz a.xLinks + szL DGram.mz a.xGrams + szL DParked.mz a.xParked), mkL mkS mzS a.xTook (k + szL DNode.mz a.xCode.xPool.xNodes + szL DInstr.mz a.xCode.xList + szL DDef.mz a.xCode.xDefs + szL DHome.mz a.xHomes + szL DLink.mz a.xLinks + szL DGram.mz a.xGrams + szL DParked.mz a.xParked + szL mzS a.xGave)⟩
def DWorld.wz (a : DWorld) : Int := szL DNode.mz a.xCode.xPool.xNodes + szL DInstr.mz a.xCode.xList + szL DDef.mz a.xCode.xDefs + szL DHome.mz a.xHomes + szL DLink.mz a.xLinks + szL DGram.mz a.xGrams + szL DParked.mz a.xParked + szL mzS a.xGave + szL mzS a.xTook
theorem DWorld.wz_nonneg (a : DWorld) : 0 ≤ a.wz := by
  have := szL_nonneg DNode.mz_nonneg a.xCode.xPool.xNodes
  have := szL_nonneg DInstr.mz_nonneg a.xCode.xList
  have := szL_nonneg DDef.mz_nonneg a.xCode.xDefs
  have := szL_nonneg DHome.mz_nonneg a.xHomes
  have := szL_nonneg DLink.mz_nonneg a.xLinks
  have := szL_nonneg DGram.mz_nonneg a.xGrams
  have := szL_nonneg DParked.mz_nonneg a.xParked
  have := szL_nonneg mzS_nonneg a.xGave
  have := szL_nonneg mzS_nonneg a.xTook
  unfold DWorld.wz
  omega
theorem szL_le {α : Type} {f g : α → Int} {c : Int} (hc : 0 ≤ c) (h : ∀ x, f x ≤ c * (1 + g x)) : ∀ l : List α, szL f l ≤ c * ((l.length : Int) + szL g l)
  | [] => by simp [szL]
  | x :: r => by
    have h1 := h x
    have h2 := szL_le hc h r
    simp only [szL, List.length_cons]
    have e : c * (((r.length + 1 : Nat) : Int) + (g x + szL g r)) = c * (1 + g x) + c * ((r.length : Int) + szL g r) := by
      rw [← Int.mul_add]
      congr 1
      omega
    rw [e]
    omega
theorem mzS_le (l : List ByteArray) : mzS l ≤ 12 * szS l := by
  have := szS_len l
  unfold mzS
  rw [szL_one]
  omega
theorem mzSS_le (l : List (List ByteArray)) : szL mzS l ≤ 12 * szSS l := szL_le (by omega) (fun x => by have := mzS_le x; omega) l
theorem DNode.mz_le (a : DNode) : a.mz ≤ 12 * (1 + a.sz) := by
  have := a.sz_nonneg
  simp only [DNode.mz, DNode.sz] at *
  omega
theorem DInstr.mz_le (a : DInstr) : a.mz ≤ 12 * (1 + a.sz) := by
  have := a.sz_nonneg
  simp only [DInstr.mz, DInstr.sz] at *
  omega
theorem DDef.mz_le (a : DDef) : a.mz ≤ 12 * (1 + a.sz) := by
  have := a.sz_nonneg
  simp only [DDef.mz, DDef.sz] at *
  omega
theorem DPiece.mz_le (a : DPiece) : a.mz ≤ 12 * (1 + a.sz) := by
  have := a.sz_nonneg
  simp only [DPiece.mz, DPiece.sz] at *
  omega
theorem DLink.mz_le (a : DLink) : a.mz ≤ 12 * (1 + a.sz) := by
  have := mzS_le a.xQueue
  have := szL_le (c := 12) (by omega) DPiece.mz_le a.xHeld
  have := a.sz_nonneg
  simp only [DLink.mz, DLink.sz] at *
  omega
theorem DHome.mz_le (a : DHome) : a.mz ≤ 12 * (1 + a.sz) := by
  have := szL_le (c := 12) (by omega) DNode.mz_le a.xP.xM.xPool.xNodes
  have := mzS_le a.xP.xBox
  have := mzS_le a.xP.xOut
  have := a.sz_nonneg
  simp only [DHome.mz, DHome.sz, DProc.sz, DMachine.sz, DPool.sz] at *
  omega
theorem DGram.mz_le (a : DGram) : a.mz ≤ 12 * (1 + a.sz) := by
  have := a.sz_nonneg
  simp only [DGram.mz, DGram.sz, DPiece.sz] at *
  omega
theorem DParked.mz_le (a : DParked) : a.mz ≤ 12 * (1 + a.sz) := by
  have := a.sz_nonneg
  simp only [DParked.mz, DParked.sz] at *
  omega
theorem DPool.wz_le (a : DPool) : a.wz ≤ 12 * a.sz := by
  have := szL_le (c := 12) (by omega) DNode.mz_le a.xNodes
  simp only [DPool.wz, DPool.sz] at *
  omega
theorem DMachine.wz_le (a : DMachine) : a.wz ≤ 12 * a.sz := by
  have := szL_le (c := 12) (by omega) DNode.mz_le a.xPool.xNodes
  simp only [DMachine.wz, DMachine.sz, DPool.sz] at *
  omega
theorem DProc.wz_le (a : DProc) : a.wz ≤ 12 * a.sz := by
  have := szL_le (c := 12) (by omega) DNode.mz_le a.xM.xPool.xNodes
  have := mzS_le a.xBox
  have := mzS_le a.xOut
  simp only [DProc.wz, DProc.sz, DMachine.sz, DPool.sz] at *
  omega
theorem DCode.wz_le (a : DCode) : a.wz ≤ 12 * a.sz := by
  have := szL_le (c := 12) (by omega) DNode.mz_le a.xPool.xNodes
  have := szL_le (c := 12) (by omega) DInstr.mz_le a.xList
  have := szL_le (c := 12) (by omega) DDef.mz_le a.xDefs
  simp only [DCode.wz, DCode.sz, DPool.sz] at *
  omega
theorem DWorld.wz_le (a : DWorld) : a.wz ≤ 12 * a.sz := by
  have := szL_le (c := 12) (by omega) DNode.mz_le a.xCode.xPool.xNodes
  have := szL_le (c := 12) (by omega) DInstr.mz_le a.xCode.xList
  have := szL_le (c := 12) (by omega) DDef.mz_le a.xCode.xDefs
  have := szL_le (c := 12) (by omega) DHome.mz_le a.xHomes
  have := szL_le (c := 12) (by omega) DLink.mz_le a.xLinks
  have := szL_le (c := 12) (by omega) DGram.mz_le a.xGrams
  have := szL_le (c := 12) (by omega) DParked.mz_le a.xParked
  have := mzSS_le a.xGave
  have := mzSS_le a.xTook
  simp only [DWorld.wz, DWorld.sz, DCode.sz, DPool.sz] at *
  omega

end Go.Proofs.YtcaonpncopfeoaaGreat.V
