/- Whatever data of the laws came in is data as D1 has it. (printed by wip/tools/fam.py) -/
import Derived.Test.YtcaonpncopfeoaaGreatD1
set_option linter.unusedVariables false
set_option linter.unusedSimpArgs false
namespace Go.Proofs.YtcaonpncopfeoaaGreat.V
open Go

theorem maxLen_le {n : Nat} (h : n ≤ maxLen) : n ≤ 9223372036854775807 := Nat.le_trans h (by decide)
theorem tyl_of : ∀ {row : List Sh} {r : List C}, r.length = row.length → (∀ (j : Nat) (sh : Sh) (c : C), row[j]? = some sh → r[j]? = some c → Ty sh c) → TyL row r
  | [], [], _, _ => trivial
  | _ :: _, c :: r, hl, h => ⟨h 0 _ c rfl rfl, tyl_of (by simpa using hl) fun j sh c hj hc => h (j + 1) sh c hj hc⟩
  | [], _ :: _, hl, _ => by simp at hl
  | _ :: _, [], hl, _ => by simp at hl
theorem ty_list {α : Type} (f : α → List C) (okp : α → Prop) {row : List Sh} (h : ∀ r, TyL row r → ∃ a, r = f a ∧ okp a) {c : C} (hc : Ty (.sl row) c) : ∃ xs : List α, c = .sl true row.length (xs.map f) ∧ xs.length ≤ 9223372036854775807 ∧ ∀ x ∈ xs, okp x := by
  cases hc with
  | sl _ es hl hr ht =>
    have key : ∀ es : List (List C), (∀ r ∈ es, r.length = row.length) → (∀ r ∈ es, ∀ (j : Nat) (sh : Sh) (c : C), row[j]? = some sh → r[j]? = some c → Ty sh c) → ∃ xs : List α, es = xs.map f ∧ ∀ x ∈ xs, okp x := by
      intro es
      induction es with
      | nil => exact fun _ _ => ⟨[], rfl, fun z hz => (by cases hz)⟩
      | cons r rs ih =>
        intro h1 h2
        obtain ⟨xs, e, hx⟩ := ih (fun y hy => h1 y (List.mem_cons_of_mem _ hy)) (fun y hy => h2 y (List.mem_cons_of_mem _ hy))
        obtain ⟨a, ea, ha⟩ := h r (tyl_of (h1 r (List.mem_cons_self ..)) (h2 r (List.mem_cons_self ..)))
        refine ⟨a :: xs, by rw [e, ea]; rfl, fun z hz => ?_⟩
        cases hz with
        | head => exact ha
        | tail _ hz => exact hx z hz
    obtain ⟨xs, e, hx⟩ := key es hr ht
    subst e
    refine ⟨xs, rfl, ?_, hx⟩
    rw [List.length_map] at hl
    exact maxLen_le hl
theorem ty_str {r : List C} (h : TyL [.str] r) : ∃ s : ByteArray, r = [C.sc (.string s)] ∧ s.size ≤ 9223372036854775807 := by
  match r, h with
  | [c], ⟨h0, _⟩ =>
    cases h0 with
    | str s hs => exact ⟨s, rfl, maxLen_le hs⟩
theorem ty_strs {c : C} (h : Ty (.sl [.str]) c) : ∃ xs : List ByteArray, c = .sl true 1 (ssC xs) ∧ xs.length ≤ 9223372036854775807 ∧ ∀ y ∈ xs, y.size ≤ 9223372036854775807 :=
  ty_list (fun s => [C.sc (.string s)]) (fun s => s.size ≤ 9223372036854775807) (fun r h => ty_str h) h
theorem ty_strs1 {r : List C} (h : TyL [.sl [.str]] r) : ∃ xs : List ByteArray, r = [C.sl true 1 (ssC xs)] ∧ (xs.length ≤ 9223372036854775807 ∧ ∀ y ∈ xs, y.size ≤ 9223372036854775807) := by
  match r, h with
  | [c], ⟨h0, _⟩ =>
    obtain ⟨xs, e, h1⟩ := ty_strs h0
    subst e
    exact ⟨xs, rfl, h1⟩
theorem ty_strss {c : C} (h : Ty (.sl [.sl [.str]]) c) : ∃ xs : List (List ByteArray), c = .sl true 1 (sssC xs) ∧ xs.length ≤ 9223372036854775807 ∧ ∀ l ∈ xs, l.length ≤ 9223372036854775807 ∧ ∀ y ∈ l, y.size ≤ 9223372036854775807 :=
  ty_list (fun l => [C.sl true 1 (ssC l)]) (fun l => l.length ≤ 9223372036854775807 ∧ ∀ y ∈ l, y.size ≤ 9223372036854775807) (fun r h => ty_strs1 h) h

@[reducible] def rowNode : List Sh := [.int .i64, .int .i64, .str, .int .i64, .int .i64]
theorem ty_Node {Cs : List C} (h : TyL rowNode Cs) : ∃ a : DNode, Cs = a.c ∧ a.ok := by
  match Cs, h with
  | [c0, c1, c2, c3, c4], ⟨h0, h1, h2, h3, h4, _⟩ =>
    obtain ⟨n0, rfl, w0⟩ : ∃ n : Int, c0 = .sc (.int .i64 n) ∧ (-9223372036854775808 ≤ n ∧ n ≤ 9223372036854775807) := by
      cases h0 with
      | int _ n hn => exact ⟨n, rfl, wf_i64 hn⟩
    obtain ⟨n1, rfl, w1⟩ : ∃ n : Int, c1 = .sc (.int .i64 n) ∧ (-9223372036854775808 ≤ n ∧ n ≤ 9223372036854775807) := by
      cases h1 with
      | int _ n hn => exact ⟨n, rfl, wf_i64 hn⟩
    obtain ⟨n2, rfl, w2⟩ : ∃ s : ByteArray, c2 = .sc (.string s) ∧ s.size ≤ 9223372036854775807 := by
      cases h2 with
      | str s hs => exact ⟨s, rfl, maxLen_le hs⟩
    obtain ⟨n3, rfl, w3⟩ : ∃ n : Int, c3 = .sc (.int .i64 n) ∧ (-9223372036854775808 ≤ n ∧ n ≤ 9223372036854775807) := by
      cases h3 with
      | int _ n hn => exact ⟨n, rfl, wf_i64 hn⟩
    obtain ⟨n4, rfl, w4⟩ : ∃ n : Int, c4 = .sc (.int .i64 n) ∧ (-9223372036854775808 ≤ n ∧ n ≤ 9223372036854775807) := by
      cases h4 with
      | int _ n hn => exact ⟨n, rfl, wf_i64 hn⟩
    exact ⟨⟨n0, n1, n2, n3, n4⟩, rfl, ⟨w0, w1, w2, w3, w4⟩⟩

@[reducible] def rowPool : List Sh := [.sl rowNode]
theorem ty_Pool {Cs : List C} (h : TyL rowPool Cs) : ∃ a : DPool, Cs = a.c ∧ a.ok := by
  match Cs, h with
  | [c0], ⟨h0, _⟩ =>
    obtain ⟨n0, rfl, w0⟩ := ty_list DNode.c DNode.ok (fun r h => ty_Node h) h0
    exact ⟨⟨n0⟩, rfl, w0⟩

@[reducible] def rowInstr : List Sh := [.int .i64, .int .i64, .int .i64, .str]
theorem ty_Instr {Cs : List C} (h : TyL rowInstr Cs) : ∃ a : DInstr, Cs = a.c ∧ a.ok := by
  match Cs, h with
  | [c0, c1, c2, c3], ⟨h0, h1, h2, h3, _⟩ =>
    obtain ⟨n0, rfl, w0⟩ : ∃ n : Int, c0 = .sc (.int .i64 n) ∧ (-9223372036854775808 ≤ n ∧ n ≤ 9223372036854775807) := by
      cases h0 with
      | int _ n hn => exact ⟨n, rfl, wf_i64 hn⟩
    obtain ⟨n1, rfl, w1⟩ : ∃ n : Int, c1 = .sc (.int .i64 n) ∧ (-9223372036854775808 ≤ n ∧ n ≤ 9223372036854775807) := by
      cases h1 with
      | int _ n hn => exact ⟨n, rfl, wf_i64 hn⟩
    obtain ⟨n2, rfl, w2⟩ : ∃ n : Int, c2 = .sc (.int .i64 n) ∧ (-9223372036854775808 ≤ n ∧ n ≤ 9223372036854775807) := by
      cases h2 with
      | int _ n hn => exact ⟨n, rfl, wf_i64 hn⟩
    obtain ⟨n3, rfl, w3⟩ : ∃ s : ByteArray, c3 = .sc (.string s) ∧ s.size ≤ 9223372036854775807 := by
      cases h3 with
      | str s hs => exact ⟨s, rfl, maxLen_le hs⟩
    exact ⟨⟨n0, n1, n2, n3⟩, rfl, ⟨w0, w1, w2, w3⟩⟩

@[reducible] def rowDef : List Sh := [.str, .int .i64, .int .i64]
theorem ty_Def {Cs : List C} (h : TyL rowDef Cs) : ∃ a : DDef, Cs = a.c ∧ a.ok := by
  match Cs, h with
  | [c0, c1, c2], ⟨h0, h1, h2, _⟩ =>
    obtain ⟨n0, rfl, w0⟩ : ∃ s : ByteArray, c0 = .sc (.string s) ∧ s.size ≤ 9223372036854775807 := by
      cases h0 with
      | str s hs => exact ⟨s, rfl, maxLen_le hs⟩
    obtain ⟨n1, rfl, w1⟩ : ∃ n : Int, c1 = .sc (.int .i64 n) ∧ (-9223372036854775808 ≤ n ∧ n ≤ 9223372036854775807) := by
      cases h1 with
      | int _ n hn => exact ⟨n, rfl, wf_i64 hn⟩
    obtain ⟨n2, rfl, w2⟩ : ∃ n : Int, c2 = .sc (.int .i64 n) ∧ (-9223372036854775808 ≤ n ∧ n ≤ 9223372036854775807) := by
      cases h2 with
      | int _ n hn => exact ⟨n, rfl, wf_i64 hn⟩
    exact ⟨⟨n0, n1, n2⟩, rfl, ⟨w0, w1, w2⟩⟩

@[reducible] def rowCode : List Sh := [.sl rowNode, .sl rowInstr, .sl rowDef]
theorem ty_Code {Cs : List C} (h : TyL rowCode Cs) : ∃ a : DCode, Cs = a.c ∧ a.ok := by
  match Cs, h with
  | [c0, c1, c2], ⟨h0, h1, h2, _⟩ =>
    obtain ⟨n0, rfl, w0⟩ := ty_list DNode.c DNode.ok (fun r h => ty_Node h) h0
    obtain ⟨n1, rfl, w1⟩ := ty_list DInstr.c DInstr.ok (fun r h => ty_Instr h) h1
    obtain ⟨n2, rfl, w2⟩ := ty_list DDef.c DDef.ok (fun r h => ty_Def h) h2
    exact ⟨⟨⟨n0⟩, n1, n2⟩, rfl, ⟨w0, w1, w2⟩⟩

@[reducible] def rowMachine : List Sh := [.sl rowNode, .int .i64, .int .i64, .int .i64, .int .i64, .int .i64, .int .i64, .int .i64]
theorem ty_Machine {Cs : List C} (h : TyL rowMachine Cs) : ∃ a : DMachine, Cs = a.c ∧ a.ok := by
  match Cs, h with
  | [c0, c1, c2, c3, c4, c5, c6, c7], ⟨h0, h1, h2, h3, h4, h5, h6, h7, _⟩ =>
    obtain ⟨n0, rfl, w0⟩ := ty_list DNode.c DNode.ok (fun r h => ty_Node h) h0
    obtain ⟨n1, rfl, w1⟩ : ∃ n : Int, c1 = .sc (.int .i64 n) ∧ (-9223372036854775808 ≤ n ∧ n ≤ 9223372036854775807) := by
      cases h1 with
      | int _ n hn => exact ⟨n, rfl, wf_i64 hn⟩
    obtain ⟨n2, rfl, w2⟩ : ∃ n : Int, c2 = .sc (.int .i64 n) ∧ (-9223372036854775808 ≤ n ∧ n ≤ 9223372036854775807) := by
      cases h2 with
      | int _ n hn => exact ⟨n, rfl, wf_i64 hn⟩
    obtain ⟨n3, rfl, w3⟩ : ∃ n : Int, c3 = .sc (.int .i64 n) ∧ (-9223372036854775808 ≤ n ∧ n ≤ 9223372036854775807) := by
      cases h3 with
      | int _ n hn => exact ⟨n, rfl, wf_i64 hn⟩
    obtain ⟨n4, rfl, w4⟩ : ∃ n : Int, c4 = .sc (.int .i64 n) ∧ (-9223372036854775808 ≤ n ∧ n ≤ 9223372036854775807) := by
      cases h4 with
      | int _ n hn => exact ⟨n, rfl, wf_i64 hn⟩
    obtain ⟨n5, rfl, w5⟩ : ∃ n : Int, c5 = .sc (.int .i64 n) ∧ (-9223372036854775808 ≤ n ∧ n ≤ 9223372036854775807) := by
      cases h5 with
      | int _ n hn => exact ⟨n, rfl, wf_i64 hn⟩
    obtain ⟨n6, rfl, w6⟩ : ∃ n : Int, c6 = .sc (.int .i64 n) ∧ (-9223372036854775808 ≤ n ∧ n ≤ 9223372036854775807) := by
      cases h6 with
      | int _ n hn => exact ⟨n, rfl, wf_i64 hn⟩
    obtain ⟨n7, rfl, w7⟩ : ∃ n : Int, c7 = .sc (.int .i64 n) ∧ (-9223372036854775808 ≤ n ∧ n ≤ 9223372036854775807) := by
      cases h7 with
      | int _ n hn => exact ⟨n, rfl, wf_i64 hn⟩
    exact ⟨⟨⟨n0⟩, n1, n2, n3, n4, n5, n6, n7⟩, rfl, ⟨w0, w1, w2, w3, w4, w5, w6, w7⟩⟩

@[reducible] def rowPiece : List Sh := [.int .i64, .str]
theorem ty_Piece {Cs : List C} (h : TyL rowPiece Cs) : ∃ a : DPiece, Cs = a.c ∧ a.ok := by
  match Cs, h with
  | [c0, c1], ⟨h0, h1, _⟩ =>
    obtain ⟨n0, rfl, w0⟩ : ∃ n : Int, c0 = .sc (.int .i64 n) ∧ (-9223372036854775808 ≤ n ∧ n ≤ 9223372036854775807) := by
      cases h0 with
      | int _ n hn => exact ⟨n, rfl, wf_i64 hn⟩
    obtain ⟨n1, rfl, w1⟩ : ∃ s : ByteArray, c1 = .sc (.string s) ∧ s.size ≤ 9223372036854775807 := by
      cases h1 with
      | str s hs => exact ⟨s, rfl, maxLen_le hs⟩
    exact ⟨⟨n0, n1⟩, rfl, ⟨w0, w1⟩⟩

@[reducible] def rowLink : List Sh := [.int .i64, .int .i64, .sl [.str], .int .i64, .sl rowPiece]
theorem ty_Link {Cs : List C} (h : TyL rowLink Cs) : ∃ a : DLink, Cs = a.c ∧ a.ok := by
  match Cs, h with
  | [c0, c1, c2, c3, c4], ⟨h0, h1, h2, h3, h4, _⟩ =>
    obtain ⟨n0, rfl, w0⟩ : ∃ n : Int, c0 = .sc (.int .i64 n) ∧ (-9223372036854775808 ≤ n ∧ n ≤ 9223372036854775807) := by
      cases h0 with
      | int _ n hn => exact ⟨n, rfl, wf_i64 hn⟩
    obtain ⟨n1, rfl, w1⟩ : ∃ n : Int, c1 = .sc (.int .i64 n) ∧ (-9223372036854775808 ≤ n ∧ n ≤ 9223372036854775807) := by
      cases h1 with
      | int _ n hn => exact ⟨n, rfl, wf_i64 hn⟩
    obtain ⟨n2, rfl, w2⟩ := ty_strs h2
    obtain ⟨n3, rfl, w3⟩ : ∃ n : Int, c3 = .sc (.int .i64 n) ∧ (-9223372036854775808 ≤ n ∧ n ≤ 9223372036854775807) := by
      cases h3 with
      | int _ n hn => exact ⟨n, rfl, wf_i64 hn⟩
    obtain ⟨n4, rfl, w4⟩ := ty_list DPiece.c DPiece.ok (fun r h => ty_Piece h) h4
    exact ⟨⟨n0, n1, n2, n3, n4⟩, rfl, ⟨w0, w1, w2, w3, w4⟩⟩

@[reducible] def rowProc : List Sh := [.int .i64, .sl rowNode, .int .i64, .int .i64, .int .i64, .int .i64, .int .i64, .int .i64, .int .i64, .sl [.str], .sl [.str]]
theorem ty_Proc {Cs : List C} (h : TyL rowProc Cs) : ∃ a : DProc, Cs = a.c ∧ a.ok := by
  match Cs, h with
  | [c0, c1, c2, c3, c4, c5, c6, c7, c8, c9, c10], ⟨h0, h1, h2, h3, h4, h5, h6, h7, h8, h9, h10, _⟩ =>
    obtain ⟨n0, rfl, w0⟩ : ∃ n : Int, c0 = .sc (.int .i64 n) ∧ (-9223372036854775808 ≤ n ∧ n ≤ 9223372036854775807) := by
      cases h0 with
      | int _ n hn => exact ⟨n, rfl, wf_i64 hn⟩
    obtain ⟨n1, rfl, w1⟩ := ty_list DNode.c DNode.ok (fun r h => ty_Node h) h1
    obtain ⟨n2, rfl, w2⟩ : ∃ n : Int, c2 = .sc (.int .i64 n) ∧ (-9223372036854775808 ≤ n ∧ n ≤ 9223372036854775807) := by
      cases h2 with
      | int _ n hn => exact ⟨n, rfl, wf_i64 hn⟩
    obtain ⟨n3, rfl, w3⟩ : ∃ n : Int, c3 = .sc (.int .i64 n) ∧ (-9223372036854775808 ≤ n ∧ n ≤ 9223372036854775807) := by
      cases h3 with
      | int _ n hn => exact ⟨n, rfl, wf_i64 hn⟩
    obtain ⟨n4, rfl, w4⟩ : ∃ n : Int, c4 = .sc (.int .i64 n) ∧ (-9223372036854775808 ≤ n ∧ n ≤ 9223372036854775807) := by
      cases h4 with
      | int _ n hn => exact ⟨n, rfl, wf_i64 hn⟩
    obtain ⟨n5, rfl, w5⟩ : ∃ n : Int, c5 = .sc (.int .i64 n) ∧ (-9223372036854775808 ≤ n ∧ n ≤ 9223372036854775807) := by
      cases h5 with
      | int _ n hn => exact ⟨n, rfl, wf_i64 hn⟩
    obtain ⟨n6, rfl, w6⟩ : ∃ n : Int, c6 = .sc (.int .i64 n) ∧ (-9223372036854775808 ≤ n ∧ n ≤ 9223372036854775807) := by
      cases h6 with
      | int _ n hn => exact ⟨n, rfl, wf_i64 hn⟩
    obtain ⟨n7, rfl, w7⟩ : ∃ n : Int, c7 = .sc (.int .i64 n) ∧ (-9223372036854775808 ≤ n ∧ n ≤ 9223372036854775807) := by
      cases h7 with
      | int _ n hn => exact ⟨n, rfl, wf_i64 hn⟩
    obtain ⟨n8, rfl, w8⟩ : ∃ n : Int, c8 = .sc (.int .i64 n) ∧ (-9223372036854775808 ≤ n ∧ n ≤ 9223372036854775807) := by
      cases h8 with
      | int _ n hn => exact ⟨n, rfl, wf_i64 hn⟩
    obtain ⟨n9, rfl, w9⟩ := ty_strs h9
    obtain ⟨n10, rfl, w10⟩ := ty_strs h10
    exact ⟨⟨n0, ⟨⟨n1⟩, n2, n3, n4, n5, n6, n7, n8⟩, n9, n10⟩, rfl, ⟨w0, ⟨w1, w2, w3, w4, w5, w6, w7, w8⟩, w9, w10⟩⟩

@[reducible] def rowHome : List Sh := [.int .i64, .int .i64, .sl rowNode, .int .i64, .int .i64, .int .i64, .int .i64, .int .i64, .int .i64, .int .i64, .sl [.str], .sl [.str]]
theorem ty_Home {Cs : List C} (h : TyL rowHome Cs) : ∃ a : DHome, Cs = a.c ∧ a.ok := by
  match Cs, h with
  | [c0, c1, c2, c3, c4, c5, c6, c7, c8, c9, c10, c11], ⟨h0, h1, h2, h3, h4, h5, h6, h7, h8, h9, h10, h11, _⟩ =>
    obtain ⟨n0, rfl, w0⟩ : ∃ n : Int, c0 = .sc (.int .i64 n) ∧ (-9223372036854775808 ≤ n ∧ n ≤ 9223372036854775807) := by
      cases h0 with
      | int _ n hn => exact ⟨n, rfl, wf_i64 hn⟩
    obtain ⟨n1, rfl, w1⟩ : ∃ n : Int, c1 = .sc (.int .i64 n) ∧ (-9223372036854775808 ≤ n ∧ n ≤ 9223372036854775807) := by
      cases h1 with
      | int _ n hn => exact ⟨n, rfl, wf_i64 hn⟩
    obtain ⟨n2, rfl, w2⟩ := ty_list DNode.c DNode.ok (fun r h => ty_Node h) h2
    obtain ⟨n3, rfl, w3⟩ : ∃ n : Int, c3 = .sc (.int .i64 n) ∧ (-9223372036854775808 ≤ n ∧ n ≤ 9223372036854775807) := by
      cases h3 with
      | int _ n hn => exact ⟨n, rfl, wf_i64 hn⟩
    obtain ⟨n4, rfl, w4⟩ : ∃ n : Int, c4 = .sc (.int .i64 n) ∧ (-9223372036854775808 ≤ n ∧ n ≤ 9223372036854775807) := by
      cases h4 with
      | int _ n hn => exact ⟨n, rfl, wf_i64 hn⟩
    obtain ⟨n5, rfl, w5⟩ : ∃ n : Int, c5 = .sc (.int .i64 n) ∧ (-9223372036854775808 ≤ n ∧ n ≤ 9223372036854775807) := by
      cases h5 with
      | int _ n hn => exact ⟨n, rfl, wf_i64 hn⟩
    obtain ⟨n6, rfl, w6⟩ : ∃ n : Int, c6 = .sc (.int .i64 n) ∧ (-9223372036854775808 ≤ n ∧ n ≤ 9223372036854775807) := by
      cases h6 with
      | int _ n hn => exact ⟨n, rfl, wf_i64 hn⟩
    obtain ⟨n7, rfl, w7⟩ : ∃ n : Int, c7 = .sc (.int .i64 n) ∧ (-9223372036854775808 ≤ n ∧ n ≤ 9223372036854775807) := by
      cases h7 with
      | int _ n hn => exact ⟨n, rfl, wf_i64 hn⟩
    obtain ⟨n8, rfl, w8⟩ : ∃ n : Int, c8 = .sc (.int .i64 n) ∧ (-9223372036854775808 ≤ n ∧ n ≤ 9223372036854775807) := by
      cases h8 with
      | int _ n hn => exact ⟨n, rfl, wf_i64 hn⟩
    obtain ⟨n9, rfl, w9⟩ : ∃ n : Int, c9 = .sc (.int .i64 n) ∧ (-9223372036854775808 ≤ n ∧ n ≤ 9223372036854775807) := by
      cases h9 with
      | int _ n hn => exact ⟨n, rfl, wf_i64 hn⟩
    obtain ⟨n10, rfl, w10⟩ := ty_strs h10
    obtain ⟨n11, rfl, w11⟩ := ty_strs h11
    exact ⟨⟨n0, ⟨n1, ⟨⟨n2⟩, n3, n4, n5, n6, n7, n8, n9⟩, n10, n11⟩⟩, rfl, ⟨w0, ⟨w1, ⟨w2, w3, w4, w5, w6, w7, w8, w9⟩, w10, w11⟩⟩⟩

@[reducible] def rowGram : List Sh := [.int .i64, .int .i64, .int .i64, .int .i64, .str]
theorem ty_Gram {Cs : List C} (h : TyL rowGram Cs) : ∃ a : DGram, Cs = a.c ∧ a.ok := by
  match Cs, h with
  | [c0, c1, c2, c3, c4], ⟨h0, h1, h2, h3, h4, _⟩ =>
    obtain ⟨n0, rfl, w0⟩ : ∃ n : Int, c0 = .sc (.int .i64 n) ∧ (-9223372036854775808 ≤ n ∧ n ≤ 9223372036854775807) := by
      cases h0 with
      | int _ n hn => exact ⟨n, rfl, wf_i64 hn⟩
    obtain ⟨n1, rfl, w1⟩ : ∃ n : Int, c1 = .sc (.int .i64 n) ∧ (-9223372036854775808 ≤ n ∧ n ≤ 9223372036854775807) := by
      cases h1 with
      | int _ n hn => exact ⟨n, rfl, wf_i64 hn⟩
    obtain ⟨n2, rfl, w2⟩ : ∃ n : Int, c2 = .sc (.int .i64 n) ∧ (-9223372036854775808 ≤ n ∧ n ≤ 9223372036854775807) := by
      cases h2 with
      | int _ n hn => exact ⟨n, rfl, wf_i64 hn⟩
    obtain ⟨n3, rfl, w3⟩ : ∃ n : Int, c3 = .sc (.int .i64 n) ∧ (-9223372036854775808 ≤ n ∧ n ≤ 9223372036854775807) := by
      cases h3 with
      | int _ n hn => exact ⟨n, rfl, wf_i64 hn⟩
    obtain ⟨n4, rfl, w4⟩ : ∃ s : ByteArray, c4 = .sc (.string s) ∧ s.size ≤ 9223372036854775807 := by
      cases h4 with
      | str s hs => exact ⟨s, rfl, maxLen_le hs⟩
    exact ⟨⟨n0, n1, n2, ⟨n3, n4⟩⟩, rfl, ⟨w0, w1, w2, ⟨w3, w4⟩⟩⟩

@[reducible] def rowParked : List Sh := [.int .i64, .int .i64, .str]
theorem ty_Parked {Cs : List C} (h : TyL rowParked Cs) : ∃ a : DParked, Cs = a.c ∧ a.ok := by
  match Cs, h with
  | [c0, c1, c2], ⟨h0, h1, h2, _⟩ =>
    obtain ⟨n0, rfl, w0⟩ : ∃ n : Int, c0 = .sc (.int .i64 n) ∧ (-9223372036854775808 ≤ n ∧ n ≤ 9223372036854775807) := by
      cases h0 with
      | int _ n hn => exact ⟨n, rfl, wf_i64 hn⟩
    obtain ⟨n1, rfl, w1⟩ : ∃ n : Int, c1 = .sc (.int .i64 n) ∧ (-9223372036854775808 ≤ n ∧ n ≤ 9223372036854775807) := by
      cases h1 with
      | int _ n hn => exact ⟨n, rfl, wf_i64 hn⟩
    obtain ⟨n2, rfl, w2⟩ : ∃ s : ByteArray, c2 = .sc (.string s) ∧ s.size ≤ 9223372036854775807 := by
      cases h2 with
      | str s hs => exact ⟨s, rfl, maxLen_le hs⟩
    exact ⟨⟨n0, n1, n2⟩, rfl, ⟨w0, w1, w2⟩⟩

@[reducible] def rowWorld : List Sh := [.sl rowNode, .sl rowInstr, .sl rowDef, .int .i64, .sl rowHome, .sl rowLink, .sl rowGram, .sl rowParked, .int .i64, .sl [.sl [.str]], .sl [.sl [.str]]]
theorem ty_World {Cs : List C} (h : TyL rowWorld Cs) : ∃ a : DWorld, Cs = a.c ∧ a.ok := by
  match Cs, h with
  | [c0, c1, c2, c3, c4, c5, c6, c7, c8, c9, c10], ⟨h0, h1, h2, h3, h4, h5, h6, h7, h8, h9, h10, _⟩ =>
    obtain ⟨n0, rfl, w0⟩ := ty_list DNode.c DNode.ok (fun r h => ty_Node h) h0
    obtain ⟨n1, rfl, w1⟩ := ty_list DInstr.c DInstr.ok (fun r h => ty_Instr h) h1
    obtain ⟨n2, rfl, w2⟩ := ty_list DDef.c DDef.ok (fun r h => ty_Def h) h2
    obtain ⟨n3, rfl, w3⟩ : ∃ n : Int, c3 = .sc (.int .i64 n) ∧ (-9223372036854775808 ≤ n ∧ n ≤ 9223372036854775807) := by
      cases h3 with
      | int _ n hn => exact ⟨n, rfl, wf_i64 hn⟩
    obtain ⟨n4, rfl, w4⟩ := ty_list DHome.c DHome.ok (fun r h => ty_Home h) h4
    obtain ⟨n5, rfl, w5⟩ := ty_list DLink.c DLink.ok (fun r h => ty_Link h) h5
    obtain ⟨n6, rfl, w6⟩ := ty_list DGram.c DGram.ok (fun r h => ty_Gram h) h6
    obtain ⟨n7, rfl, w7⟩ := ty_list DParked.c DParked.ok (fun r h => ty_Parked h) h7
    obtain ⟨n8, rfl, w8⟩ : ∃ n : Int, c8 = .sc (.int .i64 n) ∧ (-9223372036854775808 ≤ n ∧ n ≤ 9223372036854775807) := by
      cases h8 with
      | int _ n hn => exact ⟨n, rfl, wf_i64 hn⟩
    obtain ⟨n9, rfl, w9⟩ := ty_strss h9
    obtain ⟨n10, rfl, w10⟩ := ty_strss h10
    exact ⟨⟨⟨⟨n0⟩, n1, n2⟩, n3, n4, n5, n6, n7, n8, n9, n10⟩, rfl, ⟨⟨w0, w1, w2⟩, w3, w4, w5, w6, w7, w8, w9, w10⟩⟩

end Go.Proofs.YtcaonpncopfeoaaGreat.V
