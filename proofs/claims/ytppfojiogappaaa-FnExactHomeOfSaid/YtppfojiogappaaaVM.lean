/- append: how it runs, its rule. -/
import Derived.Test.YtppfojiogappaaaVL
set_option linter.unusedVariables false
set_option linter.unusedSimpArgs false
namespace Go.Proofs.Ytppfojiogappaaa.V
open Go Classical

section
variable {P : Program}

/-- What append takes its second operand for: how many elements, which cells. -/
structure SrcOk (P : Program) (w : World) (t2 size m : Nat) (x : Value) (vs : List Value) : Prop where
  ty : ∃ d, P.underlying t2 = some d ∧ (d matches .int _) = false
  len : ∀ w', (Builtin.lenOf x).run P w' = .ok m w'
  cells : ∀ w' : World, w'.heap = w.heap → (Builtin.firstCells size m x).run P w' = .ok vs.toArray w'

theorem src_string (w : World) (t2 : Nat) (s : ByteArray) (h : P.underlying t2 = some .string) : SrcOk P w t2 1 s.size (.string s) (s.data.toList.map fun b => .int .u8 b.toNat) := by
  refine ⟨⟨_, h, rfl⟩, fun w' => by simp [Builtin.lenOf], fun w' _ => ?_⟩
  have hx : s.extract 0 s.size = s := by
    apply ByteArray.ext
    simp [ByteArray.data_extract]
  simp [Builtin.firstCells, hx]
  apply Array.ext'
  simp

theorem src_slice (w : World) (t2 e size : Nat) (v : Value) (a : Option Addr) (m c : Nat) (hv : v = .slice a m c) (h : P.underlying t2 = some (.slice e)) (vs : List Value) (hl : vs.length = m * size)
    (hc : ∀ (k : Nat) (u : Value), vs[k]? = some u → ∃ b o, a = some ⟨b, o, none⟩ ∧ w.cell? ⟨b, o + k, none⟩ = some u) : SrcOk P w t2 size m v vs := by
  subst hv
  refine ⟨⟨_, h, rfl⟩, fun w' => by simp [Builtin.lenOf], fun w' hw => ?_⟩
  cases a with
  | none =>
    have : vs = [] := by
      cases vs with
      | nil => rfl
      | cons v r =>
        obtain ⟨b, o, e, _⟩ := hc 0 v rfl
        cases e
    subst this
    simp [Builtin.firstCells]
  | some ad =>
    refine run_firstCells_some w' size m ad m c vs hl fun j u hu => ?_
    obtain ⟨b, o, e, hcell⟩ := hc j u hu
    cases e
    rw [add_eq]
    simpa [World.cell?, hw] using hcell

theorem run_append_in {w : World} {t t2 ty e : Nat} {i : TypeInfo} {x : Value} {vs : List Value} {m g o sLen sCap : Nat} {cur : Array Value} {el : TypeId} {fr : Nat × Nat}
    (ht : P.underlying t = some (.slice e)) (hi : P.info? e = some i) (hs : SrcOk P w t2 i.size m x vs) (hroom : sLen + m ≤ sCap)
    (hg : w.heap[g]? = some (.cells cur el fr)) (hfr : ∀ k, k < cur.size → ¬ (fr.1 ≤ k ∧ k < fr.2)) (hb : o + sLen * i.size + vs.length ≤ cur.size) (h1 : ∀ v ∈ vs, v.oneCell' = true) :
    (Builtin.append_ #[t, t2] ty #[.slice (some ⟨g, o, none⟩) sLen sCap, x]).run P w = .ok (.slice (some ⟨g, o, none⟩) (sLen + m) sCap) (w.setRow g (spl cur (o + sLen * i.size) vs)) := by
  obtain ⟨⟨d, hd, hdz⟩, hl, hc⟩ := hs
  have hst := run_stores (P := P) g (o + sLen * i.size) el fr vs 0 cur w hg hfr (by omega) h1
  simp only [Nat.add_zero] at hst
  simp [Builtin.append_, run_underlying ht, run_underlying hd, sizeOf, typeInfo, hi, hl, hroom, hc w rfl, add_eq, hst]
  cases d <;> first | (simp at hdz; done) | simp

theorem run_append_zero {w : World} {t t2 ty e : Nat} {i : TypeInfo} {x : Value} {vs : List Value}
    (ht : P.underlying t = some (.slice e)) (hi : P.info? e = some i) (hs : SrcOk P w t2 i.size 0 x vs) :
    (Builtin.append_ #[t, t2] ty #[.slice none 0 0, x]).run P w = .ok (.slice none 0 0) w := by
  obtain ⟨⟨d, hd, hdz⟩, hl, hc⟩ := hs
  simp [Builtin.append_, run_underlying ht, run_underlying hd, sizeOf, typeInfo, hi, hl, hc w rfl]
  cases d <;> first | (simp at hdz; done) | simp [hc w rfl]

theorem run_append_new {w : World} {t t2 ty e : Nat} {i : TypeInfo} {z : Value} {x : Value} {vs olds : List Value} {m sLen sCap : Nat} {base : Option Addr}
    (ht : P.underlying t = some (.slice e)) (hi : P.info? e = some i) (hz : i.zero = some z) (hs : SrcOk P w t2 i.size m x vs)
    (hold : ∀ w' : World, w'.heap = w.heap → (Builtin.firstCells i.size sLen (.slice base sLen sCap)).run P w' = .ok olds.toArray w')
    (hg : sCap < sLen + m) (h63 : ((sLen + m : Nat) : Int) ≤ 9223372036854775807) (hfit : Builtin.nextslicecap (sLen + m) sCap * i.bytes ≤ 281474976710656) :
    (Builtin.append_ #[t, t2] ty #[.slice base sLen sCap, x]).run P w =
      .ok (.slice (some ⟨w.heap.size, 0, none⟩) (sLen + m) (grownCap w (sLen + m) sCap e))
        (w.drew.alloc (.cells (olds.toArray ++ vs.toArray ++ Builtin.zeroCells z.cells (grownCap w (sLen + m) sCap e - (sLen + m))) e)) := by
  obtain ⟨⟨d, hd, hdz⟩, hl, hc⟩ := hs
  have hn : ¬ (sLen + m ≤ sCap) := by omega
  have h63' : ¬ (9223372036854775807 < ((sLen : Int) + (m : Int))) := by omega
  have h48' : ¬ (281474976710656 < Builtin.nextslicecap (sLen + m) sCap * i.bytes) := by omega
  have hc' := hc w.drew rfl
  have ho' := hold w.drew rfl
  simp [Builtin.append_, run_underlying ht, run_underlying hd, sizeOf, typeInfo, zeroValue, hi, hz, hl, hn, h63', h48', Question.forced, newRow, grownCap]
  cases d <;> first
    | (simp at hdz; done)
    | (simp [h48', hc', ho', Question.forced, grownCap, newRow, typeInfo, hi, zeroValue, hz]
       congr 2
       apply Array.ext'
       simp [List.append_assoc])

end
end Go.Proofs.Ytppfojiogappaaa.V
