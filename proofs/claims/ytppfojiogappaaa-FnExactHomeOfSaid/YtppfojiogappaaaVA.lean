/- Trees for what memory holds, and how a value of the machine stands for a tree: read (Rd), owned (Own). -/
import Derived.Laws.AppendOwn
import Derived.Laws.MakeOwn
import Derived.Laws.CopyRow
import Derived.RowKit3
import Derived.Calls
set_option linter.unusedVariables false
set_option linter.unusedSimpArgs false
namespace Go.Proofs.Ytppfojiogappaaa.V
open Go

/-- A cell's content: a value without memory behind it; nothing known; a slice by its elements, each a list of cells. -/
inductive C where
  | sc (v : Value)
  | any
  | sl (own : Bool) (n : Nat) (es : List (List C))

/-- 'v' stands for a tree in world 'w', all its blocks among 'I'. -/
inductive Rd (w : World) (I : Nat → Prop) : Value → C → Prop
  | sc (v : Value) : Rd w I v (.sc v)
  | any (v : Value) : Rd w I v .any
  | nil (b : Option Addr) (cap : Nat) (own : Bool) (n : Nat) : Rd w I (.slice b 0 cap) (.sl own n [])
  | row (b o len cap : Nat) (own : Bool) (n : Nat) (es : List (List C)) (u : Nat → Nat → Value)
      (hI : I b) (hlen : es.length = len) (hc : len ≤ cap)
      (hl : ∀ (i : Nat) (r : List C), es[i]? = some r → r.length = n)
      (hcell : ∀ i j, i < len → j < n → w.cell? ⟨b, o + i * n + j, none⟩ = some (u i j))
      (h1 : ∀ i j, i < len → j < n → (u i j).oneCell' = true)
      (hr : ∀ (i j : Nat) (r : List C) (c : C), es[i]? = some r → r[j]? = some c → Rd w I (u i j) c) :
      Rd w I (.slice (some ⟨b, o, none⟩) len cap) (.sl own n es)

/-- 'v' stands for a tree all of whose own slices lie in blocks of their own, among 'F'; what it shares is read. -/
inductive Own (w : World) (I : Nat → Prop) : (Nat → Prop) → Value → C → Prop
  | sc (F : Nat → Prop) (v : Value) : Own w I F v (.sc v)
  | any (F : Nat → Prop) (v : Value) : Own w I F v .any
  | rd (F : Nat → Prop) (v : Value) (n : Nat) (es : List (List C)) (h : Rd w I v (.sl false n es)) : Own w I F v (.sl false n es)
  | nil (F : Nat → Prop) (n : Nat) : Own w I F (.slice none 0 0) (.sl true n [])
  | row (F : Nat → Prop) (g o len cap n : Nat) (es : List (List C)) (cs : Array Value) (e : TypeId) (u : Nat → Nat → Value) (f : Nat → Nat → Nat → Prop)
      (hF : F g) (hff : ∀ i j x, f i j x → F x ∧ x ≠ g)
      (hd : ∀ i j i' j' x, f i j x → f i' j' x → i = i' ∧ j = j')
      (fr : Nat × Nat) (hfr : ∀ k, k < cs.size → ¬ (fr.1 ≤ k ∧ k < fr.2)) (hg : w.heap[g]? = some (.cells cs e fr)) (hsz : o + cap * n ≤ cs.size) (hn : 0 < n)
      (hlen : es.length = len) (hc : len ≤ cap) (hm : cap ≤ maxLen)
      (hl : ∀ (i : Nat) (r : List C), es[i]? = some r → r.length = n)
      (hcell : ∀ i j, i < len → j < n → cs[o + i * n + j]? = some (u i j))
      (h1 : ∀ i j, i < len → j < n → (u i j).oneCell' = true)
      (hr : ∀ (i j : Nat) (r : List C) (c : C), es[i]? = some r → r[j]? = some c → Own w I (f i j) (u i j) c) :
      Own w I F (.slice (some ⟨g, o, none⟩) len cap) (.sl true n es)

theorem cell_of {w : World} {g o : Nat} {cs : Array Value} {e : TypeId} {fr : Nat × Nat} (h : w.heap[g]? = some (.cells cs e fr)) : w.cell? ⟨g, o, none⟩ = cs[o]? := by
  simp [World.cell?, h]

theorem cell_agree {w w' : World} {b o : Nat} (h : w'.heap[b]? = w.heap[b]?) : w'.cell? ⟨b, o, none⟩ = w.cell? ⟨b, o, none⟩ := by
  simp [World.cell?, h]

theorem Rd.frame {w w' : World} {I I' : Nat → Prop} {v : Value} {c : C} (h : Rd w I v c) (hi : ∀ b, I b → I' b) (ha : ∀ b, I b → w'.heap[b]? = w.heap[b]?) : Rd w' I' v c := by
  induction h with
  | sc v => exact .sc v
  | any v => exact .any v
  | nil b cap own n => exact .nil b cap own n
  | row b o len cap own n es u hI hlen hc hl hcell h1 hr ih =>
    exact .row b o len cap own n es u (hi _ hI) hlen hc hl (fun i j h1 h2 => (cell_agree (ha b hI)).trans (hcell i j h1 h2)) h1 ih

theorem Rd.flag {w : World} {I : Nat → Prop} {v : Value} {own own' : Bool} {n : Nat} {es : List (List C)} (h : Rd w I v (.sl own n es)) : Rd w I v (.sl own' n es) := by
  cases h with
  | nil b cap => exact .nil b cap own' n
  | row b o len cap _ _ _ u hI hlen hc hl hcell h1 hr => exact .row b o len cap own' n es u hI hlen hc hl hcell h1 hr

theorem Own.frame {w w' : World} {I I' F F' : Nat → Prop} {v : Value} {c : C} (h : Own w I F v c) (hi : ∀ b, I b → I' b) (hf : ∀ b, F b → F' b)
    (haI : ∀ b, I b → w'.heap[b]? = w.heap[b]?) (haF : ∀ b, F b → w'.heap[b]? = w.heap[b]?) : Own w' I' F' v c := by
  induction h generalizing F' with
  | sc F v => exact .sc F' v
  | any F v => exact .any F' v
  | rd F v n es h => exact .rd F' v n es (h.frame hi haI)
  | nil F n => exact .nil F' n
  | row F g o len cap n es cs e u f hF hff hd fr hfr hg hsz hn hlen hc hm hl hcell h1 hr ih =>
    exact .row F' g o len cap n es cs e u f (hf _ hF) (fun i j x hx => ⟨hf _ (hff i j x hx).1, (hff i j x hx).2⟩) hd fr hfr ((haF g hF).trans hg) hsz hn hlen hc hm hl hcell h1
      (fun i j r c hr1 hr2 => ih i j r c hr1 hr2 (fun b hb => hb) (fun b hb => haF b (hff i j b hb).1))

theorem Own.rdOf {w : World} {I F : Nat → Prop} {v : Value} {c : C} (h : Own w I F v c) : Rd w (fun b => I b ∨ F b) v c := by
  induction h with
  | sc F v => exact .sc v
  | any F v => exact .any v
  | rd F v n es h => exact h.frame (fun b hb => .inl hb) (fun b _ => rfl)
  | nil F n => exact .nil none 0 true n
  | row F g o len cap n es cs e u f hF hff hd fr hfr hg hsz hn hlen hc hm hl hcell h1 hr ih =>
    exact .row g o len cap true n es u (.inr hF) hlen hc hl (fun i j hi hj => (cell_of hg).trans (hcell i j hi hj)) h1
      (fun i j r c hr1 hr2 => (ih i j r c hr1 hr2).frame (fun b hb => hb.imp id (fun h => (hff i j b h).1)) (fun b _ => rfl))

/-- What an own slice's header looks like. -/
theorem Own.form {w : World} {I F : Nat → Prop} {v : Value} {own : Bool} {n : Nat} {es : List (List C)} (h : Own w I F v (.sl own n es)) :
    ∃ a cap, v = .slice a es.length cap := by
  cases h with
  | rd _ _ _ _ h =>
    cases h with
    | nil b cap => exact ⟨b, cap, rfl⟩
    | row b o len cap _ _ _ u hI hlen => exact ⟨_, cap, by rw [hlen]⟩
  | nil => exact ⟨none, 0, rfl⟩
  | row _ g o len cap _ _ cs e u f hF hff hd fr hfr hg hsz hn hlen => exact ⟨_, cap, by rw [hlen]⟩

theorem Rd.form {w : World} {I : Nat → Prop} {v : Value} {own : Bool} {n : Nat} {es : List (List C)} (h : Rd w I v (.sl own n es)) :
    ∃ a cap, v = .slice a es.length cap := by
  cases h with
  | nil b cap => exact ⟨b, cap, rfl⟩
  | row b o len cap _ _ _ u hI hlen => exact ⟨_, cap, by rw [hlen]⟩

/-- An element of what is read. -/
theorem Rd.elem {w : World} {I : Nat → Prop} {v : Value} {own : Bool} {n : Nat} {es : List (List C)} (h : Rd w I v (.sl own n es)) {i : Nat} {r : List C} (hr : es[i]? = some r) :
    ∃ b o cap, v = .slice (some ⟨b, o, none⟩) es.length cap ∧ I b ∧ r.length = n ∧
      ∀ (j : Nat) (c : C), r[j]? = some c → ∃ u, w.cell? ⟨b, o + i * n + j, none⟩ = some u ∧ u.oneCell' = true ∧ Rd w I u c := by
  cases h with
  | nil b cap => simp at hr
  | row b o len cap _ _ _ u hI hlen hc hl hcell h1 hrr =>
    have hi : i < len := by rw [← hlen]; exact (List.getElem?_eq_some_iff.1 hr).1
    refine ⟨b, o, cap, by rw [hlen], hI, hl i r hr, fun j c hj => ?_⟩
    have hj' : j < n := by rw [← hl i r hr]; exact (List.getElem?_eq_some_iff.1 hj).1
    exact ⟨u i j, hcell i j hi hj', h1 i j hi hj', hrr i j r c hr hj⟩

/-- A part of what is read. -/
theorem Rd.part {w : World} {I : Nat → Prop} {a : Option Addr} {len cap : Nat} {own : Bool} {n : Nat} {es : List (List C)} (h : Rd w I (.slice a len cap) (.sl own n es)) (lo hi cap' : Nat) (h1 : lo ≤ hi) (h2 : hi ≤ len) (hc' : hi - lo ≤ cap') (a' : Option Addr)
    (ha : lo < hi → ∀ b o, a = some ⟨b, o, none⟩ → a' = some ⟨b, o + lo * n, none⟩) : Rd w I (.slice a' (hi - lo) cap') (.sl own n ((es.take hi).drop lo)) := by
  rcases Nat.eq_or_lt_of_le h1 with rfl | hlt
  · have : (es.take lo).drop lo = [] := by simp
    rw [this, Nat.sub_self]
    exact .nil _ _ _ _
  · cases h with
    | nil b cap => omega
    | row b o len cap _ _ _ u hI hlen hc hl hcell h1 hrr =>
      rw [ha hlt b o rfl]
      refine .row b (o + lo * n) (hi - lo) cap' own n _ (fun i j => u (lo + i) j) hI (by simp; omega) hc' (fun i r hr => ?_) (fun i j hi' hj => ?_) (fun i j hi' hj => h1 _ _ (by omega) hj) (fun i j r c hr hj => ?_)
      · rw [List.getElem?_drop, List.getElem?_take] at hr
        split at hr
        · exact hl _ r hr
        · cases hr
      · have := hcell (lo + i) j (by omega) hj
        rwa [Nat.add_mul, ← Nat.add_assoc] at this
      · rw [List.getElem?_drop, List.getElem?_take] at hr
        split at hr
        · exact hrr _ j r c hr hj
        · cases hr

end Go.Proofs.Ytppfojiogappaaa.V
