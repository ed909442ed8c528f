/- Slices that the call makes: laid, appended to. -/
import Derived.Test.YtppfojiogappaaaVK
set_option linter.unusedVariables false
set_option linter.unusedSimpArgs false
namespace Go.Proofs.Ytppfojiogappaaa.V
open Go Classical

def newReg (regs : List (Nat × Reg)) (d : Nat) (pure : Bool) (n : Nat) (es : List (List C)) : Reg :=
  match get regs d with
  | some r => ⟨true, r.gen + 1, r.iv + 1, pure, n, es⟩
  | none => ⟨true, 0, 0, pure, n, es⟩

/-- A new slice goes into the operation's slot; regs 'ks' are given up for it. -/
def layK (nt : Nat) (o : Oper) (s : S) (ks : List Nat) (pure : Bool) (n : Nat) (es : List (List C)) (k : S → Prop) : Prop :=
  match o.dst with
  | some d => putK nt o { s with regs := put (kill s.regs ks) d (newReg (kill s.regs ks) d pure n es) } (.vals false [.ref d (newReg (kill s.regs ks) d pure n es).gen]) k
  | none => False

theorem newReg_es (regs : List (Nat × Reg)) (d : Nat) (pure : Bool) (n : Nat) (es : List (List C)) :
    (newReg regs d pure n es).live = true ∧ (newReg regs d pure n es).pure = pure ∧ (newReg regs d pure n es).n = n ∧ (newReg regs d pure n es).es = es ∧
      ∀ r, get regs d = some r → r.gen < (newReg regs d pure n es).gen ∧ r.iv < (newReg regs d pure n es).iv := by
  unfold newReg
  cases h : get regs d with
  | none => exact ⟨rfl, rfl, rfl, rfl, fun r e => by cases e⟩
  | some r0 => exact ⟨rfl, rfl, rfl, rfl, fun r e => by cases e; exact ⟨by simp, by simp⟩⟩

section
variable {P : Program} {w0 : World} {A : AA} {B : List (Nat × Nat × Nat)} {nt : Nat} {τ : Nat → Option TD}

theorem lay {o : Oper} {s : S} {a : Act} {w w' : World} {g : G} {k : S → Prop} {next : Act → World → Prop} {Q : Exit → Act → World → Prop} {v : Value}
    (hdf : a.defers = []) (hsz : a.tmps.size = nt) (hs : SlotsOk g s nt a w) (hm : Mem w0 A B g s w) (ks : List Nat) (hx : Ext w0 A B w') (hhs : w.heap.size ≤ w'.heap.size)
    (hk : ∀ x, x < w.heap.size → (∀ c, memb ks c = true → g.ow x ≠ .reg c) → w'.heap[x]? = w.heap[x]?) (F : Nat → Prop)
    (hF : ∀ x, F x → ((∃ c, memb ks c = true ∧ g.F c x) ∨ w.heap.size ≤ x) ∧ x < w'.heap.size) (pure : Bool) (n : Nat) (es : List (List C))
    (hO : Own w' (if pure then fun _ => False else g.I) F v (.sl true n es))
    (hrun : (execOp a.eval o).run P w = .ok (.value v) w') (hK : layK nt o s ks pure n es k)
    (hn : ∀ s' a' w', Real w0 A B nt s' a' w' → k s' → next a' w') : o.wp P a w next Q := by
  unfold layK at hK
  split at hK
  · rename_i d hd
    obtain ⟨hst1, hm1⟩ := hm.change ks (fun _ => False) hx hhs (fun x hx' h1 _ => hk x hx' h1)
    have hm1 := hm1 (fun b x hb h => h.elim)
    obtain ⟨e1, e2, e3, e4, e5⟩ := newReg_es (kill s.regs ks) d pure n es
    obtain ⟨hst2, hm2⟩ := hm1.adopt d (newReg (kill s.regs ks) d pure n es) F v (fun x hx' => by
      obtain ⟨h1, h2⟩ := hF x hx'
      refine ⟨(release_none g ks x).2 ?_, h2, ?_⟩
      · rcases h1 with ⟨c, hc, hf⟩ | h1
        · exact .inr ⟨c, hf, hc⟩
        · refine .inl ?_
          by_cases h : g.ow x = .none
          · exact h
          · have := hm.lt x h
            omega
      · rcases h1 with ⟨c, hc, hf⟩ | h1
        · exact hm.fr x c hf
        · have := hm.ext.size
          exact .inr (by omega)) (by rw [e2, e3, e4, release_I]; exact hO) e5
    refine finish hdf hsz hs (hst1.trans hst2) hm2 rfl hrun (e := .vals false [.ref d (newReg (kill s.regs ks) d pure n es).gen]) ⟨_, rfl, ?_⟩ hK hn
    exact ⟨_, get_put_same _ _ _, Nat.le_refl _, fun _ _ => by simp [G.adopt]⟩
  · exact hK.elim

end

/-- A new block that holds elements. -/
theorem Own.fresh {w : World} {I : Nat → Prop} {g len cap n : Nat} {es : List (List C)} {cs : Array Value} {e : TypeId} {fr : Nat × Nat} (us : Nat → Nat → Value) (fs : Nat → Nat → Nat → Prop) (F : Nat → Prop)
    (hg : w.heap[g]? = some (.cells cs e fr)) (hfr : ∀ k, k < cs.size → ¬ (fr.1 ≤ k ∧ k < fr.2)) (hsz : cap * n ≤ cs.size) (hn : 0 < n) (hlen : es.length = len) (hc : len ≤ cap) (hm : cap ≤ maxLen)
    (hl : ∀ (i : Nat) (r : List C), es[i]? = some r → r.length = n) (hcell : ∀ i j, i < len → j < n → cs[i * n + j]? = some (us i j)) (h1 : ∀ i j, i < len → j < n → (us i j).oneCell' = true)
    (hF : F g) (hff : ∀ i j x, fs i j x → F x ∧ x ≠ g) (hd : ∀ i j i' j' x, fs i j x → fs i' j' x → i = i' ∧ j = j')
    (hr : ∀ (i j : Nat) (r : List C) (c : C), es[i]? = some r → r[j]? = some c → Own w I (fs i j) (us i j) c) : Own w I F (.slice (some ⟨g, 0, none⟩) len cap) (.sl true n es) :=
  .row F g 0 len cap n es cs e us fs hF hff hd fr hfr hg (by simpa using hsz) hn hlen hc hm hl (fun i j hi hj => by rw [Nat.zero_add]; exact hcell i j hi hj) h1 hr

/-- Elements to come behind others: their cells, whose they are. -/
structure News (w : World) (I : Nat → Prop) (n : Nat) (es : List (List C)) (vs : List Value) (us : Nat → Nat → Value) (fs : Nat → Nat → Nat → Prop) : Prop where
  len : vs.length = es.length * n
  rows : ∀ (i : Nat) (r : List C), es[i]? = some r → r.length = n
  at_ : ∀ i j, i < es.length → j < n → vs[i * n + j]? = some (us i j)
  one : ∀ i j, i < es.length → j < n → (us i j).oneCell' = true
  own : ∀ (i j : Nat) (r : List C) (c : C), es[i]? = some r → r[j]? = some c → Own w I (fs i j) (us i j) c
  dis : ∀ i j i' j' x, fs i j x → fs i' j' x → i = i' ∧ j = j'

theorem News.ones {w : World} {I : Nat → Prop} {n : Nat} {es : List (List C)} {vs : List Value} {us : Nat → Nat → Value} {fs : Nat → Nat → Nat → Prop} (h : News w I n es vs us fs) (hn : 0 < n) : ∀ v ∈ vs, v.oneCell' = true := by
  intro v hv
  obtain ⟨k, hk, rfl⟩ := List.mem_iff_getElem.1 hv
  have hi : k / n < es.length := by
    rw [h.len] at hk
    exact (Nat.div_lt_iff_lt_mul hn).2 hk
  have hj : k % n < n := Nat.mod_lt _ hn
  have he : k / n * n + k % n = k := by rw [Nat.mul_comm]; exact Nat.div_add_mod k n
  have := h.at_ _ _ hi hj
  rw [he, List.getElem?_eq_getElem hk] at this
  rw [Option.some.inj this]
  exact h.one _ _ hi hj

/-- Behind an append within the capacity. -/
theorem Own.room {w : World} {I F : Nat → Prop} {g o len cap n : Nat} {es : List (List C)} (h : Own w I F (.slice (some ⟨g, o, none⟩) len cap) (.sl true n es)) {es1 : List (List C)} {vs : List Value} {us : Nat → Nat → Value} {fs : Nat → Nat → Nat → Prop}
    {I' : Nat → Prop} (hN : News w I' n es1 vs us fs) (hfit : len + es1.length ≤ cap) (hI : ∀ b, I b → I' b) (hIF : ∀ b, F b → ¬ I' b) (F' : Nat → Prop) (hF : ∀ b, F b → F' b) (hfF : ∀ i j x, fs i j x → F' x ∧ ¬ F x) :
    ∃ cur e fr, w.heap[g]? = some (.cells cur e fr) ∧ F g ∧ (∀ k, k < cur.size → ¬ (fr.1 ≤ k ∧ k < fr.2)) ∧ o + len * n + vs.length ≤ cur.size ∧
      Own (w.setRow g (spl cur (o + len * n) vs)) I' F' (.slice (some ⟨g, o, none⟩) (len + es1.length) cap) (.sl true n (es ++ es1)) := by
  cases h with
  | row _ _ _ _ _ _ _ cur e u f hFg hff hd fr hfr hg hsz hn hl0 hc hm hl hcell h1 hrr =>
    have hb : o + len * n + vs.length ≤ cur.size := by
      rw [hN.len]
      have h2 : (len + es1.length) * n ≤ cap * n := Nat.mul_le_mul_right n hfit
      rw [Nat.add_mul] at h2
      omega
    have hw : ∀ b, b ≠ g → (w.setRow g (spl cur (o + len * n) vs)).heap[b]? = w.heap[b]? := fun b hb => setRow_other w g b _ hb
    refine ⟨cur, e, fr, hg, hFg, hfr, hb, ?_⟩
    refine .row F' g o (len + es1.length) cap n _ (spl cur (o + len * n) vs) e (fun i j => if i < len then u i j else us (i - len) j) (fun i j x => if i < len then f i j x else fs (i - len) j x) (hF _ hFg)
      (fun i j x hx => ?_) (fun i j i' j' x hx hx' => ?_) fr (by rw [spl_size _ _ _ hb]; exact hfr) (setRow_heap w g cur _ e fr hg) (by rw [spl_size _ _ _ hb]; exact hsz) hn (by simp [hl0]) hfit hm
      (fun i r hr => ?_) (fun i j hi hj => ?_) (fun i j hi hj => ?_) (fun i j r c hr hj => ?_)
    · split at hx
      · exact ⟨hF _ (hff i j x hx).1, (hff i j x hx).2⟩
      · exact ⟨(hfF _ _ _ hx).1, fun e => (hfF _ _ _ hx).2 (e ▸ hFg)⟩
    · split at hx
      · split at hx'
        · exact hd _ _ _ _ x hx hx'
        · exact absurd (hff _ _ x hx).1 (hfF _ _ _ hx').2
      · split at hx'
        · exact absurd (hff _ _ x hx').1 (hfF _ _ _ hx).2
        · have := hN.dis _ _ _ _ x hx hx'
          omega
    · by_cases hi : i < len
      · rw [List.getElem?_append_left (by omega)] at hr
        exact hl i r hr
      · rw [List.getElem?_append_right (by omega)] at hr
        exact hN.rows _ r hr
    · by_cases hil : i < len
      · simp only [hil, if_true]
        rw [spl_out _ _ _ hb _ ?_]
        · exact hcell i j hil hj
        · left
          have := place_lt hil hj
          omega
      · simp only [hil, if_false]
        have h2 := hN.at_ (i - len) j (by omega) hj
        have h3 := spl_in cur (o + len * n) vs hb ((i - len) * n + j) (List.getElem?_eq_some_iff.1 h2).1
        have h4 : o + len * n + ((i - len) * n + j) = o + i * n + j := by
          have : len * n + (i - len) * n = i * n := by rw [← Nat.add_mul]; congr 1; omega
          omega
        rw [h4] at h3
        rw [h3, h2]
    · by_cases hil : i < len
      · simp only [hil, if_true]
        exact h1 i j hil hj
      · simp only [hil, if_false]
        exact hN.one _ _ (by omega) hj
    · by_cases hi : i < len
      · simp only [hi, if_true]
        rw [List.getElem?_append_left (by omega)] at hr
        refine (hrr i j r c hr hj).frame hI (fun _ h => h) (fun x hx => hw x fun e => ?_) (fun x hx => hw x fun e => ?_)
        · exact hIF g hFg (e ▸ hI _ hx)
        · exact (hff i j x hx).2 e
      · simp only [hi, if_false]
        rw [List.getElem?_append_right (by omega), hl0] at hr
        refine (hN.own _ _ r c hr hj).frame (fun _ h => h) (fun _ h => h) (fun x hx => hw x fun e => ?_) (fun x hx => hw x fun e => ?_)
        · exact hIF g hFg (e ▸ hx)
        · exact (hfF _ _ x hx).2 (e ▸ hFg)

/-- Behind an append into a new block 'g'. -/
theorem Own.grow {w w' : World} {I F : Nat → Prop} {v : Value} {n : Nat} {es : List (List C)} (h : Own w I F v (.sl true n es)) {es1 : List (List C)} {vs : List Value} {us : Nat → Nat → Value} {fs : Nat → Nat → Nat → Prop}
    {I' : Nat → Prop} (hN : News w I' n es1 vs us fs) (hI : ∀ b, I b → I' b) (F' : Nat → Prop) (hF : ∀ b, F b → F' b) (hfF : ∀ i j x, fs i j x → F' x ∧ ¬ F x)
    {g cap : Nat} {cs : Array Value} {e : TypeId} (olds : List Value) (holds : ∀ i j, i < es.length → j < n → ∀ a cp, v = .slice a es.length cp → ∃ b o, a = some ⟨b, o, none⟩ ∧ w.cell? ⟨b, o + i * n + j, none⟩ = olds[i * n + j]?)
    (hol : olds.length = es.length * n) (hn : 0 < n) (hg : w'.heap[g]? = some (.cells cs e (0, 0))) (hcs : ∀ k, k < olds.length + vs.length → cs[k]? = (olds ++ vs)[k]?) (hsz : cap * n ≤ cs.size) (hc : es.length + es1.length ≤ cap) (hm : cap ≤ maxLen)
    (hw : ∀ b, I' b ∨ F' b → b ≠ g → w'.heap[b]? = w.heap[b]?) (hgF : F' g) (hgI : ¬ I' g) (hgn : ¬ F g) (hgf : ∀ i j, ¬ fs i j g) :
    Own w' I' F' (.slice (some ⟨g, 0, none⟩) (es.length + es1.length) cap) (.sl true n (es ++ es1)) := by
  have hold : ∃ (u : Nat → Nat → Value) (f : Nat → Nat → Nat → Prop), (∀ i j, i < es.length → j < n → olds[i * n + j]? = some (u i j) ∧ (u i j).oneCell' = true) ∧ (∀ i j x, f i j x → F x) ∧
      (∀ i j i' j' x, f i j x → f i' j' x → i = i' ∧ j = j') ∧ (∀ (i : Nat) (r : List C), es[i]? = some r → r.length = n) ∧ ∀ (i j : Nat) (r : List C) (c : C), es[i]? = some r → r[j]? = some c → Own w I (f i j) (u i j) c := by
    cases h with
    | nil => exact ⟨fun _ _ => undef, fun _ _ _ => False, fun i j hi => by simp at hi, fun _ _ _ h => h.elim, fun _ _ _ _ _ h => h.elim, fun i r hr => by simp at hr, fun i j r c hr => by simp at hr⟩
    | row _ gb o len cp _ _ cur el u f hFg hff hd fr hfr hgb hszb hnb hl0 hcb hmb hl hcell h1 hrr =>
      refine ⟨u, f, fun i j hi hj => ?_, fun i j x hx => (hff i j x hx).1, hd, hl, hrr⟩
      obtain ⟨b, ob, e1, e2⟩ := holds i j hi hj _ cp (by rw [hl0])
      cases e1
      rw [cell_of hgb, hcell i j (by omega) hj] at e2
      exact ⟨e2.symm, h1 i j (by omega) hj⟩
  obtain ⟨u, f, f1, f2, f3, f4, f5⟩ := hold
  refine Own.fresh (fun i j => if i < es.length then u i j else us (i - es.length) j) (fun i j x => if i < es.length then f i j x else fs (i - es.length) j x) F' hg (fun k _ h => by simp at h) hsz hn (by simp) hc hm
    (fun i r hr => ?_) (fun i j hi hj => ?_) (fun i j hi hj => ?_) hgF (fun i j x hx => ?_) (fun i j i' j' x hx hx' => ?_) (fun i j r c hr hj => ?_)
  · by_cases hi : i < es.length
    · rw [List.getElem?_append_left hi] at hr
      exact f4 i r hr
    · rw [List.getElem?_append_right (by omega)] at hr
      exact hN.rows _ r hr
  · have hlt : i * n + j < olds.length + vs.length := by
      have := place_lt (len := es.length + es1.length) hi hj
      rw [hol, hN.len, ← Nat.add_mul]
      exact this
    rw [hcs _ hlt]
    by_cases hil : i < es.length
    · simp only [hil, if_true]
      rw [List.getElem?_append_left (by rw [hol]; exact place_lt hil hj)]
      exact (f1 i j hil hj).1
    · simp only [hil, if_false]
      have h4 : i * n + j - olds.length = (i - es.length) * n + j := by
        have : es.length * n + (i - es.length) * n = i * n := by rw [← Nat.add_mul]; congr 1; omega
        omega
      have h5 : olds.length ≤ i * n + j := by
        have : es.length * n ≤ i * n := Nat.mul_le_mul_right n (by omega)
        omega
      rw [List.getElem?_append_right h5, h4]
      exact hN.at_ _ _ (by omega) hj
  · by_cases hil : i < es.length
    · simp only [hil, if_true]
      exact (f1 i j hil hj).2
    · simp only [hil, if_false]
      exact hN.one _ _ (by omega) hj
  · split at hx
    · exact ⟨hF _ (f2 i j x hx), fun e => hgn (e ▸ f2 i j x hx)⟩
    · exact ⟨(hfF _ _ _ hx).1, fun e => hgf _ _ (e ▸ hx)⟩
  · split at hx
    · split at hx'
      · exact f3 _ _ _ _ x hx hx'
      · exact absurd (f2 _ _ x hx) (hfF _ _ _ hx').2
    · split at hx'
      · exact absurd (f2 _ _ x hx') (hfF _ _ _ hx).2
      · have := hN.dis _ _ _ _ x hx hx'
        omega
  · by_cases hi : i < es.length
    · simp only [hi, if_true]
      rw [List.getElem?_append_left hi] at hr
      refine (f5 i j r c hr hj).frame hI (fun _ h => h) (fun x hx => hw x (.inl (hI _ hx)) fun e => hgI (e ▸ hI _ hx)) (fun x hx => hw x (.inr (hF _ (f2 i j x hx))) fun e => hgn (e ▸ f2 i j x hx))
    · simp only [hi, if_false]
      rw [List.getElem?_append_right (by omega)] at hr
      refine (hN.own _ _ r c hr hj).frame (fun _ h => h) (fun _ h => h) (fun x hx => hw x (.inl hx) fun e => hgI (e ▸ hx)) (fun x hx => hw x (.inr (hfF _ _ _ hx).1) fun e => hgf _ _ (e ▸ hx))

end Go.Proofs.Ytppfojiogappaaa.V
