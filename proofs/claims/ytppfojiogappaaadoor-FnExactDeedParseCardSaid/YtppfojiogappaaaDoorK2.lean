/- Part 2 of what the row leans on: M2, M2. -/
import Derived.Test.YtppfojiogappaaaDoorK1
import Derived.Laws.StructEq
set_option linter.unusedVariables false

set_option linter.unusedSimpArgs false

namespace Go.Proofs.YtppfojiogappaaaDoor.V

open Go Classical

def newReg (regs : List (Nat × Reg)) (d : Nat) (pure : Bool) (n : Nat) (es : List (List C)) : Reg :=
  match get regs d with
  | some r => ⟨true, r.gen + 1, r.iv + 1, pure, n, es⟩
  | none => (match resv d with
    | true => ⟨true, 1, 0, pure, n, es⟩
    | false => ⟨true, 0, 0, pure, n, es⟩)

def layK (nt : Nat) (o : Oper) (s : S) (ks : List Nat) (pure : Bool) (n : Nat) (es : List (List C)) (k : S → Prop) : Prop :=
  match o.dst with
  | some d => putK nt o { s with regs := put (kill s.regs ks) d (newReg (kill s.regs ks) d pure n es) } (.vals false [.ref d (newReg (kill s.regs ks) d pure n es).gen]) k
  | none => False

theorem newReg_es (regs : List (Nat × Reg)) (d : Nat) (pure : Bool) (n : Nat) (es : List (List C)) :
    (newReg regs d pure n es).live = true ∧ (newReg regs d pure n es).pure = pure ∧ (newReg regs d pure n es).n = n ∧ (newReg regs d pure n es).es = es ∧
      (∀ r, get regs d = some r → r.gen < (newReg regs d pure n es).gen ∧ r.iv < (newReg regs d pure n es).iv) ∧ (resv d = true → (newReg regs d pure n es).gen ≠ 0) := by
  unfold newReg
  cases h : get regs d with
  | none =>
    cases hr : resv d with
    | true => exact ⟨rfl, rfl, rfl, rfl, fun r e => (by cases e), fun _ => by simp⟩
    | false => exact ⟨rfl, rfl, rfl, rfl, fun r e => (by cases e), fun h => by cases h⟩
  | some r0 => exact ⟨rfl, rfl, rfl, rfl, fun r e => (by cases e; exact ⟨by simp, by simp⟩), fun _ => by simp⟩

section

variable {P : Program} {w0 : World} {A : AA} {B : List (Nat × Nat × Nat)} {nt : Nat} {τ : Nat → Option TD}

theorem lay {o : Oper} {s : S} {a : Act} {w w' : World} {g : G} {k : S → Prop} {next : Act → World → Prop} {Q : Exit → Act → World → Prop} {v : Value}
    (hdf : a.defers = []) (hsz : a.tmps.size = nt) (hs : SlotsOk g s nt a w) (hm : Mem w0 A B g s w) (ks : List Nat) (hx : Ext w0 A B w') (hhs : w.heap.size ≤ w'.heap.size)
    (hk : ∀ x, x < w.heap.size → (∀ c, memb ks c = true → g.ow x ≠ .reg c) → w'.heap[x]? = w.heap[x]?) (F : Nat → Prop)
    (hF : ∀ x, F x → ((∃ c, memb ks c = true ∧ g.F c x) ∨ w.heap.size ≤ x) ∧ x < w'.heap.size) (pure : Bool) (n : Nat) (es : List (List C))
    (hO : Own w' (if pure then fun _ => False else g.I) F v (.sl true n es))
    (hrun : (execOp a.eval o).run P w = .ok (.value v) w') (hK : layK nt o s ks pure n es k)
    (hn : ∀ s' a' w', Real w0 A B nt s' a' w' → k s' → next a' w') : o.wp P a w next Q := by
  unfold layK at hK
  split at hK
  · rename_i d hd
    obtain ⟨hst1, hm1⟩ := hm.change ks (fun _ => False) hx hhs (fun x hx' h1 _ => hk x hx' h1)
    have hm1 := hm1 (fun b x hb h => h.elim)
    obtain ⟨e1, e2, e3, e4, e5, e6⟩ := newReg_es (kill s.regs ks) d pure n es
    obtain ⟨hst2, hm2⟩ := hm1.adopt d (newReg (kill s.regs ks) d pure n es) F v (fun x hx' => by
      obtain ⟨h1, h2⟩ := hF x hx'
      refine ⟨(release_none g ks x).2 ?_, h2, ?_⟩
      · rcases h1 with ⟨c, hc, hf⟩ | h1
        · exact .inr ⟨c, hf, hc⟩
        · refine .inl ?_
          by_cases h : g.ow x = .none
          · exact h
          · have := hm.lt x h
            omega
      · rcases h1 with ⟨c, hc, hf⟩ | h1
        · exact hm.fr x c hf
        · have := hm.ext.size
          exact .inr (by omega)) (by rw [e2, e3, e4, release_I]; exact hO) e5 (fun hp => e6 (hm1.pl.2 d hp).1)
    refine finish hdf hsz hs (hst1.trans hst2) hm2 rfl hrun (e := .vals false [.ref d (newReg (kill s.regs ks) d pure n es).gen]) ⟨_, rfl, ?_⟩ hK hn
    exact ⟨_, get_put_same _ _ _, Nat.le_refl _, fun _ _ => by simp [G.adopt]⟩
  · exact hK.elim

end

theorem Own.fresh {w : World} {I : Nat → Prop} {g len cap n : Nat} {es : List (List C)} {cs : Array Value} {e : TypeId} {fr : Nat × Nat} (us : Nat → Nat → Value) (fs : Nat → Nat → Nat → Prop) (F : Nat → Prop)
    (hg : w.heap[g]? = some (.cells cs e fr)) (hfr : ∀ k, k < cs.size ∨ (k = cs.size ∧ 1 < n) → ¬ (fr.1 ≤ k ∧ k < fr.2)) (hsz : cap * n ≤ cs.size) (hn : 0 < n) (hlen : es.length = len) (hc : len ≤ cap) (hm : cap ≤ maxLen)
    (hl : ∀ (i : Nat) (r : List C), es[i]? = some r → r.length = n) (hcell : ∀ i j, i < len → j < n → cs[i * n + j]? = some (us i j)) (h1 : ∀ i j, i < len → j < n → (us i j).oneCell' = true)
    (hF : F g) (hff : ∀ i j x, fs i j x → F x ∧ x ≠ g) (hd : ∀ i j i' j' x, fs i j x → fs i' j' x → i = i' ∧ j = j')
    (hr : ∀ (i j : Nat) (r : List C) (c : C), es[i]? = some r → r[j]? = some c → Own w I (fs i j) (us i j) c) : Own w I F (.slice (some ⟨g, 0, none⟩) len cap) (.sl true n es) :=
  .row F g 0 len cap n es cs e us fs hF hff hd fr hfr hg (by simpa using hsz) hn hlen hc hm hl (fun i j hi hj => by rw [Nat.zero_add]; exact hcell i j hi hj) h1 hr

structure News (w : World) (I : Nat → Prop) (n : Nat) (es : List (List C)) (vs : List Value) (us : Nat → Nat → Value) (fs : Nat → Nat → Nat → Prop) : Prop where
  len : vs.length = es.length * n
  rows : ∀ (i : Nat) (r : List C), es[i]? = some r → r.length = n
  at_ : ∀ i j, i < es.length → j < n → vs[i * n + j]? = some (us i j)
  one : ∀ i j, i < es.length → j < n → (us i j).oneCell' = true
  own : ∀ (i j : Nat) (r : List C) (c : C), es[i]? = some r → r[j]? = some c → Own w I (fs i j) (us i j) c
  dis : ∀ i j i' j' x, fs i j x → fs i' j' x → i = i' ∧ j = j'

theorem News.ones {w : World} {I : Nat → Prop} {n : Nat} {es : List (List C)} {vs : List Value} {us : Nat → Nat → Value} {fs : Nat → Nat → Nat → Prop} (h : News w I n es vs us fs) (hn : 0 < n) : ∀ v ∈ vs, v.oneCell' = true := by
  intro v hv
  obtain ⟨k, hk, rfl⟩ := List.mem_iff_getElem.1 hv
  have hi : k / n < es.length := by
    rw [h.len] at hk
    exact (Nat.div_lt_iff_lt_mul hn).2 hk
  have hj : k % n < n := Nat.mod_lt _ hn
  have he : k / n * n + k % n = k := by rw [Nat.mul_comm]; exact Nat.div_add_mod k n
  have := h.at_ _ _ hi hj
  rw [he, List.getElem?_eq_getElem hk] at this
  rw [Option.some.inj this]
  exact h.one _ _ hi hj

theorem Own.room {w : World} {I F : Nat → Prop} {g o len cap n : Nat} {es : List (List C)} (h : Own w I F (.slice (some ⟨g, o, none⟩) len cap) (.sl true n es)) {es1 : List (List C)} {vs : List Value} {us : Nat → Nat → Value} {fs : Nat → Nat → Nat → Prop}
    {I' : Nat → Prop} (hN : News w I' n es1 vs us fs) (hfit : len + es1.length ≤ cap) (hI : ∀ b, I b → I' b) (hIF : ∀ b, F b → ¬ I' b) (F' : Nat → Prop) (hF : ∀ b, F b → F' b) (hfF : ∀ i j x, fs i j x → F' x ∧ ¬ F x) :
    ∃ cur e fr, w.heap[g]? = some (.cells cur e fr) ∧ F g ∧ (∀ k, k < cur.size → ¬ (fr.1 ≤ k ∧ k < fr.2)) ∧ o + len * n + vs.length ≤ cur.size ∧
      Own (w.setRow g (spl cur (o + len * n) vs)) I' F' (.slice (some ⟨g, o, none⟩) (len + es1.length) cap) (.sl true n (es ++ es1)) := by
  cases h with
  | row _ _ _ _ _ _ _ cur e u f hFg hff hd fr hfr hg hsz hn hl0 hc hm hl hcell h1 hrr =>
    have hb : o + len * n + vs.length ≤ cur.size := by
      rw [hN.len]
      have h2 : (len + es1.length) * n ≤ cap * n := Nat.mul_le_mul_right n hfit
      rw [Nat.add_mul] at h2
      omega
    have hw : ∀ b, b ≠ g → (w.setRow g (spl cur (o + len * n) vs)).heap[b]? = w.heap[b]? := fun b hb => setRow_other w g b _ hb
    refine ⟨cur, e, fr, hg, hFg, fun k hk => hfr k (.inl hk), hb, ?_⟩
    refine .row F' g o (len + es1.length) cap n _ (spl cur (o + len * n) vs) e (fun i j => if i < len then u i j else us (i - len) j) (fun i j x => if i < len then f i j x else fs (i - len) j x) (hF _ hFg)
      (fun i j x hx => ?_) (fun i j i' j' x hx hx' => ?_) fr (by rw [spl_size _ _ _ hb]; exact hfr) (setRow_heap w g cur _ e fr hg) (by rw [spl_size _ _ _ hb]; exact hsz) hn (by simp [hl0]) hfit hm
      (fun i r hr => ?_) (fun i j hi hj => ?_) (fun i j hi hj => ?_) (fun i j r c hr hj => ?_)
    · split at hx
      · exact ⟨hF _ (hff i j x hx).1, (hff i j x hx).2⟩
      · exact ⟨(hfF _ _ _ hx).1, fun e => (hfF _ _ _ hx).2 (e ▸ hFg)⟩
    · split at hx
      · split at hx'
        · exact hd _ _ _ _ x hx hx'
        · exact absurd (hff _ _ x hx).1 (hfF _ _ _ hx').2
      · split at hx'
        · exact absurd (hff _ _ x hx').1 (hfF _ _ _ hx).2
        · have := hN.dis _ _ _ _ x hx hx'
          omega
    · by_cases hi : i < len
      · rw [List.getElem?_append_left (by omega)] at hr
        exact hl i r hr
      · rw [List.getElem?_append_right (by omega)] at hr
        exact hN.rows _ r hr
    · by_cases hil : i < len
      · simp only [hil, if_true]
        rw [spl_out _ _ _ hb _ ?_]
        · exact hcell i j hil hj
        · left
          have := place_lt hil hj
          omega
      · simp only [hil, if_false]
        have h2 := hN.at_ (i - len) j (by omega) hj
        have h3 := spl_in cur (o + len * n) vs hb ((i - len) * n + j) (List.getElem?_eq_some_iff.1 h2).1
        have h4 : o + len * n + ((i - len) * n + j) = o + i * n + j := by
          have : len * n + (i - len) * n = i * n := by rw [← Nat.add_mul]; congr 1; omega
          omega
        rw [h4] at h3
        rw [h3, h2]
    · by_cases hil : i < len
      · simp only [hil, if_true]
        exact h1 i j hil hj
      · simp only [hil, if_false]
        exact hN.one _ _ (by omega) hj
    · by_cases hi : i < len
      · simp only [hi, if_true]
        rw [List.getElem?_append_left (by omega)] at hr
        refine (hrr i j r c hr hj).frame hI (fun _ h => h) (fun x hx => hw x fun e => ?_) (fun x hx => hw x fun e => ?_)
        · exact hIF g hFg (e ▸ hI _ hx)
        · exact (hff i j x hx).2 e
      · simp only [hi, if_false]
        rw [List.getElem?_append_right (by omega), hl0] at hr
        refine (hN.own _ _ r c hr hj).frame (fun _ h => h) (fun _ h => h) (fun x hx => hw x fun e => ?_) (fun x hx => hw x fun e => ?_)
        · exact hIF g hFg (e ▸ hx)
        · exact (hfF _ _ x hx).2 (e ▸ hFg)

theorem Own.grow {w w' : World} {I F : Nat → Prop} {v : Value} {n : Nat} {es : List (List C)} (h : Own w I F v (.sl true n es)) {es1 : List (List C)} {vs : List Value} {us : Nat → Nat → Value} {fs : Nat → Nat → Nat → Prop}
    {I' : Nat → Prop} (hN : News w I' n es1 vs us fs) (hI : ∀ b, I b → I' b) (F' : Nat → Prop) (hF : ∀ b, F b → F' b) (hfF : ∀ i j x, fs i j x → F' x ∧ ¬ F x)
    {g cap : Nat} {cs : Array Value} {e : TypeId} (olds : List Value) (holds : ∀ i j, i < es.length → j < n → ∀ a cp, v = .slice a es.length cp → ∃ b o, a = some ⟨b, o, none⟩ ∧ w.cell? ⟨b, o + i * n + j, none⟩ = olds[i * n + j]?)
    (hol : olds.length = es.length * n) (hn : 0 < n) (hg : w'.heap[g]? = some (.cells cs e (0, 0))) (hcs : ∀ k, k < olds.length + vs.length → cs[k]? = (olds ++ vs)[k]?) (hsz : cap * n ≤ cs.size) (hc : es.length + es1.length ≤ cap) (hm : cap ≤ maxLen)
    (hw : ∀ b, I' b ∨ F' b → b ≠ g → w'.heap[b]? = w.heap[b]?) (hgF : F' g) (hgI : ¬ I' g) (hgn : ¬ F g) (hgf : ∀ i j, ¬ fs i j g) :
    Own w' I' F' (.slice (some ⟨g, 0, none⟩) (es.length + es1.length) cap) (.sl true n (es ++ es1)) := by
  have hold : ∃ (u : Nat → Nat → Value) (f : Nat → Nat → Nat → Prop), (∀ i j, i < es.length → j < n → olds[i * n + j]? = some (u i j) ∧ (u i j).oneCell' = true) ∧ (∀ i j x, f i j x → F x) ∧
      (∀ i j i' j' x, f i j x → f i' j' x → i = i' ∧ j = j') ∧ (∀ (i : Nat) (r : List C), es[i]? = some r → r.length = n) ∧ ∀ (i j : Nat) (r : List C) (c : C), es[i]? = some r → r[j]? = some c → Own w I (f i j) (u i j) c := by
    cases h with
    | nil => exact ⟨fun _ _ => undef, fun _ _ _ => False, fun i j hi => by simp at hi, fun _ _ _ h => h.elim, fun _ _ _ _ _ h => h.elim, fun i r hr => by simp at hr, fun i j r c hr => by simp at hr⟩
    | row _ gb o len cp _ _ cur el u f hFg hff hd fr hfr hgb hszb hnb hl0 hcb hmb hl hcell h1 hrr =>
      refine ⟨u, f, fun i j hi hj => ?_, fun i j x hx => (hff i j x hx).1, hd, hl, hrr⟩
      obtain ⟨b, ob, e1, e2⟩ := holds i j hi hj _ cp (by rw [hl0])
      cases e1
      rw [cell_of hgb, hcell i j (by omega) hj] at e2
      exact ⟨e2.symm, h1 i j (by omega) hj⟩
  obtain ⟨u, f, f1, f2, f3, f4, f5⟩ := hold
  refine Own.fresh (fun i j => if i < es.length then u i j else us (i - es.length) j) (fun i j x => if i < es.length then f i j x else fs (i - es.length) j x) F' hg (fun k _ h => by simp at h) hsz hn (by simp) hc hm
    (fun i r hr => ?_) (fun i j hi hj => ?_) (fun i j hi hj => ?_) hgF (fun i j x hx => ?_) (fun i j i' j' x hx hx' => ?_) (fun i j r c hr hj => ?_)
  · by_cases hi : i < es.length
    · rw [List.getElem?_append_left hi] at hr
      exact f4 i r hr
    · rw [List.getElem?_append_right (by omega)] at hr
      exact hN.rows _ r hr
  · have hlt : i * n + j < olds.length + vs.length := by
      have := place_lt (len := es.length + es1.length) hi hj
      rw [hol, hN.len, ← Nat.add_mul]
      exact this
    rw [hcs _ hlt]
    by_cases hil : i < es.length
    · simp only [hil, if_true]
      rw [List.getElem?_append_left (by rw [hol]; exact place_lt hil hj)]
      exact (f1 i j hil hj).1
    · simp only [hil, if_false]
      have h4 : i * n + j - olds.length = (i - es.length) * n + j := by
        have : es.length * n + (i - es.length) * n = i * n := by rw [← Nat.add_mul]; congr 1; omega
        omega
      have h5 : olds.length ≤ i * n + j := by
        have : es.length * n ≤ i * n := Nat.mul_le_mul_right n (by omega)
        omega
      rw [List.getElem?_append_right h5, h4]
      exact hN.at_ _ _ (by omega) hj
  · by_cases hil : i < es.length
    · simp only [hil, if_true]
      exact (f1 i j hil hj).2
    · simp only [hil, if_false]
      exact hN.one _ _ (by omega) hj
  · split at hx
    · exact ⟨hF _ (f2 i j x hx), fun e => hgn (e ▸ f2 i j x hx)⟩
    · exact ⟨(hfF _ _ _ hx).1, fun e => hgf _ _ (e ▸ hx)⟩
  · split at hx
    · split at hx'
      · exact f3 _ _ _ _ x hx hx'
      · exact absurd (f2 _ _ x hx) (hfF _ _ _ hx').2
    · split at hx'
      · exact absurd (f2 _ _ x hx') (hfF _ _ _ hx).2
      · have := hN.dis _ _ _ _ x hx hx'
        omega
  · by_cases hi : i < es.length
    · simp only [hi, if_true]
      rw [List.getElem?_append_left hi] at hr
      refine (f5 i j r c hr hj).frame hI (fun _ h => h) (fun x hx => hw x (.inl (hI _ hx)) fun e => hgI (e ▸ hI _ hx)) (fun x hx => hw x (.inr (hF _ (f2 i j x hx))) fun e => hgn (e ▸ f2 i j x hx))
    · simp only [hi, if_false]
      rw [List.getElem?_append_right (by omega)] at hr
      refine (hN.own _ _ r c hr hj).frame (fun _ h => h) (fun _ h => h) (fun x hx => hw x (.inl hx) fun e => hgI (e ▸ hx)) (fun x hx => hw x (.inr (hfF _ _ _ hx).1) fun e => hgf _ _ (e ▸ hx))

end Go.Proofs.YtppfojiogappaaaDoor.V

set_option linter.unusedVariables false

set_option linter.unusedSimpArgs false

namespace Go.Proofs.YtppfojiogappaaaDoor.V

open Go Classical

section

variable {P : Program}

structure SrcOk (P : Program) (w : World) (t2 size m : Nat) (x : Value) (vs : List Value) : Prop where
  ty : ∃ d, P.underlying t2 = some d ∧ (d matches .int _) = false
  len : ∀ w', (Builtin.lenOf x).run P w' = .ok m w'
  cells : ∀ w' : World, w'.heap = w.heap → (Builtin.firstCells size m x).run P w' = .ok vs.toArray w'

theorem src_string (w : World) (t2 : Nat) (s : ByteArray) (h : P.underlying t2 = some .string) : SrcOk P w t2 1 s.size (.string s) (s.data.toList.map fun b => .int .u8 b.toNat) := by
  refine ⟨⟨_, h, rfl⟩, fun w' => by simp [Builtin.lenOf], fun w' _ => ?_⟩
  have hx : s.extract 0 s.size = s := by
    apply ByteArray.ext
    simp [ByteArray.data_extract]
  simp [Builtin.firstCells, hx]
  apply Array.ext'
  simp

theorem src_slice (w : World) (t2 e size : Nat) (v : Value) (a : Option Addr) (m c : Nat) (hv : v = .slice a m c) (h : P.underlying t2 = some (.slice e)) (vs : List Value) (hl : vs.length = m * size)
    (hc : ∀ (k : Nat) (u : Value), vs[k]? = some u → ∃ b o, a = some ⟨b, o, none⟩ ∧ w.cell? ⟨b, o + k, none⟩ = some u) : SrcOk P w t2 size m v vs := by
  subst hv
  refine ⟨⟨_, h, rfl⟩, fun w' => by simp [Builtin.lenOf], fun w' hw => ?_⟩
  cases a with
  | none =>
    have : vs = [] := by
      cases vs with
      | nil => rfl
      | cons v r =>
        obtain ⟨b, o, e, _⟩ := hc 0 v rfl
        cases e
    subst this
    simp [Builtin.firstCells]
  | some ad =>
    refine run_firstCells_some w' size m ad m c vs hl fun j u hu => ?_
    obtain ⟨b, o, e, hcell⟩ := hc j u hu
    cases e
    rw [add_eq]
    simpa [World.cell?, hw] using hcell

theorem run_append_in {w : World} {t t2 ty e : Nat} {i : TypeInfo} {x : Value} {vs : List Value} {m g o sLen sCap : Nat} {cur : Array Value} {el : TypeId} {fr : Nat × Nat}
    (ht : P.underlying t = some (.slice e)) (hi : P.info? e = some i) (hs : SrcOk P w t2 i.size m x vs) (hroom : sLen + m ≤ sCap)
    (hg : w.heap[g]? = some (.cells cur el fr)) (hfr : ∀ k, k < cur.size → ¬ (fr.1 ≤ k ∧ k < fr.2)) (hb : o + sLen * i.size + vs.length ≤ cur.size) (h1 : ∀ v ∈ vs, v.oneCell' = true) :
    (Builtin.append_ #[t, t2] ty #[.slice (some ⟨g, o, none⟩) sLen sCap, x]).run P w = .ok (.slice (some ⟨g, o, none⟩) (sLen + m) sCap) (w.setRow g (spl cur (o + sLen * i.size) vs)) := by
  obtain ⟨⟨d, hd, hdz⟩, hl, hc⟩ := hs
  have hst := run_stores (P := P) g (o + sLen * i.size) el fr vs 0 cur w hg hfr (by omega) h1
  simp only [Nat.add_zero] at hst
  simp [Builtin.append_, run_underlying ht, run_underlying hd, sizeOf, typeInfo, hi, hl, hroom, hc w rfl, add_eq, hst]
  cases d <;> first | (simp at hdz; done) | simp

theorem run_append_zero {w : World} {t t2 ty e : Nat} {i : TypeInfo} {x : Value} {vs : List Value}
    (ht : P.underlying t = some (.slice e)) (hi : P.info? e = some i) (hs : SrcOk P w t2 i.size 0 x vs) :
    (Builtin.append_ #[t, t2] ty #[.slice none 0 0, x]).run P w = .ok (.slice none 0 0) w := by
  obtain ⟨⟨d, hd, hdz⟩, hl, hc⟩ := hs
  simp [Builtin.append_, run_underlying ht, run_underlying hd, sizeOf, typeInfo, hi, hl, hc w rfl]
  cases d <;> first | (simp at hdz; done) | simp [hc w rfl]

theorem run_append_new {w : World} {t t2 ty e : Nat} {i : TypeInfo} {z : Value} {x : Value} {vs olds : List Value} {m sLen sCap : Nat} {base : Option Addr}
    (ht : P.underlying t = some (.slice e)) (hi : P.info? e = some i) (hz : i.zero = some z) (hs : SrcOk P w t2 i.size m x vs)
    (hold : ∀ w' : World, w'.heap = w.heap → (Builtin.firstCells i.size sLen (.slice base sLen sCap)).run P w' = .ok olds.toArray w')
    (hg : sCap < sLen + m) (h63 : ((sLen + m : Nat) : Int) ≤ 9223372036854775807) (hfit : Builtin.nextslicecap (sLen + m) sCap * i.bytes ≤ 281474976710656) :
    (Builtin.append_ #[t, t2] ty #[.slice base sLen sCap, x]).run P w =
      .ok (.slice (some ⟨w.heap.size, 0, none⟩) (sLen + m) (grownCap w (sLen + m) sCap e))
        (w.drew.alloc (.cells (olds.toArray ++ vs.toArray ++ Builtin.zeroCells z.cells (grownCap w (sLen + m) sCap e - (sLen + m))) e)) := by
  obtain ⟨⟨d, hd, hdz⟩, hl, hc⟩ := hs
  have hn : ¬ (sLen + m ≤ sCap) := by omega
  have h63' : ¬ (9223372036854775807 < ((sLen : Int) + (m : Int))) := by omega
  have h48' : ¬ (281474976710656 < Builtin.nextslicecap (sLen + m) sCap * i.bytes) := by omega
  have hc' := hc w.drew rfl
  have ho' := hold w.drew rfl
  simp [Builtin.append_, run_underlying ht, run_underlying hd, sizeOf, typeInfo, zeroValue, hi, hz, hl, hn, h63', h48', Question.forced, newRow, grownCap]
  cases d <;> first
    | (simp at hdz; done)
    | (simp [h48', hc', ho', Question.forced, grownCap, newRow, typeInfo, hi, zeroValue, hz]
       congr 2
       apply Array.ext'
       simp [List.append_assoc])

end

end Go.Proofs.YtppfojiogappaaaDoor.V

set_option linter.unusedVariables false

set_option linter.unusedSimpArgs false

namespace Go.Proofs.YtppfojiogappaaaDoor.V

open Go Classical

def Flat (n : Nat) (es : List (List C)) : Prop := ∀ r ∈ es, r.length = n ∧ ∀ c ∈ r, ∃ v, c = C.sc v ∧ v.oneCell' = true

def bytesOf (s : ByteArray) : List (List C) := s.data.toList.map fun b => [C.sc (.int .u8 (b.toNat : Int))]

def baseW (s : S) (n : Nat) (x : X) (k : List Nat → Bool → List (List C) → Prop) : Prop :=
  match x with
  | .nil _ => k [] true []
  | .ref h g => (match regAt s h g with
    | some r => if r.n = n then k [h] r.pure r.es else False
    | none => False)
  | .sub h g lo hi => (match regAt s h g with
    | some r => if r.n = n then k [h] r.pure ((r.es.take hi).drop lo) else False
    | none => False)
  | _ => False

def srcW (s : S) (n : Nat) (x : X) (k : List Nat → Bool → List (List C) → Prop) : Prop :=
  match x with
  | .ref h g => (match regAt s h g with
    | some r => if r.n = n then (Flat n r.es ∧ k [] true r.es) ∨ k [h] r.pure r.es else False
    | none => False)
  | x => withC s x fun _ es => Flat n es ∧ k [] true es

def disj : List Nat → List Nat → Bool
  | [], _ => true
  | a :: r, l => if memb l a then false else disj r l

def appendW (τ : Nat → Option TD) (nt : Nat) (o : Oper) (t t2 : Nat) (b x : Operand) (s : S) (k : S → Prop) : Prop :=
  match τ t with
  | some { kind := .slice e, .. } => (match τ e with
    | some de => if de.size = 0 then False else if de.bytes = 0 then False else
      (match s.ev b, s.ev x with
      | some (.vals false [xb]), some (.vals false [xx]) => baseW s de.size xb fun ks0 p0 es0 =>
        (match xx, τ t2 with
        | .sc (.string str), some { kind := .str, .. } => if de.size = 1 then ((es0.length + str.size) * de.bytes ≤ 140737488355328 ∧ layK nt o s ks0 p0 de.size (es0 ++ bytesOf str) k) else False
        | xx, some { kind := .slice _, .. } => srcW s de.size xx fun ks1 p1 es1 => if disj ks1 ks0 then
            ((es0.length + es1.length) * de.bytes ≤ 140737488355328 ∧ layK nt o s (ks0 ++ ks1) (p0 && p1) de.size (es0 ++ es1) k) else False
        | _, _ => False)
      | _, _ => False)
    | none => False)
  | _ => False

theorem disj_no {l l' : List Nat} (h : disj l l' = true) {a : Nat} (ha : memb l a = true) : memb l' a = false := by
  induction l with
  | nil => simp [memb] at ha
  | cons k r ih =>
    simp only [disj] at h
    split at h
    · cases h
    · rename_i hk
      simp only [memb] at ha
      split at ha
      · rename_i e
        subst e
        simpa using hk
      · exact ih h ha

theorem Rd.sc_inv {w : World} {I : Nat → Prop} {v v' : Value} (h : Rd w I v (.sc v')) : v = v' := by cases h; rfl

theorem Own.none_inv {w : World} {I F : Nat → Prop} {v : Value} {n : Nat} {es : List (List C)} (h : Own w I F v (.sl true n es)) : ∀ l c, v = .slice none l c → c = 0 ∧ es = [] := by
  cases h with
  | nil => intro l c e; cases e; exact ⟨rfl, rfl⟩
  | row => intro l c e; cases e

theorem Own.some_inv {w : World} {I F : Nat → Prop} {v : Value} {n : Nat} {es : List (List C)} (h : Own w I F v (.sl true n es)) : ∀ ad l c, v = .slice (some ad) l c → ad.spot = none := by
  cases h with
  | nil => intro ad l c e; cases e
  | row => intro ad l c e; cases e; rfl

def G.Fs (g : G) (ks : List Nat) : Nat → Prop := fun b => ∃ c, memb ks c = true ∧ g.F c b

section

variable {P : Program} {w0 : World} {A : AA} {B : List (Nat × Nat × Nat)} {nt : Nat} {τ : Nat → Option TD}

theorem baseW_ok {g : G} {s : S} {w : World} (hm : Mem w0 A B g s w) {n : Nat} {v : Value} {x : X} {k : List Nat → Bool → List (List C) → Prop} (hx : XOk w g s.regs v x) (h : baseW s n x k) :
    ∃ ks p es, Own w (if p then fun _ => False else g.I) (g.Fs ks) v (.sl true n es) ∧ k ks p es := by
  cases x with
  | nil m =>
    have : v = .slice none 0 0 := hx
    subst this
    exact ⟨[], true, [], .nil _ _, h⟩
  | ref c gn =>
    simp only [baseW] at h
    split at h
    · rename_i r hr
      split at h
      · rename_i hn
        subst hn
        obtain ⟨h1, h2, h3⟩ := regAt_some hr
        obtain ⟨r', h4, h5, h6⟩ := hx
        rw [h1] at h4
        cases h4
        rw [h6 h2 h3.symm]
        exact ⟨[c], r.pure, r.es, (hm.regs c r h1 h2).frame (fun _ h => h) (fun b hb => ⟨c, by simp [memb], hb⟩) (fun _ _ => rfl) (fun _ _ => rfl), h⟩
      · exact h.elim
    · exact h.elim
  | sub c gn lo hi =>
    simp only [baseW] at h
    split at h
    · rename_i r hr
      split at h
      · rename_i hn
        subst hn
        obtain ⟨h1, h2, h3⟩ := regAt_some hr
        obtain ⟨r', h4, h5, h6⟩ := hx
        rw [h1] at h4
        cases h4
        obtain ⟨h7, h8, h9⟩ := h6 h2 h3.symm
        exact ⟨[c], r.pure, _, ((hm.regs c r h1 h2).sub h7 h8 h9).frame (fun _ h => h) (fun b hb => ⟨c, by simp [memb], hb⟩) (fun _ _ => rfl) (fun _ _ => rfl), h⟩
      · exact h.elim
    · exact h.elim
  | _ => exact h.elim

theorem flat_news {w : World} {J I : Nat → Prop} {v : Value} {n : Nat} {es : List (List C)} (hn : 0 < n) (h : Rd w J v (.sl true n es)) (hf : Flat n es) :
    ∃ a cap vs us, v = .slice a es.length cap ∧ News w I n es vs us (fun _ _ _ => False) ∧ ∀ (k : Nat) (u : Value), vs[k]? = some u → ∃ b o, a = some ⟨b, o, none⟩ ∧ w.cell? ⟨b, o + k, none⟩ = some u := by
  cases h with
  | nil b cap =>
    exact ⟨b, cap, [], fun _ _ => undef, rfl, ⟨by simp, fun i r hr => by simp at hr, fun i j hi => by simp at hi, fun i j hi => by simp at hi, fun i j r c hr => by simp at hr, fun _ _ _ _ _ h => h.elim⟩, fun k u hk => by simp at hk⟩
  | row b o len cap _ _ _ u hI hlen hc hl hcell h1 hr =>
    subst hlen
    have hat : ∀ i j, i < es.length → j < n → ((List.range (es.length * n)).map fun k => u (k / n) (k % n))[i * n + j]? = some (u i j) := by
      intro i j hi hj
      have hlt := place_lt hi hj
      have hd1 : (i * n + j) / n = i := by rw [Nat.add_comm, Nat.add_mul_div_right _ _ hn, Nat.div_eq_of_lt hj]; omega
      have hd2 : (i * n + j) % n = j := by rw [Nat.add_comm, Nat.add_mul_mod_self_right, Nat.mod_eq_of_lt hj]
      simp [hlt, hd1, hd2]
    refine ⟨_, cap, (List.range (es.length * n)).map fun k => u (k / n) (k % n), u, rfl, ⟨by simp, hl, hat, h1, fun i j r c hr' hj => ?_, fun _ _ _ _ _ h => h.elim⟩, fun k v hk => ⟨b, o, rfl, ?_⟩⟩
    · obtain ⟨v', rfl, _⟩ := (hf r (List.mem_of_getElem? hr')).2 c (List.mem_of_getElem? hj)
      have := (hr i j r _ hr' hj).sc_inv
      rw [this]
      exact .sc _ _
    · have hlt : k < es.length * n := by simpa using (List.getElem?_eq_some_iff.1 hk).1
      have h2 : k / n < es.length := (Nat.div_lt_iff_lt_mul hn).2 hlt
      have h3 : k % n < n := Nat.mod_lt _ hn
      have h4 := hcell _ _ h2 h3
      have h5 : o + k / n * n + k % n = o + k := by
        have := Nat.div_add_mod k n
        rw [Nat.mul_comm] at this
        omega
      rw [h5] at h4
      simp [hlt] at hk
      rw [h4, hk]

theorem own_news {w : World} {I F : Nat → Prop} {v : Value} {n : Nat} {es : List (List C)} (h : Own w I F v (.sl true n es)) (hn : 0 < n) :
    ∃ a cap vs us fs, v = .slice a es.length cap ∧ News w I n es vs us fs ∧ (∀ i j x, fs i j x → F x) ∧ ∀ (k : Nat) (u : Value), vs[k]? = some u → ∃ b o, a = some ⟨b, o, none⟩ ∧ w.cell? ⟨b, o + k, none⟩ = some u := by
  cases h with
  | nil =>
    exact ⟨none, 0, [], fun _ _ => undef, fun _ _ _ => False, rfl, ⟨by simp, fun i r hr => by simp at hr, fun i j hi => by simp at hi, fun i j hi => by simp at hi, fun i j r c hr => by simp at hr, fun _ _ _ _ _ h => h.elim⟩, fun _ _ _ h => h.elim, fun k u hk => by simp at hk⟩
  | row _ g o len cap _ _ cs e u f hF hff hd fr hfr hg hsz _ hlen hc hm hl hcell h1 hr =>
    subst hlen
    have hat : ∀ i j, i < es.length → j < n → ((List.range (es.length * n)).map fun k => u (k / n) (k % n))[i * n + j]? = some (u i j) := by
      intro i j hi hj
      have hlt := place_lt hi hj
      have hd1 : (i * n + j) / n = i := by rw [Nat.add_comm, Nat.add_mul_div_right _ _ hn, Nat.div_eq_of_lt hj]; omega
      have hd2 : (i * n + j) % n = j := by rw [Nat.add_comm, Nat.add_mul_mod_self_right, Nat.mod_eq_of_lt hj]
      simp [hlt, hd1, hd2]
    refine ⟨_, cap, (List.range (es.length * n)).map fun k => u (k / n) (k % n), u, f, rfl, ⟨by simp, hl, hat, h1, hr, hd⟩, fun i j x hx => (hff i j x hx).1, fun k v hk => ⟨g, o, rfl, ?_⟩⟩
    have hlt : k < es.length * n := by simpa using (List.getElem?_eq_some_iff.1 hk).1
    have h2 : k / n < es.length := (Nat.div_lt_iff_lt_mul hn).2 hlt
    have h3 : k % n < n := Nat.mod_lt _ hn
    have h4 := hcell _ _ h2 h3
    have h5 : o + k / n * n + k % n = o + k := by
      have := Nat.div_add_mod k n
      rw [Nat.mul_comm] at this
      omega
    rw [h5] at h4
    simp [hlt] at hk
    rw [cell_of hg, h4, hk]

theorem append_core (hτ : ∀ t d, τ t = some d → TyOk P t d) {o : Oper} {t t2 e : Nat} {b x : Operand} (ho : o.op = .call { callee := .builtin .append, args := #[b, x], argTypes := #[t, t2] })
    {de : TD} (ht : P.underlying t = some (.slice e)) (hde : τ e = some de) (hsz0 : de.size ≠ 0) (hb0 : de.bytes ≠ 0)
    {s : S} {a : Act} {w : World} {g : G} {k : S → Prop} {next : Act → World → Prop} {Q : Exit → Act → World → Prop}
    (hdf : a.defers = []) (hsz : a.tmps.size = nt) (hs : SlotsOk g s nt a w) (hm : Mem w0 A B g s w)
    {ks0 ks1 : List Nat} {p0 p1 : Bool} {es0 es1 : List (List C)} (hO : Own w (if p0 then fun _ => False else g.I) (g.Fs ks0) (a.eval b) (.sl true de.size es0))
    {vs : List Value} {us : Nat → Nat → Value} {fs : Nat → Nat → Nat → Prop} (hN : News w (if p1 then fun _ => False else g.I) de.size es1 vs us fs) (hfs : ∀ i j x, fs i j x → g.Fs ks1 x)
    (hS : SrcOk P w t2 de.size es1.length (a.eval x) vs) (hdis : ∀ c, memb ks1 c = true → memb ks0 c = false)
    (hbound : (es0.length + es1.length) * de.bytes ≤ 140737488355328) (hK : layK nt o s (ks0 ++ ks1) (p0 && p1) de.size (es0 ++ es1) k)
    (hn : ∀ s' a' w', Real w0 A B nt s' a' w' → k s' → next a' w') : o.wp P a w next Q := by
  obtain ⟨i, z, hi, hisz, hiby, hz, hzc⟩ := (hτ _ _ hde).info
  have hzs : z.cells.size = de.size := by
    have h1 := congrArg List.length hzc
    have h2 := (hτ _ _ hde).zlen
    simp at h1
    omega
  have hn0 : 0 < de.size := by omega
  have hle : es0.length + es1.length ≤ 140737488355328 := Nat.le_trans (Nat.le_mul_of_pos_right _ (by omega)) hbound
  have hapart : ∀ y, g.Fs ks1 y → ¬ g.Fs ks0 y := by
    rintro y ⟨c, hc, hf⟩ ⟨c', hc', hf'⟩
    have e1 : g.ow y = .reg c := hf
    have e2 : g.ow y = .reg c' := hf'
    rw [e1] at e2
    cases e2
    rw [hdis c hc] at hc'
    cases hc'
  have hFsI : ∀ (ks : List Nat) y, g.Fs ks y → ¬ g.I y := by
    rintro ks y ⟨c, hc, hf⟩ hI
    have e1 : g.ow y = .reg c := hf
    have e2 : g.ow y = .imm := hI
    rw [e1] at e2
    cases e2
  have hI01 : ∀ b, (if p0 then fun _ => False else g.I) b → (if (p0 && p1) then fun _ => False else g.I) b := by
    intro b hb
    cases p0 <;> cases p1 <;> simp_all
  have hN' : News w (if (p0 && p1) then fun _ => False else g.I) de.size es1 vs us fs := ⟨hN.len, hN.rows, hN.at_, hN.one, fun i j r c hr hj => (hN.own i j r c hr hj).frame (fun b hb => by cases p0 <;> cases p1 <;> simp_all) (fun _ h => h) (fun _ _ => rfl) (fun _ _ => rfl), hN.dis⟩
  have hFsI' : ∀ (ks : List Nat) y, g.Fs ks y → ¬ (if (p0 && p1) then fun _ => False else g.I) y := by
    intro ks y hy hI
    split at hI
    · exact hI
    · exact hFsI ks y hy hI
  have hFlt : ∀ (ks : List Nat) y, g.Fs ks y → y < w.heap.size := by
    rintro ks y ⟨c, hc, hf⟩
    have e1 : g.ow y = .reg c := hf
    exact hm.lt y (by rw [e1]; simp)
  have hIlt : ∀ y, (if (p0 && p1) then fun _ => False else g.I) y → y < w.heap.size := by
    intro y hy
    split at hy
    · exact hy.elim
    · have e1 : g.ow y = .imm := hy
      exact hm.lt y (by rw [e1]; simp)
  have hexec : ∀ (v : Value) (w' : World), (Builtin.append_ #[t, t2] o.type #[a.eval b, a.eval x]).run P w = .ok v w' → (execOp a.eval o).run P w = .ok (.value v) w' := by
    intro v w' h
    simp [execOp, ho, resolve, invoke, builtin, h]
  have hS' : SrcOk P w t2 i.size es1.length (a.eval x) vs := by rw [hisz]; exact hS
  have grow : ∀ (base : Option Addr) (sCap : Nat) (olds : List Value), a.eval b = .slice base es0.length sCap → sCap < es0.length + es1.length →
      (∀ w' : World, w'.heap = w.heap → (Builtin.firstCells i.size es0.length (.slice base es0.length sCap)).run P w' = .ok olds.toArray w') →
      (∀ i j, i < es0.length → j < de.size → ∀ a' cp, a.eval b = .slice a' es0.length cp → ∃ b o, a' = some ⟨b, o, none⟩ ∧ w.cell? ⟨b, o + i * de.size + j, none⟩ = olds[i * de.size + j]?) →
      olds.length = es0.length * de.size → o.wp P a w next Q := by
    intro base sCap olds hbase hlt hold hcells hol
    have hrun := run_append_new (P := P) (w := w) (ty := o.type) ht hi hz hS' hold hlt (by omega) (growslice_fits hlt (by rw [hiby]; exact hbound))
    rw [← hbase] at hrun
    have hge := grownCap_ge w (es0.length + es1.length) sCap e
    have hcm : grownCap w (es0.length + es1.length) sCap e ≤ maxLen := grownCap_le_maxLen w _ sCap e (by simp only [maxLen]; omega)
    have hcl : (olds.toArray ++ vs.toArray ++ Builtin.zeroCells z.cells (grownCap w (es0.length + es1.length) sCap e - (es0.length + es1.length))).size = grownCap w (es0.length + es1.length) sCap e * de.size := by
      simp only [Array.size_append, List.size_toArray, size_zeroCells, hzs, hol, hN.len, ← Nat.add_mul]
      congr 1
      omega
    have hnew : (w.drew.alloc (.cells (olds.toArray ++ vs.toArray ++ Builtin.zeroCells z.cells (grownCap w (es0.length + es1.length) sCap e - (es0.length + es1.length))) e)).heap[w.heap.size]? = some (.cells (olds.toArray ++ vs.toArray ++ Builtin.zeroCells z.cells (grownCap w (es0.length + es1.length) sCap e - (es0.length + es1.length))) e (0, 0)) := heap_alloc_new w.drew _
    have hwold : ∀ y, y ≠ w.heap.size → y < w.heap.size → (w.drew.alloc (.cells (olds.toArray ++ vs.toArray ++ Builtin.zeroCells z.cells (grownCap w (es0.length + es1.length) sCap e - (es0.length + es1.length))) e)).heap[y]? = w.heap[y]? := fun y _ hy => heap_alloc_old w.drew _ y hy
    refine lay (P := P) hdf hsz hs hm (ks0 ++ ks1) ?_ (by simp) (fun y hy _ => heap_alloc_old w.drew _ y hy) (fun y => g.Fs ks0 y ∨ g.Fs ks1 y ∨ y = w.heap.size) (fun y hy => ?_) (p0 && p1) de.size (es0 ++ es1) ?_ (hexec _ _ hrun) hK hn
    · exact (hm.ext.same (w' := w.drew) rfl rfl rfl (Nat.le_refl _) (fun _ _ _ => rfl)).alloc _
    · rcases hy with hy | hy | rfl
      · obtain ⟨c, hc, hf⟩ := hy
        refine ⟨.inl ⟨c, memb_append.2 (.inl hc), hf⟩, ?_⟩
        have := hFlt ks0 y ⟨c, hc, hf⟩
        simp; omega
      · obtain ⟨c, hc, hf⟩ := hy
        refine ⟨.inl ⟨c, memb_append.2 (.inr hc), hf⟩, ?_⟩
        have := hFlt ks1 y ⟨c, hc, hf⟩
        simp; omega
      · exact ⟨.inr (Nat.le_refl _), by simp⟩
    · refine hO.grow hN' hI01 _ (fun y hy => .inl hy) (fun i j y hy => ⟨.inr (.inl (hfs i j y hy)), hapart y (hfs i j y hy)⟩) olds hcells hol hn0 hnew (fun c hc => ?_) (by rw [hcl]; exact Nat.le_refl _) hge hcm (fun y hy hne => ?_)
        (.inr (.inr rfl)) (fun h => absurd (hIlt _ h) (by omega)) (fun h => absurd (hFlt _ _ h) (by omega)) (fun i j h => absurd (hFlt _ _ (hfs i j _ h)) (by omega))
      · rw [Array.getElem?_append_left (by simp; omega)]
        simp
      · refine hwold y hne ?_
        rcases hy with hy | hy | hy | hy
        · exact hIlt y hy
        · exact hFlt _ _ hy
        · exact hFlt _ _ hy
        · exact absurd hy hne
  cases hv : a.eval b with
  | slice base sLen sCap =>
    obtain ⟨a', cap', hform⟩ := hO.form
    have hl0 : sLen = es0.length := by rw [hv] at hform; cases hform; rfl
    subst hl0
    rw [hv] at hO
    by_cases hroom : es0.length + es1.length ≤ sCap
    · cases base with
      | none =>
        obtain ⟨rfl, rfl⟩ := hO.none_inv _ _ rfl
        have h10 : es1.length = 0 := by simp at hroom ⊢; exact hroom
        have h11 : es1 = [] := List.eq_nil_of_length_eq_zero h10
        subst h11
        have hrun := run_append_zero (P := P) (w := w) (ty := o.type) ht hi hS'
        refine lay (P := P) hdf hsz hs hm (ks0 ++ ks1) hm.ext (Nat.le_refl _) (fun y hy _ => rfl) (fun _ => False) (fun y hy => hy.elim) (p0 && p1) de.size _ ?_ (hexec _ _ (by rw [hv]; exact hrun)) hK hn
        exact .nil _ _
      | some ad =>
        have had : ad.spot = none := hO.some_inv _ _ _ rfl
        obtain ⟨gb, og, sp⟩ := ad
        cases had
        obtain ⟨cur, el, fr, h1, h2, h3, h4, h5⟩ := hO.room hN' hroom hI01 (fun y hy => hFsI' ks0 y hy) (fun y => g.Fs ks0 y ∨ g.Fs ks1 y) (fun y hy => .inl hy) (fun i j y hy => ⟨.inr (hfs i j y hy), hapart y (hfs i j y hy)⟩)
        have hrun := run_append_in (P := P) (w := w) (ty := o.type) ht hi hS' hroom h1 h3 (by rw [hisz]; exact h4) (hN.ones hn0)
        rw [hisz] at hrun
        obtain ⟨c0, hc0, hf0⟩ := h2
        have hgb : g.ow gb = .reg c0 := hf0
        refine lay (P := P) hdf hsz hs hm (ks0 ++ ks1) ?_ (by simp) (fun y hy hno => setRow_other w gb y _ (fun e => ?_)) (fun y => g.Fs ks0 y ∨ g.Fs ks1 y) (fun y hy => ?_) (p0 && p1) de.size _ h5 (hexec _ _ (by rw [hv]; exact hrun)) hK hn
        · refine hm.ext.same rfl rfl rfl (by simp) fun y hy hA => setRow_other w gb y _ fun e => ?_
          subst e
          rcases hm.fr y c0 hgb with h | h
          · exact hA h
          · omega
        · subst e
          exact hno c0 (memb_append.2 (.inl hc0)) hgb
        · rcases hy with hy | hy
          · obtain ⟨c, hc, hf⟩ := hy
            refine ⟨.inl ⟨c, memb_append.2 (.inl hc), hf⟩, ?_⟩
            have := hFlt ks0 y ⟨c, hc, hf⟩
            simpa using this
          · obtain ⟨c, hc, hf⟩ := hy
            refine ⟨.inl ⟨c, memb_append.2 (.inr hc), hf⟩, ?_⟩
            have := hFlt ks1 y ⟨c, hc, hf⟩
            simpa using this
    · obtain ⟨a1, cap1, ovs, ous, ofs, g1, g2, g3, g4⟩ := own_news hO hn0
      cases g1
      refine grow base sCap ovs hv (by omega) (fun w' hw => ?_) (fun i j hi' hj a'' cp hav => ?_) g2.len
      · cases base with
        | none =>
          have : ovs = [] := by
            cases ovs with
            | nil => rfl
            | cons v r =>
              obtain ⟨b', o', e', _⟩ := g4 0 v rfl
              cases e'
          subst this
          simp [Builtin.firstCells]
        | some ad =>
          refine run_firstCells_some w' i.size es0.length ad es0.length sCap ovs (by rw [hisz]; exact g2.len) fun j u hu => ?_
          obtain ⟨b', o', e', hc'⟩ := g4 j u hu
          cases e'
          rw [add_eq]
          simpa [World.cell?, hw] using hc'
      · rw [hv] at hav
        cases hav
        have h2 := g2.at_ i j hi' hj
        obtain ⟨b', o', e', hc'⟩ := g4 _ _ h2
        exact ⟨b', o', e', by rw [Nat.add_assoc, hc', h2]⟩
  | _ =>
    obtain ⟨a', cap', hform⟩ := hO.form
    rw [hv] at hform
    cases hform

theorem append_sound (hτ : ∀ t d, τ t = some d → TyOk P t d) (o : Oper) (t t2 : Nat) (b x : Operand) (ho : o.op = .call { callee := .builtin .append, args := #[b, x], argTypes := #[t, t2] }) : Sound P w0 A B nt o (appendW τ nt o t t2 b x) := by
  intro s a w k next Q hr hW hn
  obtain ⟨hdf, hsz, g, hm, hs⟩ := hr
  unfold appendW at hW
  split at hW
  · rename_i e _ _ _ ht
    have hu : P.underlying t = some (.slice e) := (hτ _ _ ht).kind
    split at hW
    · rename_i de hde
      split at hW
      · exact hW.elim
      · rename_i hsz0
        split at hW
        · exact hW.elim
        · rename_i hb0
          split at hW
          · rename_i xb x0 hb hx
            obtain ⟨y, e1, hvb⟩ := ev_ok hs hb
            cases e1
            obtain ⟨y, e1, hvx⟩ := ev_ok hs hx
            cases e1
            obtain ⟨ks0, p0, es0, hO, hW2⟩ := baseW_ok hm hvb hW
            clear hW
            have hW := hW2
            clear hW2
            split at hW
            · rename_i str _ _ _ ht2
              split at hW
              · rename_i h1
                have hu2 : P.underlying t2 = some .string := (hτ _ _ ht2).kind
                have hvx' : a.eval x = .string str := hvx
                have hN : News w (if true then fun _ => False else g.I) de.size (bytesOf str) (str.data.toList.map fun b => .int .u8 (b.toNat : Int)) (fun i _ => .int .u8 ((str.data.toList.getD i 0).toNat : Int)) (fun _ _ _ => False) := by
                  refine ⟨by simp [bytesOf, h1], fun i r hr => ?_, fun i j hi hj => ?_, fun i j _ _ => rfl, fun i j r c hr hj => ?_, fun _ _ _ _ _ h => h.elim⟩
                  · simp only [bytesOf, List.getElem?_map] at hr
                    cases hq : str.data.toList[i]? with
                    | none => rw [hq] at hr; cases hr
                    | some q => rw [hq] at hr; cases hr; simp [h1]
                  · have hj0 : j = 0 := by omega
                    subst hj0
                    simp [bytesOf] at hi
                    simp [h1, hi, List.getD]
                  · simp only [bytesOf, List.getElem?_map] at hr
                    cases hq : str.data.toList[i]? with
                    | none => rw [hq] at hr; cases hr
                    | some q =>
                      rw [hq] at hr
                      cases hr
                      cases j with
                      | zero =>
                        cases hj
                        have : (str.data.toList.getD i 0) = q := by simp only [List.getD, hq]; rfl
                        rw [this]
                        exact .sc _ _
                      | succ j => simp at hj
                have hbl : (bytesOf str).length = str.size := by simp [bytesOf]
                refine append_core hτ ho hu hde hsz0 hb0 hdf hsz hs hm hO (ks1 := []) (p1 := true) (es1 := bytesOf str) hN (fun i j y h => h.elim) ?_ (fun c hc => by simp [memb] at hc) (by rw [hbl]; exact hW.1) (by simpa using hW.2) hn
                rw [hvx', h1, hbl]
                exact src_string w t2 str hu2
              · exact hW.elim
            · rename_i x0 _ _ q _ _ _ ht2
              have hu2 : P.underlying t2 = some (.slice _) := (hτ _ _ ht2).kind
              have hn0 : 0 < de.size := by omega
              have copy : ∀ es1, Rd w g.J (a.eval x) (.sl true de.size es1) → Flat de.size es1 → (if disj [] ks0 = true then ((es0.length + es1.length) * de.bytes ≤ 140737488355328 ∧ layK nt o s (ks0 ++ []) (p0 && true) de.size (es0 ++ es1) k) else False) → o.wp P a w next Q := by
                intro es1 hR hF hW
                obtain ⟨av, cap, vs, us, e1, hN, hc⟩ := flat_news (I := if true then fun _ => False else g.I) hn0 hR hF
                rw [if_pos (show disj [] ks0 = true from rfl)] at hW
                exact append_core hτ ho hu hde hsz0 hb0 hdf hsz hs hm hO (ks1 := []) (p1 := true) hN (fun i j y h => h.elim) (src_slice w t2 _ de.size _ av es1.length cap e1 hu2 vs hN.len hc) (fun c hc => by simp [memb] at hc) hW.1 hW.2 hn
              have other : withC s x0 (fun _ es => Flat de.size es ∧ (if disj [] ks0 = true then ((es0.length + es.length) * de.bytes ≤ 140737488355328 ∧ layK nt o s (ks0 ++ []) (p0 && true) de.size (es0 ++ es) k) else False)) → o.wp P a w next Q := by
                intro hW
                obtain ⟨n', es1, hR, hF, hW⟩ := withC_rd hm hvx hW
                by_cases hn' : n' = de.size
                · subst hn'
                  exact copy es1 hR hF hW
                · have hes : es1 = [] := by
                    cases es1 with
                    | nil => rfl
                    | cons r rs =>
                      obtain ⟨_, _, _, _, _, h3, _⟩ := hR.elem (i := 0) rfl
                      have := (hF r (by simp)).1
                      omega
                  subst hes
                  refine copy [] ?_ hF hW
                  obtain ⟨av, cap, hf⟩ := hR.form
                  rw [hf]
                  exact .nil _ _ _ _
              cases x0 with
              | ref c gn =>
                simp only [srcW] at hW
                split at hW
                · rename_i r hr
                  split at hW
                  · rename_i hrn
                    obtain ⟨h1, h2, h3⟩ := regAt_some hr
                    obtain ⟨r', h4, h5, h6⟩ := hvx
                    rw [h1] at h4
                    cases h4
                    have hval : a.eval x = g.val c := h6 h2 h3.symm
                    rcases hW with ⟨hF, hW⟩ | hW
                    · refine copy r.es ?_ hF hW
                      rw [hval, ← hrn]
                      exact reg_rd hm h1 h2
                    · split at hW
                      · rename_i hdj
                        have hOr := hm.regs c r h1 h2
                        rw [hrn, ← hval] at hOr
                        obtain ⟨av, cap, vs, us, fs, e1, hN, hfs, hc⟩ := own_news hOr hn0
                        exact append_core hτ ho hu hde hsz0 hb0 hdf hsz hs hm hO (ks1 := [c]) (p1 := r.pure) hN (fun i j y h => ⟨c, by simp [memb], hfs i j y h⟩) (src_slice w t2 _ de.size _ av r.es.length cap e1 hu2 vs hN.len hc)
                          (fun c' hc' => disj_no hdj hc') hW.1 hW.2 hn
                      · exact hW.elim
                  · exact hW.elim
                · exact hW.elim
              | sc v => exact other hW
              | nil n => exact other hW
              | rd ln n es => exact other hW
              | sub h g' lo hi => exact other hW
              | inn h iv i j => exact other hW
              | fx v n es => exact other hW
            · exact hW.elim
          · exact hW.elim
    · exact hW.elim
  · exact hW.elim

end

end Go.Proofs.YtppfojiogappaaaDoor.V

set_option linter.unusedVariables false

set_option linter.unusedSimpArgs false

namespace Go.Proofs.YtppfojiogappaaaDoor.V

open Go Classical

theorem setList (off : Nat) : ∀ (l : List Value) (j : Nat) (cells : Array Value), off + j + l.length ≤ cells.size →
    ∃ r, ((l.zipIdx j).foldl (fun cs p => cs.setIfInBounds (off + p.2) p.1) cells) = r ∧ r.size = cells.size ∧
      (∀ k, k < l.length → r[off + j + k]? = l[k]?) ∧ ∀ k, (k < off + j ∨ off + j + l.length ≤ k) → r[k]? = cells[k]?
  | [], j, cells, h => ⟨cells, rfl, rfl, fun k hk => by simp at hk, fun k _ => rfl⟩
  | v :: l, j, cells, h => by
    simp at h
    obtain ⟨r, h1, h2, h3, h4⟩ := setList off l (j + 1) (cells.setIfInBounds (off + j) v) (by simp; omega)
    refine ⟨r, by simpa [List.zipIdx_cons] using h1, by simpa using h2, fun k hk => ?_, fun k hk => ?_⟩
    · cases k with
      | zero =>
        rw [Nat.add_zero, h4 (off + j) (by omega)]
        simp [Array.getElem?_setIfInBounds, show off + j < cells.size by omega]
      | succ k =>
        have := h3 k (by simpa using hk)
        rw [show off + (j + 1) + k = off + j + (k + 1) by omega] at this
        simpa using this
    · simp at hk
      rw [h4 k (by omega)]
      simp [Array.getElem?_setIfInBounds, show off + j ≠ k by omega]

theorem setArr (off : Nat) (vs cells : Array Value) (h : off + vs.size ≤ cells.size) :
    ∃ r, (vs.zipIdx.foldl (fun cs (c, j) => cs.setIfInBounds (off + j) c) cells) = r ∧ r.size = cells.size ∧
      (∀ k, k < vs.size → r[off + k]? = vs[k]?) ∧ ∀ k, (k < off ∨ off + vs.size ≤ k) → r[k]? = cells[k]? := by
  obtain ⟨r, h1, h2, h3, h4⟩ := setList off vs.toList 0 cells (by simpa using h)
  refine ⟨r, ?_, h2, fun k hk => ?_, fun k hk => h4 k (by simpa using hk)⟩
  · rw [← Array.foldl_toList]
    simpa using h1
  · have := h3 k (by simpa using hk)
    simpa using this

def fillX (place : Nat → Option (Nat × Nat)) (s : S) : List X → List (Nat × Operand) → Option (List X)
  | xs, [] => some xs
  | xs, (i, x) :: rest => match place i, s.ev x with
    | some (off, size), some (.vals _ ys) => if ys.length = size then (if off + size ≤ xs.length then (if ys.all (okX s) then fillX place s (splX xs off ys) rest else none) else none) else none
    | _, _ => none

theorem CellsOk.splice {w : World} {g : G} {rs : List (Nat × Reg)} {us : Array Value} {xs ys : List X} {vs : Array Value} {off : Nat} (h : CellsOk w g rs us xs) (h' : CellsOk w g rs vs ys) (hb : off + ys.length ≤ xs.length)
    {r : Array Value} (h2 : r.size = us.size) (h3 : ∀ k, k < vs.size → r[off + k]? = vs[k]?) (h4 : ∀ k, (k < off ∨ off + vs.size ≤ k) → r[k]? = us[k]?) : CellsOk w g rs r (splX xs off ys) := by
  refine ⟨by rw [splX_len _ _ _ hb, h2, h.1], fun j y hj => ?_⟩
  by_cases hin : off ≤ j ∧ j < off + ys.length
  · have h1 := splX_in xs off ys hb (j - off) (by omega)
    rw [show off + (j - off) = j by omega] at h1
    rw [h1] at hj
    obtain ⟨u, hu, hx⟩ := h'.2 _ y hj
    have := h3 (j - off) (by rw [h'.1]; omega)
    rw [show off + (j - off) = j by omega] at this
    exact ⟨u, by rw [this]; exact hu, hx⟩
  · rw [splX_out xs off ys hb j (by omega)] at hj
    obtain ⟨u, hu, hx⟩ := h.2 j y hj
    exact ⟨u, by rw [h4 j (by rw [h'.1]; omega)]; exact hu, hx⟩

theorem fillX_ok {w0 : World} {A : AA} {B : List (Nat × Nat × Nat)} {nt : Nat} {g : G} {s : S} {a : Act} {w : World} (hs : SlotsOk g s nt a w) (hm : Mem w0 A B g s w) (place : Nat → Option (Nat × Nat)) :
    ∀ (parts : List (Nat × Operand)) (us : Array Value) (xs xs' : List X), CellsOk w g s.regs us xs → (∀ (j : Nat) (u : Value), us[j]? = some u → u.oneCell' = true) → fillX place s xs parts = some xs' →
      ∃ us', Instr.fill place us (parts.map fun p => (p.1, a.eval p.2)) = some us' ∧ CellsOk w g s.regs us' xs' ∧ ∀ (j : Nat) (u : Value), us'[j]? = some u → u.oneCell' = true
  | [], us, xs, xs', hc, h1, h => by cases h; exact ⟨us, rfl, hc, h1⟩
  | (i, x) :: rest, us, xs, xs', hc, h1, h => by
    simp only [fillX] at h
    split at h
    · rename_i off size agg ys hp hx
      split at h
      · rename_i hlen
        split at h
        · rename_i hb
          split at h
          · rename_i hall
            have hv := ev_ok hs hx
            obtain ⟨c1, c2⟩ := vals_cells (v := a.eval x) hv (fun _ u y hy hxo => okX_one hm hxo (by rw [hy] at hall; simpa using hall))
            obtain ⟨r, r1, r2, r3, r4⟩ := setArr off (a.eval x).cells us (by rw [c1, hc.1]; omega)
            have hc' : CellsOk w g s.regs r (splX xs off ys) := hc.splice ⟨c1, c2⟩ (by omega) r2 r3 r4
            have h1' : ∀ (j : Nat) (u : Value), r[j]? = some u → u.oneCell' = true := by
              intro j u hu
              by_cases hin : off ≤ j ∧ j < off + ys.length
              · have := r3 (j - off) (by rw [c1]; omega)
                rw [show off + (j - off) = j by omega, hu] at this
                obtain ⟨u', hu', hxo⟩ := c2 (j - off) (ys[j - off]'(by omega)) (by simp)
                rw [← this] at hu'
                cases hu'
                exact okX_one hm hxo (List.all_eq_true.1 hall _ (by simp))
              · rw [r4 j (by rw [c1]; omega)] at hu
                exact h1 j u hu
            obtain ⟨us', q1, q2, q3⟩ := fillX_ok hs hm place rest r (splX xs off ys) xs' hc' h1' h
            refine ⟨us', ?_, q2, q3⟩
            simp only [List.map_cons, Instr.fill, hp]
            rw [if_neg (by simp [c1, hlen, hc.1]; omega)]
            rw [r1]
            exact q1
          · cases h
        · cases h
      · cases h
    · cases h

def structPlace (τ : Nat → Option TD) (fs : List (Nat × Nat)) (i : Nat) : Option (Nat × Nat) :=
  match fs[i]? with
  | some (off, ft) => (match τ ft with
    | some d => some (off, d.size)
    | none => none)
  | none => none

def buildW (τ : Nat → Option TD) (nt : Nat) (o : Oper) (t : Nat) (parts : Array (Nat × Operand)) (s : S) (k : S → Prop) : Prop :=
  match τ t with
  | some { kind := .struct fs, zero := z, .. } => if fs.all (fun p => (τ p.2).isSome) then (match fillX (structPlace τ fs) s z parts.toList with
    | some xs => putK nt o s (.vals true xs) k
    | none => False) else False
  | _ => False

section

variable {P : Program} {w0 : World} {A : AA} {B : List (Nat × Nat × Nat)} {nt : Nat} {τ : Nat → Option TD}

theorem places_ok (hτ : ∀ t d, τ t = some d → TyOk P t d) : ∀ (l : List Field), (∀ f ∈ l, (τ f.type).isSome = true) →
    l.mapM (fun f => (P.info? f.type).map fun i => (f.offset, i.size)) = some (l.map fun f => (f.offset, match τ f.type with | some d => d.size | none => 0))
  | [], _ => rfl
  | f :: l, h => by
    obtain ⟨d, hd⟩ := Option.isSome_iff_exists.1 (h f (by simp))
    obtain ⟨i, z, h1, h2, _⟩ := (hτ _ _ hd).info
    have ih := places_ok hτ l fun x hx => h x (by simp [hx])
    simp [List.mapM_cons, h1, h2, hd, ih]

theorem build_sound (hτ : ∀ t d, τ t = some d → TyOk P t d) (o : Oper) (t : Nat) (parts : Array (Nat × Operand)) (ho : o.op = .build t parts) : Sound P w0 A B nt o (buildW τ nt o t parts) := by
  intro s a w k next Q hr hW hn
  obtain ⟨hdf, hsz, g, hm, hs⟩ := hr
  unfold buildW at hW
  split at hW
  · rename_i fs _ _ z ht
    split at hW
    · rename_i hall
      split at hW
      · rename_i xs hx
        have hT := hτ _ _ ht
        obtain ⟨i, zv, h1, h2, h3, h4, h5⟩ := zero_cells hT w g s.regs
        obtain ⟨arr, hu, ha⟩ := hT.kind
        obtain ⟨us', q1, q2, q3⟩ := fillX_ok hs hm (structPlace τ fs) parts.toList zv.cells z xs h4 h5 hx
        have hpl := places_ok hτ arr.toList (fun f hf => by
          have : (f.offset, f.type) ∈ fs := by rw [← ha]; exact List.mem_map.2 ⟨f, hf, rfl⟩
          exact List.all_eq_true.1 hall _ this)
        have hb : P.built t (parts.map fun (i, x) => (i, a.eval x)).toList = some us' := by
          simp only [Program.built, h1, hu, h2, hpl]
          have hfun : (fun x => (arr.toList.map fun f => (f.offset, match τ f.type with | some d => d.size | none => 0)).toArray[x]?) = structPlace τ fs := by
            funext i
            simp only [structPlace, ← ha, List.getElem?_toArray, List.getElem?_map]
            cases hq : arr.toList[i]? with
            | none => rfl
            | some f =>
              have hmem : (f.offset, f.type) ∈ fs := by rw [← ha]; exact List.mem_map.2 ⟨f, List.mem_of_getElem? hq, rfl⟩
              obtain ⟨d, hd⟩ := Option.isSome_iff_exists.1 (List.all_eq_true.1 hall _ hmem)
              simp only at hd
              simp [hd]
          rw [hfun]
          simpa using q1
        refine finish hdf hsz hs (Step.refl g s w) hm rfl (v := .agg us') (e := .vals true xs) ?_ ⟨us', rfl, q2⟩ hW hn
        have hrun := run_build (P := P) w t (parts.map fun (i, x) => (i, a.eval x)) us' hb
        simp only [execOp, ho, Sem.run_bind, hrun, Result.andThen_ok, Sem.run_pure]
      · exact hW.elim
    · exact hW.elim
  · exact hW.elim

theorem run_buildSlice {P : Program} {w : World} {t e len : Nat} {i : TypeInfo} {z : Value} (ht : P.underlying t = some (.slice e)) (hi : P.info? e = some i) (hz : i.zero = some z) (hlim : len * i.size ≤ 16777216)
    (parts : Array (Nat × Value)) (us' : Array Value) (hfill : Instr.fill (fun k => some (k * i.size, i.size)) ((Array.range (len * i.size)).map (z.cells[· % z.cells.size]!)) parts.toList = some us') :
    (Instr.buildSlice t len parts).run P w = .ok (.slice (some ⟨w.heap.size, 0, none⟩) len len) (w.alloc (.cells us' e)) := by
  have hlim' : ¬ (len * i.size > 2 ^ 24) := by omega
  have hsz : (sizeOf e).run P w = .ok i.size w := by simp [sizeOf, typeInfo, hi]
  have hzv : (zeroValue e).run P w = .ok z w := by simp [zeroValue, typeInfo, hi, hz]
  unfold Instr.buildSlice
  simp only [Sem.run_bind, run_underlying ht, hsz, Result.andThen_ok, if_neg hlim']
  by_cases h0 : len * i.size = 0
  · have hr0 : ((Array.range (len * i.size)).map (z.cells[· % z.cells.size]!)) = #[] := by rw [h0]; simp
    have hr1 : ((Array.range (len * i.size)).map ((#[] : Array Value)[· % (#[] : Array Value).size]!)) = #[] := by rw [h0]; simp
    rw [hr0] at hfill
    simp only [if_pos h0, Sem.run_bind, Sem.run_pure, Result.andThen_ok, hr1, hfill]
    simp [newRow]
  · simp only [if_neg h0, Sem.run_bind, hzv, Sem.run_pure, Result.andThen_ok, hfill]
    simp [newRow]

def zerosX (d : TD) (len : Nat) : List X := (List.range (len * d.size)).map fun k => d.zero.getD (k % d.size) (.nil 0)

def chunk (n : Nat) : Nat → List C → List (List C)
  | 0, _ => []
  | m + 1, l => l.take n :: chunk n m (l.drop n)

theorem chunk_len (n : Nat) : ∀ (m : Nat) (l : List C), (chunk n m l).length = m
  | 0, _ => rfl
  | m + 1, l => by simp [chunk, chunk_len n m]

theorem chunk_at (n : Nat) : ∀ (m : Nat) (l : List C) (i : Nat), i < m → (chunk n m l)[i]? = some ((l.drop (i * n)).take n)
  | 0, _, _, h => by omega
  | m + 1, l, 0, _ => by simp [chunk]
  | m + 1, l, i + 1, h => by
    simp only [chunk, List.getElem?_cons_succ]
    rw [chunk_at n m (l.drop n) i (by omega), List.drop_drop]
    congr 3
    rw [Nat.add_mul]
    omega

def buildSliceW (τ : Nat → Option TD) (nt : Nat) (o : Oper) (t len : Nat) (parts : Array (Nat × Operand)) (s : S) (k : S → Prop) : Prop :=
  match τ t with
  | some { kind := .slice e, .. } => (match τ e with
    | some de => if de.size = 0 then False else if len * de.size ≤ 16777216 then
      (match fillX (fun i => some (i * de.size, de.size)) s (zerosX de len) parts.toList with
      | some xs => (match mvXs s xs with
        | some (cs, ks, pr) => if nodup ks then layK nt o s ks pr de.size (chunk de.size len cs) k else False
        | none => False)
      | none => False) else False
    | none => False)
  | _ => False

theorem buildSlice_sound (hτ : ∀ t d, τ t = some d → TyOk P t d) (o : Oper) (t len : Nat) (parts : Array (Nat × Operand)) (ho : o.op = .buildSlice t len parts) : Sound P w0 A B nt o (buildSliceW τ nt o t len parts) := by
  intro s a w k next Q hr hW hn
  obtain ⟨hdf, hsz, g, hm, hs⟩ := hr
  unfold buildSliceW at hW
  split at hW
  · rename_i e _ _ _ ht
    have hu : P.underlying t = some (.slice e) := (hτ _ _ ht).kind
    split at hW
    · rename_i de hde
      split at hW
      · exact hW.elim
      · rename_i hsz0
        split at hW
        · rename_i hlim
          split at hW
          · rename_i xs hx
            split at hW
            · rename_i cs ks pr hmv
              split at hW
              · rename_i hnd
                obtain ⟨i, z, h1, h2, h3, h4, h5⟩ := zero_cells (hτ _ _ hde) w g s.regs
                obtain ⟨i', z', e1, e2, _⟩ := (hτ _ _ hde).info
                rw [h1] at e1
                cases e1
                have hn0 : 0 < de.size := by omega
                have hzl : de.zero.length = de.size := (hτ _ _ hde).zlen
                have hzat : ∀ j, j < de.size → ∃ u, z.cells[j]? = some u ∧ u.oneCell' = true ∧ XOk w g s.regs u (de.zero.getD j (.nil 0)) := by
                  intro j hj
                  have : de.zero[j]? = some (de.zero.getD j (.nil 0)) := by simp [List.getD, List.getElem?_eq_getElem (show j < de.zero.length by omega)]
                  obtain ⟨u, hu', hx'⟩ := h4.2 j _ this
                  exact ⟨u, hu', h5 j u hu', hx'⟩
                have hc0 : CellsOk w g s.regs ((Array.range (len * de.size)).map (z.cells[· % z.cells.size]!)) (zerosX de len) := by
                  refine ⟨by simp [zerosX], fun j x hj => ?_⟩
                  have hjl : j < len * de.size := by
                    have := (List.getElem?_eq_some_iff.1 hj).1
                    simpa [zerosX] using this
                  obtain ⟨u, hu', _, hx'⟩ := hzat (j % de.size) (Nat.mod_lt _ hn0)
                  refine ⟨u, ?_, ?_⟩
                  · have hlt : j % de.size < z.cells.size := by rw [h3]; exact Nat.mod_lt _ hn0
                    have hu'' : z.cells[j % de.size] = u := by
                      rw [Array.getElem?_eq_getElem hlt] at hu'
                      exact Option.some.inj hu'
                    simp only [Array.getElem?_map, Array.getElem?_range, hjl, if_true, Option.map_some, Option.some.injEq]
                    rw [h3, getElem!_pos z.cells _ hlt]
                    exact hu''
                  · simp only [zerosX, List.getElem?_map, List.getElem?_range hjl, Option.map_some, Option.some.injEq] at hj
                    rw [← hj]
                    exact hx'
                have h10 : ∀ (j : Nat) (u : Value), ((Array.range (len * de.size)).map (z.cells[· % z.cells.size]!))[j]? = some u → u.oneCell' = true := by
                  intro j u hj
                  have hjl : j < (zerosX de len).length := by rw [← hc0.1]; exact (Array.getElem?_eq_some_iff.1 hj).1
                  have hjl' : j < len * de.size := by simpa [zerosX] using hjl
                  obtain ⟨u', hu', h1', _⟩ := hzat (j % de.size) (Nat.mod_lt _ hn0)
                  have hlt : j % de.size < z.cells.size := by rw [h3]; exact Nat.mod_lt _ hn0
                  have hu'' : z.cells[j % de.size] = u' := by
                    rw [Array.getElem?_eq_getElem hlt] at hu'
                    exact Option.some.inj hu'
                  simp only [Array.getElem?_map, Array.getElem?_range, hjl', if_true, Option.map_some, Option.some.injEq] at hj
                  rw [h3, getElem!_pos z.cells _ hlt] at hj
                  rw [← hj, hu'']
                  exact h1'
                obtain ⟨us', q1, q2, q3⟩ := fillX_ok hs hm (fun i => some (i * de.size, de.size)) parts.toList _ _ xs hc0 h10 hx
                obtain ⟨hcl, fs, f1, f2, f3⟩ := mvXs_own hm hmv hnd
                have hxl : xs.length = len * de.size := by
                  have : ∀ (ps : List (Nat × Operand)) (ys ys' : List X), fillX (fun i => some (i * de.size, de.size)) s ys ps = some ys' → ys'.length = ys.length := by
                    intro ps
                    induction ps with
                    | nil => intro ys ys' h; cases h; rfl
                    | cons p ps ih =>
                      intro ys ys' h
                      simp only [fillX] at h
                      split at h
                      · split at h
                        · split at h
                          · split at h
                            · rw [ih _ _ h]
                              rename_i hh1 hh2 hh3
                              cases ‹some (p.1 * de.size, de.size) = _›
                              exact splX_len _ _ _ (by omega)
                            · cases h
                          · cases h
                        · cases h
                      · cases h
                  rw [this _ _ _ hx]
                  simp [zerosX]
                have hrun := run_buildSlice (P := P) (w := w) (len := len) hu h1 h2 (by rw [e2]; exact hlim) (parts.map fun (i, x) => (i, a.eval x)) us' (by rw [e2]; simpa using q1)
                have hcell : ∀ i j, i < len → j < de.size → ∃ u, us'[i * de.size + j]? = some u ∧ u.oneCell' = true ∧
                    ∀ c, cs[i * de.size + j]? = some c → Own w (if pr then fun _ => False else g.I) (fs (i * de.size + j)) u c := by
                  intro i j hi hj
                  have hlt := place_lt hi hj
                  obtain ⟨u, hu', hxo⟩ := q2.2 (i * de.size + j) (xs[i * de.size + j]'(by omega)) (by simp)
                  exact ⟨u, hu', q3 _ u hu', fun c hc => (f3 _ _ c (by simp) hc u hxo).2⟩
                have hus : us'.size = len * de.size := by rw [q2.1, hxl]
                have hFlt : ∀ y, g.Fs ks y → y < w.heap.size := by
                  rintro y ⟨c, hc, hf⟩
                  have e1 : g.ow y = .reg c := hf
                  exact hm.lt y (by rw [e1]; simp)
                have hold : ∀ y, y < w.heap.size → (w.alloc (.cells us' e)).heap[y]? = w.heap[y]? := fun y hy => heap_alloc_old w _ y hy
                refine lay (P := P) hdf hsz hs hm ks (hm.ext.alloc _) (by simp) (fun y hy _ => hold y hy) (fun y => y = w.heap.size ∨ g.Fs ks y) (fun y hy => ?_) pr de.size (chunk de.size len cs) (v := .slice (some ⟨w.heap.size, 0, none⟩) len len) ?_ ?_ hW hn
                · rcases hy with rfl | hy
                  · exact ⟨.inr (Nat.le_refl _), by simp⟩
                  · refine ⟨.inl hy, ?_⟩
                    have := hFlt y hy
                    simp; omega
                · refine Own.fresh (fun i j => us'.getD (i * de.size + j) undef) (fun i j x => i < len ∧ j < de.size ∧ fs (i * de.size + j) x) _ (heap_alloc_new w _) (fun k _ h => by simp at h) (by rw [hus]; exact Nat.le_refl _) hn0 (chunk_len _ _ _) (Nat.le_refl _)
                    (by simp only [maxLen]; have := Nat.le_mul_of_pos_right len hn0; omega) (fun i r hr => ?_) (fun i j hi hj => ?_) (fun i j hi hj => ?_) (.inl rfl) (fun i j x hx => ?_) (fun i j i' j' x hx hx' => ?_) (fun i j r c hr hj => ?_)
                  · have hi : i < len := by
                      have := (List.getElem?_eq_some_iff.1 hr).1
                      rwa [chunk_len] at this
                    rw [chunk_at _ _ _ _ hi] at hr
                    cases hr
                    have h2 : (i + 1) * de.size ≤ len * de.size := Nat.mul_le_mul_right _ hi
                    rw [Nat.add_mul] at h2
                    simp only [List.length_take, List.length_drop, hcl, hxl]
                    omega
                  · obtain ⟨u, hu', _, _⟩ := hcell i j hi hj
                    have hu2 := hu'
                    rw [Array.getElem?_eq_getElem (by rw [hus]; exact place_lt hi hj)] at hu2
                    rw [hu', ← Option.some.inj hu2]
                    simp [show i * de.size + j < us'.size by rw [hus]; exact place_lt hi hj]
                  · obtain ⟨u, hu', h1', _⟩ := hcell i j hi hj
                    have : us'.getD (i * de.size + j) undef = u := by simp [hu']
                    rw [this]
                    exact h1'
                  · obtain ⟨hi, hj, hx⟩ := hx
                    have hfx := f1 _ x hx
                    exact ⟨.inr hfx, fun e => by have := hFlt x hfx; omega⟩
                  · obtain ⟨hi, hj, hx⟩ := hx
                    obtain ⟨hi', hj', hx'⟩ := hx'
                    exact place_inj hj hj' (f2 _ _ x hx hx')
                  · have hi : i < len := by
                      have := (List.getElem?_eq_some_iff.1 hr).1
                      rwa [chunk_len] at this
                    rw [chunk_at _ _ _ _ hi] at hr
                    cases hr
                    rw [List.getElem?_take] at hj
                    split at hj
                    · rename_i hjn
                      rw [List.getElem?_drop] at hj
                      obtain ⟨u, hu', _, hO⟩ := hcell i j hi hjn
                      have : us'.getD (i * de.size + j) undef = u := by simp [hu']
                      rw [this]
                      refine (hO c hj).frame (fun _ h => h) (fun x hx => ⟨hi, hjn, hx⟩) (fun x hx => hold x ?_) (fun x hx => hold x (hFlt x (f1 _ x hx)))
                      split at hx
                      · exact hx.elim
                      · have e1 : g.ow x = .imm := hx
                        exact hm.lt x (by rw [e1]; simp)
                    · cases hj
                · simp only [execOp, ho, Sem.run_bind, hrun, Result.andThen_ok, Sem.run_pure]
              · exact hW.elim
            · exact hW.elim
          · exact hW.elim
        · exact hW.elim
    · exact hW.elim
  · exact hW.elim

end

end Go.Proofs.YtppfojiogappaaaDoor.V

set_option linter.unusedVariables false

set_option linter.unusedSimpArgs false

namespace Go.Proofs.YtppfojiogappaaaDoor.V

open Go Classical

theorem Rd.cap {w : World} {I : Nat → Prop} {v : Value} {own : Bool} {n : Nat} {es : List (List C)} (h : Rd w I v (.sl own n es)) : ∀ a len cap, v = .slice a len cap → es.length = len ∧ len ≤ cap := by
  cases h with
  | nil => intro a len cap e; cases e; exact ⟨rfl, Nat.zero_le _⟩
  | row b o len cap _ _ _ u hI hlen hc => intro a len cap e; cases e; exact ⟨hlen, hc⟩

theorem Own.cap {w : World} {I F : Nat → Prop} {v : Value} {n : Nat} {es : List (List C)} (h : Own w I F v (.sl true n es)) : ∀ a len cap, v = .slice a len cap → es.length = len ∧ len ≤ cap := by
  cases h with
  | nil => intro a len cap e; cases e; exact ⟨rfl, Nat.le_refl _⟩
  | row _ g o len cap _ _ cs e u f hF hff hd fr hfr hg hsz hn hlen hc => intro a len cap e; cases e; exact ⟨hlen, hc⟩

def zC : X → C
  | .sc v => .sc v
  | .nil n => .sl true n []
  | _ => .any

def makeSliceW (τ : Nat → Option TD) (nt : Nat) (o : Oper) (t : Nat) (l c : Operand) (s : S) (k : S → Prop) : Prop :=
  match τ t, s.ev l, s.ev c with
  | some { kind := .slice e, .. }, some (.vals false [.sc (.int _ n)]), some (.vals false [.sc (.int _ m)]) => (match τ e with
    | some de => if de.size = 0 then False else
      0 ≤ n ∧ n = m ∧ (de.bytes : Int) * n ≤ 281474976710656 ∧ n ≤ 9223372036854775807 ∧ layK nt o s [] true de.size (List.replicate n.toNat (de.zero.map zC)) k
    | none => False)
  | _, _, _ => False

section

variable {P : Program} {w0 : World} {A : AA} {B : List (Nat × Nat × Nat)} {nt : Nat} {τ : Nat → Option TD}

theorem makeSlice_sound (hτ : ∀ t d, τ t = some d → TyOk P t d) (o : Oper) (t : Nat) (l c : Operand) (ho : o.op = .makeSlice t l c) : Sound P w0 A B nt o (makeSliceW τ nt o t l c) := by
  intro s a w k next Q hr hW hn
  obtain ⟨hdf, hsz, g, hm, hs⟩ := hr
  unfold makeSliceW at hW
  split at hW
  · rename_i e _ _ _ k1 n k2 m ht hl hc
    have hu : P.underlying t = some (.slice e) := (hτ _ _ ht).kind
    split at hW
    · rename_i de hde
      split at hW
      · exact hW.elim
      · rename_i hsz0
        obtain ⟨hn0, rfl, hby, h63, hK⟩ := hW
        obtain ⟨i, z, h1, h2, h3, h4, h5⟩ := zero_cells (hτ _ _ hde) w g s.regs
        obtain ⟨i', z', e1, e2, e3, _⟩ := (hτ _ _ hde).info
        rw [h1] at e1
        cases e1
        have hv1 : a.eval l = .int k1 n := by obtain ⟨y, q1, q2⟩ := ev_ok hs hl; cases q1; exact q2
        have hv2 : a.eval c = .int k2 n := by obtain ⟨y, q1, q2⟩ := ev_ok hs hc; cases q1; exact q2
        have hrun := run_make (P := P) w t e i z hu h1 h2 k1 k2 n n hn0 (Int.le_refl _) (by rw [e3]; exact hby) h63
        have hpos : 0 < de.size := by omega
        have hold : ∀ y, y < w.heap.size → (w.alloc (.cells (madeCells z.cells (n.toNat * i.size)) e)).heap[y]? = w.heap[y]? := fun y hy => heap_alloc_old w _ y hy
        have hmc : ∀ k, k < n.toNat * de.size → (madeCells z.cells (n.toNat * i.size))[k]? = z.cells[k % de.size]? := by
          intro k hk
          have hlt : k % de.size < z.cells.size := by rw [h3]; exact Nat.mod_lt _ hpos
          simp only [madeCells, Array.getElem?_map, Array.getElem?_range, e2, hk, if_true, Option.map_some, h3]
          rw [getElem!_pos z.cells _ hlt, Array.getElem?_eq_getElem hlt]
        have hmod : ∀ i j, j < de.size → (i * de.size + j) % de.size = j := fun i j hj => by rw [Nat.add_comm, Nat.add_mul_mod_self_right, Nat.mod_eq_of_lt hj]
        refine lay (P := P) hdf hsz hs hm [] (hm.ext.alloc _) (by simp) (fun y hy _ => hold y hy) (fun y => y = w.heap.size) (fun y hy => by subst hy; exact ⟨.inr (Nat.le_refl _), by simp⟩) true de.size _ (v := .slice (some ⟨w.heap.size, 0, none⟩) n.toNat n.toNat) ?_ ?_ hK hn
        · refine Own.fresh (fun _ j => z.cells.getD j undef) (fun _ _ _ => False) _ (heap_alloc_new w _) (fun k _ h => by simp at h) (by rw [size_madeCells, e2]; exact Nat.le_refl _) hpos (by simp) (Nat.le_refl _)
            (by simp only [maxLen]; omega) (fun i r hr => ?_) (fun i j hi hj => ?_) (fun i j hi hj => ?_) rfl (fun _ _ _ h => h.elim) (fun _ _ _ _ _ h => h.elim) (fun i j r cc hr hj => ?_)
          · have hr' := (List.getElem?_eq_some_iff.1 hr).2
            simp at hr'
            rw [← hr']
            simp [(hτ _ _ hde).zlen]
          · rw [hmc _ (place_lt hi hj), hmod i j hj]
            have hlt : j < z.cells.size := by omega
            simp [hlt]
          · have hlt : j < z.cells.size := by omega
            have : z.cells.getD j undef = z.cells[j] := by simp [hlt]
            rw [this]
            exact h5 j _ (by simp)
          · have hr' := (List.getElem?_eq_some_iff.1 hr).2
            simp at hr'
            subst hr'
            rw [List.getElem?_map] at hj
            cases hz : de.zero[j]? with
            | none => rw [hz] at hj; cases hj
            | some x =>
              rw [hz] at hj
              cases hj
              obtain ⟨u, hu', hx⟩ := h4.2 j x hz
              have : z.cells.getD j undef = u := by simp [hu']
              rw [this]
              have hzx := List.all_eq_true.1 (hτ _ _ hde).zone x (List.mem_of_getElem? hz)
              cases x with
              | sc v =>
                have : u = v := hx
                subst this
                exact .sc _ _
              | nil m =>
                have : u = .slice none 0 0 := hx
                subst this
                exact .nil _ _
              | _ => cases hzx
        · simp only [execOp, ho, hv1, hv2, Sem.run_bind, hrun, Result.andThen_ok, Sem.run_pure]
    · exact hW.elim
  · exact hW.elim

def indexAddrW (τ : Nat → Option TD) (nt : Nat) (o : Oper) (t : Nat) (x i : Operand) (s : S) (k : S → Prop) : Prop :=
  match τ t, s.ev x, s.ev i with
  | some { kind := .slice e, .. }, some (.vals false [y]), some (.vals false [.sc (.int _ n)]) => (match τ e with
    | some de => (match y with
      | .rd ln m es => if lnLive s ln then (if m = de.size then 0 ≤ n ∧ ∃ row, es[n.toNat]? = some row ∧ putK nt o s (.rptr ln row 0) k else False) else False
      | .ref h g => (match regAt s h g with
        | some r => if r.n = de.size then 0 ≤ n ∧ n < (r.es.length : Int) ∧ putK nt o s (.eptr h g n.toNat 0) k else False
        | none => False)
      | .sub h g lo hi => (match regAt s h g with
        | some r => if r.n = de.size then 0 ≤ n ∧ n < ((hi - lo : Nat) : Int) ∧ putK nt o s (.eptr h g (lo + n.toNat) 0) k else False
        | none => False)
      | .inn h iv a b => (match regIv s h iv with
        | some r => ∃ row0 m es row, r.es[a]? = some row0 ∧ row0[b]? = some (.sl true m es) ∧ m = de.size ∧ 0 ≤ n ∧ es[n.toNat]? = some row ∧ putK nt o s (.rptr (some (h, iv)) row 0) k
        | none => False)
      | _ => False)
    | none => False)
  | _, _, _ => False

theorem rdptr_ok {w : World} {g : G} {s : S} {u : Value} {ln : Option (Nat × Nat)} {m : Nat} {es : List (List C)} {i : Nat} {row : List C} (hx : XOk w g s.regs u (.rd ln m es)) (hl : lnLive s ln = true) (hrow : es[i]? = some row) :
    ∃ b o cap, u = .slice (some ⟨b, o, none⟩) es.length cap ∧ EOk w g s.boxes s.regs (.pointer (some ⟨b, o + i * m + 0, none⟩)) (.rptr ln row 0) := by
  cases ln with
  | none =>
    have hR : Rd w g.I u (.sl true m es) := hx
    obtain ⟨b, o, cap, e1, e2, e3, e4⟩ := hR.elem hrow
    refine ⟨b, o, cap, e1, b, o + i * m, rfl, e2, fun j c hj => ?_⟩
    obtain ⟨v, hv, _, hr⟩ := e4 j c hj
    exact ⟨v, hv, hr⟩
  | some q =>
    obtain ⟨c, iv⟩ := q
    obtain ⟨r, h1, h2, h3⟩ := lnLive_some hl
    obtain ⟨r', h4, h5, h6⟩ := hx
    rw [h1] at h4
    cases h4
    obtain ⟨b, o, cap, e1, e2, e3, e4⟩ := (h6 h2 h3.symm).elem hrow
    refine ⟨b, o, cap, e1, r, h1, h5, fun _ _ => ⟨b, o + i * m, rfl, e2, fun j c hj => ?_⟩⟩
    obtain ⟨v, hv, _, hr⟩ := e4 j c hj
    exact ⟨v, hv, hr⟩

theorem inn_rd {g : G} {s : S} {w : World} (hm : Mem w0 A B g s w) {u : Value} {h iv i j : Nat} (hx : XOk w g s.regs u (.inn h iv i j)) {r : Reg} (hr : regIv s h iv = some r) {row : List C} {m : Nat} {es : List (List C)}
    (hrow : r.es[i]? = some row) (hj : row[j]? = some (.sl true m es)) : lnLive s (some (h, iv)) = true ∧ XOk w g s.regs u (.rd (some (h, iv)) m es) := by
  obtain ⟨h1, h2, h3⟩ := regIv_some hr
  refine ⟨by simp [lnLive, h1, h2, h3], r, h1, by omega, fun _ _ => ?_⟩
  obtain ⟨r', h4, h5, h6⟩ := hx
  rw [h1] at h4
  cases h4
  obtain ⟨b, o, len, cap, e1, e2, e3, e4, e5⟩ := h6 h2 h3.symm
  have hR : Rd w (fun b => g.I b ∨ g.F h b) (g.val h) (.sl true r.n r.es) := by
    refine (hm.regs h r h1 h2).rdOf.frame ?_ (fun _ _ => rfl)
    rintro b (hb | hb)
    · split at hb
      · exact hb.elim
      · exact .inl hb
    · exact .inr hb
  obtain ⟨b', o', cap', f1, f2, f3, f4⟩ := hR.elem hrow
  rw [e1] at f1
  cases f1
  obtain ⟨u', hu, _, hr'⟩ := f4 j _ hj
  rw [e5] at hu
  cases hu
  exact hr'

theorem indexAddr_run (hτ : ∀ t d, τ t = some d → TyOk P t d) {t e : Nat} {de : TD} (ht : P.underlying t = some (.slice e)) (hde : τ e = some de) (w : World) (b o len cap : Nat) (k : IntKind) (n : Int) (h0 : 0 ≤ n) (h1 : n.toNat < len) :
    (Instr.indexAt t (.slice (some ⟨b, o, none⟩) len cap) (.int k n)).run P w = .ok (.pointer (some ⟨b, o + n.toNat * de.size, none⟩)) w := by
  obtain ⟨i, z, hi, hisz, _⟩ := (hτ _ _ hde).info
  have hlt : n < (len : Int) := by omega
  simp [Instr.indexAt, asIntOf, run_underlying ht, h0, hlt, sizeOf, typeInfo, hi, hisz, add_eq]

theorem indexAddr_sound (hτ : ∀ t d, τ t = some d → TyOk P t d) (o : Oper) (t : Nat) (x i : Operand) (ho : o.op = .indexAddr t x i) : Sound P w0 A B nt o (indexAddrW τ nt o t x i) := by
  intro s a w k next Q hr hW hn
  obtain ⟨hdf, hsz, g, hm, hs⟩ := hr
  unfold indexAddrW at hW
  split at hW
  · rename_i e _ _ _ y k1 n ht hx hi
    have hu : P.underlying t = some (.slice e) := (hτ _ _ ht).kind
    have hv2 : a.eval i = .int k1 n := by obtain ⟨y, q1, q2⟩ := ev_ok hs hi; cases q1; exact q2
    obtain ⟨y', q1, hvx⟩ := ev_ok hs hx
    cases q1
    split at hW
    · rename_i de hde
      split at hW
      · rename_i ln m es
        split at hW
        · rename_i hl
          split at hW
          · rename_i hmd
            obtain ⟨h0, row, hrow, hK⟩ := hW
            obtain ⟨b, o', cap, e1, e2⟩ := rdptr_ok hvx hl hrow
            subst hmd
            refine finish hdf hsz hs (Step.refl g s w) hm rfl ?_ e2 hK hn
            have hlt : n.toNat < es.length := (List.getElem?_eq_some_iff.1 hrow).1
            simp only [execOp, ho, e1, hv2, Sem.run_bind, indexAddr_run hτ hu hde w b o' es.length cap k1 n h0 hlt, Result.andThen_ok, Sem.run_pure, Nat.add_zero]
          · exact hW.elim
        · exact hW.elim
      · rename_i h gn
        split at hW
        · rename_i r hreg
          split at hW
          · rename_i hrn
            obtain ⟨h0, hlt, hK⟩ := hW
            obtain ⟨h1, h2, h3⟩ := regAt_some hreg
            obtain ⟨r', h4, h5, h6⟩ := hvx
            rw [h1] at h4
            cases h4
            have hlt' : n.toNat < r.es.length := by omega
            obtain ⟨b, o', cap, e1, _, _, _⟩ := own_cells (hm.regs h r h1 h2) (i := n.toNat) (row := r.es[n.toNat]) (by simp)
            have hval : a.eval x = g.val h := h6 h2 h3.symm
            refine finish hdf hsz hs (Step.refl g s w) hm rfl (v := .pointer (some ⟨b, o' + n.toNat * de.size, none⟩)) (e := .eptr h gn n.toNat 0) ?_ ⟨r, h1, by omega, fun _ _ => ⟨b, o', r.es.length, cap, e1, hlt', by rw [hrn]; rfl⟩⟩ hK hn
            simp only [execOp, ho, hval, e1, hv2, Sem.run_bind, indexAddr_run hτ hu hde w b o' r.es.length cap k1 n h0 hlt', Result.andThen_ok, Sem.run_pure]
          · exact hW.elim
        · exact hW.elim
      · rename_i h gn lo hi'
        split at hW
        · rename_i r hreg
          split at hW
          · rename_i hrn
            obtain ⟨h0, hlt, hK⟩ := hW
            obtain ⟨h1, h2, h3⟩ := regAt_some hreg
            obtain ⟨r', h4, h5, h6⟩ := hvx
            rw [h1] at h4
            cases h4
            obtain ⟨h7, h8, h9⟩ := h6 h2 h3.symm
            have hlt' : lo + n.toNat < r.es.length := by omega
            obtain ⟨b, o', cap, e1, _, _, _⟩ := own_cells (hm.regs h r h1 h2) (i := lo + n.toNat) (row := r.es[lo + n.toNat]) (by simp)
            rcases h7 with ⟨e2, _⟩ | ⟨gb, og, leng, capg, os, caps, e2, e3, e4, e5, e6⟩
            · rw [e1] at e2; cases e2
            · rw [e1] at e2
              cases e2
              have hos : os = o' + lo * r.n := by
                rcases e6 with h | ⟨h, _⟩
                · exact h
                · omega
              subst hos
              have haddr : o' + lo * r.n + n.toNat * de.size = o' + (lo + n.toNat) * r.n + 0 := by rw [← hrn, Nat.add_mul]; omega
              refine finish hdf hsz hs (Step.refl g s w) hm rfl (v := .pointer (some ⟨b, o' + lo * r.n + n.toNat * de.size, none⟩)) (e := .eptr h gn (lo + n.toNat) 0) ?_ ⟨r, h1, by omega, fun _ _ => ⟨b, o', _, _, e1, hlt', by rw [haddr]⟩⟩ hK hn
              simp only [execOp, ho, e3, hv2, Sem.run_bind, indexAddr_run hτ hu hde w b (o' + lo * r.n) (hi' - lo) caps k1 n h0 (by omega), Result.andThen_ok, Sem.run_pure]
          · exact hW.elim
        · exact hW.elim
      · rename_i h iv c d
        split at hW
        · rename_i r hreg
          obtain ⟨row0, m, es, row, hr0, hj, hmd, h0, hrow, hK⟩ := hW
          obtain ⟨hl, hrd⟩ := inn_rd hm hvx hreg hr0 hj
          obtain ⟨b, o', cap, e1, e2⟩ := rdptr_ok hrd hl hrow
          subst hmd
          refine finish hdf hsz hs (Step.refl g s w) hm rfl ?_ e2 hK hn
          have hlt : n.toNat < es.length := (List.getElem?_eq_some_iff.1 hrow).1
          simp only [execOp, ho, e1, hv2, Sem.run_bind, indexAddr_run hτ hu hde w b o' es.length cap k1 n h0 hlt, Result.andThen_ok, Sem.run_pure, Nat.add_zero]
        · exact hW.elim
      · exact hW.elim
    · exact hW.elim
  · exact hW.elim

@[irreducible] noncomputable def cutStr (s : ByteArray) (l : Int) (h : Int) : ByteArray := (hid (fun (s : ByteArray) (l : Int) (h : Int) => (s.extract l.toNat h.toNat : ByteArray))).1 s l h

theorem cutStr_eq (s : ByteArray) (l : Int) (h : Int) : cutStr s l h = (s.extract l.toNat h.toNat) := by
  unfold cutStr
  rw [(hid _).2]

def bndK (s : S) (x : Option Operand) (dflt : Int) (k : Int → Prop) : Prop :=
  match x with
  | none => k dflt
  | some p => (match s.ev p with
    | some (.vals false [.sc (.int _ n)]) => k n
    | _ => False)

def sliceW (τ : Nat → Option TD) (nt : Nat) (o : Oper) (t : Nat) (x : Operand) (lo hi mx : Option Operand) (s : S) (k : S → Prop) : Prop :=
  match mx, τ t, s.ev x with
  | none, some { kind := .str, .. }, some (.vals false [.sc (.string b)]) =>
    bndK s lo 0 fun l => bndK s hi (b.size : Int) fun h => 0 ≤ l ∧ l ≤ h ∧ h ≤ (b.size : Int) ∧ putK nt o s (.vals false [.sc (.string (cutStr b l h))]) k
  | none, some { kind := .slice e, .. }, some (.vals false [y]) => (match τ e with
    | some de => (match y with
      | .nil n => bndK s lo 0 fun l => bndK s hi 0 fun h => l = 0 ∧ h = 0 ∧ putK nt o s (.vals false [.nil n]) k
      | .rd ln m es => if lnLive s ln then (if m = de.size then bndK s lo 0 fun l => bndK s hi (es.length : Int) fun h => 0 ≤ l ∧ l ≤ h ∧ h ≤ (es.length : Int) ∧ putK nt o s (.vals false [.rd ln m ((es.take h.toNat).drop l.toNat)]) k else False) else False
      | .ref c g => (match regAt s c g with
        | some r => if r.n = de.size then bndK s lo 0 fun l => bndK s hi (r.es.length : Int) fun h => 0 ≤ l ∧ l ≤ h ∧ h ≤ (r.es.length : Int) ∧ putK nt o s (.vals false [.sub c g l.toNat h.toNat]) k else False
        | none => False)
      | .sub c g lo' hi' => (match regAt s c g with
        | some r => if r.n = de.size then bndK s lo 0 fun l => bndK s hi ((hi' - lo' : Nat) : Int) fun h => 0 ≤ l ∧ l ≤ h ∧ h ≤ ((hi' - lo' : Nat) : Int) ∧ putK nt o s (.vals false [.sub c g (lo' + l.toNat) (lo' + h.toNat)]) k else False
        | none => False)
      | .inn c iv i j => (match regIv s c iv with
        | some r => ∃ row0 m es, r.es[i]? = some row0 ∧ row0[j]? = some (.sl true m es) ∧ m = de.size ∧ bndK s lo 0 fun l => bndK s hi (es.length : Int) fun h => 0 ≤ l ∧ l ≤ h ∧ h ≤ (es.length : Int) ∧
            putK nt o s (.vals false [.rd (some (c, iv)) m ((es.take h.toNat).drop l.toNat)]) k
        | none => False)
      | _ => False)
    | none => False)
  | _, _, _ => False

theorem bndK_ok {g : G} {s : S} {a : Act} {w : World} (hs : SlotsOk g s nt a w) {x : Option Operand} {d : Int} {k : Int → Prop} (h : bndK s x d k) :
    ∃ n, k n ∧ ((x = none ∧ n = d) ∨ ∃ p q, x = some p ∧ a.eval p = .int q n) := by
  cases x with
  | none => exact ⟨d, h, .inl ⟨rfl, rfl⟩⟩
  | some p =>
    simp only [bndK] at h
    split at h
    · rename_i q n hp
      have hv : a.eval p = .int q n := by obtain ⟨y, q1, q2⟩ := ev_ok hs hp; cases q1; exact q2
      exact ⟨n, h, .inr ⟨p, q, rfl, hv⟩⟩
    · exact h.elim

theorem bounds_run {a : Act} {w : World} {isS : Bool} {len cap : Nat} {lo hi : Option Operand} {l h : Int} (h0 : 0 ≤ l) (h1 : l ≤ h) (h2 : h ≤ (len : Int)) (hlc : len ≤ cap) (hcap : isS = false → cap = len)
    (hl : (lo = none ∧ l = 0) ∨ ∃ p q, lo = some p ∧ a.eval p = .int q l) (hh : (hi = none ∧ h = (len : Int)) ∨ ∃ p q, hi = some p ∧ a.eval p = .int q h) :
    (Instr.sliceBounds isS len cap (lo.map a.eval) (hi.map a.eval) none).run P w = .ok (l.toNat, h.toNat, cap) w := by
  have hb : ∀ (q : IntKind) (n : Int) (y : Nat) (c : BoundsCode), 0 ≤ n → n ≤ (y : Int) → (Instr.sliceBound (.int q n) y c).run P w = .ok n.toNat w := by
    intro q n y c hn0 hny
    simp [Instr.sliceBound, asIntOf, hn0, hny]
  have hcapI : h ≤ (cap : Int) := by omega
  have hh' : h.toNat = len ∨ True := .inr trivial
  rcases hh with ⟨rfl, rfl⟩ | ⟨p, q, rfl, hp⟩ <;> rcases hl with ⟨rfl, rfl⟩ | ⟨p', q', rfl, hp'⟩
  · simp [Instr.sliceBounds]
  · have e := fun c => hb q' l len c h0 (by omega)
    simp only [Instr.sliceBounds, Option.map_none, Option.map_some, Sem.run_bind, Sem.run_pure, Result.andThen_ok, hp', e, Int.toNat_natCast]
  · have e := fun c => hb q h cap c (by omega) hcapI
    simp only [Instr.sliceBounds, Option.map_none, Option.map_some, Sem.run_bind, Sem.run_pure, Result.andThen_ok, hp, e]
    rfl
  · have e := fun c => hb q h cap c (by omega) hcapI
    have e' := fun c => hb q' l h.toNat c h0 (by omega)
    simp only [Instr.sliceBounds, Option.map_none, Option.map_some, Sem.run_bind, Sem.run_pure, Result.andThen_ok, hp, hp', e, e']

theorem sub_model {v : Value} {n l h : Nat} {a : Option Addr} {len cap : Nat} (hv : v = .slice a len cap) (ha : ∀ ad, a = some ad → ad.spot = none) (hn : a = none → len = 0 ∧ cap = 0) (h1 : l ≤ h) (h2 : h ≤ len) (hc : len ≤ cap) :
    SubOf v n l h (.slice (if cap = l then a else a.map (·.add (l * n))) (h - l) (cap - l)) := by
  cases a with
  | none =>
    obtain ⟨rfl, rfl⟩ := hn rfl
    have : h = 0 := by omega
    subst this
    have : l = 0 := by omega
    subst this
    exact .inl ⟨hv, by simp⟩
  | some ad =>
    obtain ⟨b, o, sp⟩ := ad
    have := ha _ rfl
    cases this
    refine .inr ⟨b, o, len, cap, if cap = l then o else o + l * n, cap - l, hv, ?_, Nat.le_refl _, by omega, ?_⟩
    · by_cases hcl : cap = l
      · simp [hcl]
      · simp [hcl, add_eq]
    · by_cases hcl : cap = l
      · right; simp [hcl]
      · left; simp [hcl]

theorem sub_sub {v u u' : Value} {n lo hi l h : Nat} (h1 : SubOf v n lo hi u) (h2 : SubOf u n l h u') (hlh : l ≤ h) (hh : h ≤ hi - lo) (hlo : lo ≤ hi) : SubOf v n (lo + l) (lo + h) u' := by
  rcases h1 with ⟨rfl, rfl⟩ | ⟨g, o, len, cap, o', cap', rfl, rfl, h3, h4, h5⟩
  · rcases h2 with ⟨_, rfl⟩ | ⟨g, o, len, cap, o', cap', e, _⟩
    · exact .inl ⟨rfl, rfl⟩
    · cases e
  · rcases h2 with ⟨e, _⟩ | ⟨g2, o2, len2, cap2, o2', cap2', e, rfl, q3, q4, q5⟩
    · cases e
    · cases e
      refine .inr ⟨g, o, len, cap, o2', cap2', rfl, by rw [show lo + h - (lo + l) = h - l by omega], by omega, by omega, ?_⟩
      have hmul : (lo + l) * n = lo * n + l * n := Nat.add_mul _ _ _
      rcases h5 with rfl | ⟨h5, h6⟩
      · rcases q5 with rfl | ⟨q5, q6⟩
        · left; omega
        · right; omega
      · rcases q5 with rfl | ⟨q5, q6⟩
        · right; omega
        · right; omega

theorem rdX_part {w : World} {g : G} {regs : List (Nat × Reg)} {u u' : Value} {ln : Option (Nat × Nat)} {m : Nat} {es : List (List C)} (hx : XOk w g regs u (.rd ln m es)) {lo hi : Nat} (h1 : lo ≤ hi) (h2 : hi ≤ es.length)
    (hs : ∀ I : Nat → Prop, Rd w I u (.sl true m es) → Rd w I u' (.sl true m ((es.take hi).drop lo))) : XOk w g regs u' (.rd ln m ((es.take hi).drop lo)) := by
  cases ln with
  | none => exact hs _ hx
  | some q =>
    obtain ⟨c, iv⟩ := q
    obtain ⟨r, h4, h5, h6⟩ := hx
    exact ⟨r, h4, h5, fun hv he => hs _ (h6 hv he)⟩

theorem part_model {w : World} {I : Nat → Prop} {v : Value} {own : Bool} {n : Nat} {es : List (List C)} (h : Rd w I v (.sl own n es)) {l hi : Nat} (h1 : l ≤ hi) (h2 : hi ≤ es.length) {a : Option Addr} {cap : Nat} (hv : v = .slice a es.length cap) :
    Rd w I (.slice (if cap = l then a else a.map (·.add (l * n))) (hi - l) (cap - l)) (.sl own n ((es.take hi).drop l)) := by
  subst hv
  rcases Nat.eq_or_lt_of_le h1 with rfl | hlt
  · have : (es.take l).drop l = [] := by simp
    rw [this, Nat.sub_self]
    exact .nil _ _ _ _
  · have hc : es.length ≤ cap := (h.cap _ _ _ rfl).2
    have hcl : cap ≠ l := by omega
    rw [if_neg hcl]
    refine h.part l hi (cap - l) h1 h2 (by omega) _ fun _ b o ha => ?_
    subst ha
    simp [add_eq]

theorem slice_sound (hτ : ∀ t d, τ t = some d → TyOk P t d) (o : Oper) (t : Nat) (x : Operand) (lo hi mx : Option Operand) (ho : o.op = .slice t x lo hi mx) : Sound P w0 A B nt o (sliceW τ nt o t x lo hi mx) := by
  intro s a w k next Q hr hW hn
  obtain ⟨hdf, hsz, g, hm, hs⟩ := hr
  unfold sliceW at hW
  split at hW
  · rename_i b ht hx
    have hu : P.underlying t = some .string := (hτ _ _ ht).kind
    have hv : a.eval x = .string b := by obtain ⟨y, q1, q2⟩ := ev_ok hs hx; cases q1; exact q2
    obtain ⟨l, hW, hl⟩ := bndK_ok hs hW
    obtain ⟨h, hW, hh⟩ := bndK_ok hs hW
    obtain ⟨h0, h1, h2, hK⟩ := hW
    have hb := bounds_run (P := P) (w := w) (isS := false) (len := b.size) (cap := b.size) h0 h1 h2 (Nat.le_refl _) (fun _ => rfl) hl hh
    refine finish hdf hsz hs (Step.refl g s w) hm rfl ?_ (sc_ok _ _ _ _ _) hK hn
    simp [execOp, ho, hv, Instr.sliceAt, Instr.slice, run_underlying hu, hb, cutStr_eq]
  · rename_i e _ _ _ y ht hx
    have hu : P.underlying t = some (.slice e) := (hτ _ _ ht).kind
    obtain ⟨y', q1, hvx⟩ := ev_ok hs hx
    cases q1
    split at hW
    · rename_i de hde
      obtain ⟨i, z, hi', hisz, _⟩ := (hτ _ _ hde).info
      have hrun : ∀ (ad : Option Addr) (len cap : Nat) (l h : Int), a.eval x = .slice ad len cap → 0 ≤ l → l ≤ h → h ≤ (len : Int) → len ≤ cap → ((lo = none ∧ l = 0) ∨ ∃ p q, lo = some p ∧ a.eval p = .int q l) →
          ((hi = none ∧ h = (len : Int)) ∨ ∃ p q, hi = some p ∧ a.eval p = .int q h) →
          (execOp a.eval o).run P w = .ok (.value (.slice (if cap = l.toNat then ad else ad.map (·.add (l.toNat * de.size))) (h.toNat - l.toNat) (cap - l.toNat))) w := by
        intro ad len cap l h hv h0 h1 h2 hlc hl hh
        have hb := bounds_run (P := P) (w := w) (isS := true) (len := len) (cap := cap) h0 h1 h2 hlc (fun h => by cases h) hl hh
        simp [execOp, ho, hv, Instr.sliceAt, Instr.slice, run_underlying hu, hb, sizeOf, typeInfo, hi', hisz]
      split at hW
      · rename_i n
        obtain ⟨l, hW, hl⟩ := bndK_ok hs hW
        obtain ⟨h, hW, hh⟩ := bndK_ok hs hW
        obtain ⟨rfl, rfl, hK⟩ := hW
        have hv : a.eval x = .slice none 0 0 := hvx
        have := hrun none 0 0 0 0 hv (by omega) (by omega) (by simp) (Nat.le_refl _) hl (by simpa using hh)
        exact finish hdf hsz hs (Step.refl g s w) hm rfl this (e := .vals false [.nil n]) ⟨_, rfl, by simp [XOk]⟩ hK hn
      · rename_i ln m es
        split at hW
        · rename_i hl0
          split at hW
          · rename_i hmd
            subst hmd
            obtain ⟨l, hW, hl⟩ := bndK_ok hs hW
            obtain ⟨h, hW, hh⟩ := bndK_ok hs hW
            obtain ⟨h0, h1, h2, hK⟩ := hW
            have hR : Rd w g.J (a.eval x) (.sl true de.size es) := Ln_J (φ := fun I => Rd w I (a.eval x) (.sl true de.size es)) rfl hvx hl0 fun I hI hr => hr.frame hI fun _ _ => rfl
            obtain ⟨ad, cap, hv⟩ := hR.form
            have hlc' : es.length ≤ cap := (hR.cap _ _ _ hv).2
            have := hrun ad es.length cap l h hv h0 h1 h2 hlc' hl hh
            refine finish hdf hsz hs (Step.refl g s w) hm rfl this (e := .vals false [.rd ln de.size ((es.take h.toNat).drop l.toNat)]) ⟨_, rfl, ?_⟩ hK hn
            exact rdX_part hvx (by omega) (by omega) fun I hR => part_model hR (by omega) (by omega) hv
          · exact hW.elim
        · exact hW.elim
      · rename_i c gn
        split at hW
        · rename_i r hreg
          split at hW
          · rename_i hrn
            obtain ⟨l, hW, hl⟩ := bndK_ok hs hW
            obtain ⟨h, hW, hh⟩ := bndK_ok hs hW
            obtain ⟨h0, h1, h2, hK⟩ := hW
            obtain ⟨e1, e2, e3⟩ := regAt_some hreg
            obtain ⟨r', e4, e5, e6⟩ := hvx
            rw [e1] at e4
            cases e4
            have hval : a.eval x = g.val c := e6 e2 e3.symm
            have hO := hm.regs c r e1 e2
            obtain ⟨ad, cap, hv⟩ := hO.form
            have hform : (∀ ad', ad = some ad' → ad'.spot = none) ∧ (ad = none → r.es.length = 0 ∧ cap = 0) ∧ r.es.length ≤ cap := by
              refine ⟨fun ad' e => hO.some_inv ad' _ _ (by rw [hv, e]), fun e => ?_, (hO.cap _ _ _ hv).2⟩
              obtain ⟨q1, q2⟩ := hO.none_inv _ _ (by rw [hv, e])
              exact ⟨by rw [q2]; rfl, q1⟩
            obtain ⟨f1, f2, f3⟩ := hform
            have := hrun ad r.es.length cap l h (hval.trans hv) h0 h1 h2 f3 hl hh
            refine finish hdf hsz hs (Step.refl g s w) hm rfl this (e := .vals false [.sub c gn l.toNat h.toNat]) ⟨_, rfl, r, e1, by omega, fun _ _ => ⟨?_, by omega, by omega⟩⟩ hK hn
            rw [hrn]
            exact sub_model hv f1 f2 (by omega) (by omega) f3
          · exact hW.elim
        · exact hW.elim
      · rename_i c gn lo' hi''
        split at hW
        · rename_i r hreg
          split at hW
          · rename_i hrn
            obtain ⟨l, hW, hl⟩ := bndK_ok hs hW
            obtain ⟨h, hW, hh⟩ := bndK_ok hs hW
            obtain ⟨h0, h1, h2, hK⟩ := hW
            obtain ⟨e1, e2, e3⟩ := regAt_some hreg
            obtain ⟨r', e4, e5, e6⟩ := hvx
            rw [e1] at e4
            cases e4
            obtain ⟨e7, e8, e9⟩ := e6 e2 e3.symm
            have key : ∃ ad cap, a.eval x = .slice ad (hi'' - lo') cap ∧ (∀ ad', ad = some ad' → ad'.spot = none) ∧ (ad = none → hi'' - lo' = 0 ∧ cap = 0) ∧ hi'' - lo' ≤ cap := by
              have e7' := e7
              rcases e7 with ⟨q1, q2⟩ | ⟨gb, og, leng, capg, os, caps, q1, q2, q3, q4, q5⟩
              · have hO := hm.regs c r e1 e2
                obtain ⟨_, q6⟩ := hO.none_inv _ _ q1
                rw [q6] at e9
                have : hi'' = 0 := by simpa using e9
                exact ⟨none, 0, by rw [q2, this]; simp, fun _ e => (by cases e), fun _ => ⟨by omega, rfl⟩, by omega⟩
              · exact ⟨_, caps, q2, fun _ e => (by cases e; rfl), fun e => (by cases e), q4⟩
            obtain ⟨ad, cap, hv, f1, f2, f3⟩ := key
            have := hrun ad (hi'' - lo') cap l h hv h0 h1 h2 f3 hl hh
            refine finish hdf hsz hs (Step.refl g s w) hm rfl this (e := .vals false [.sub c gn (lo' + l.toNat) (lo' + h.toNat)]) ⟨_, rfl, r, e1, by omega, fun _ _ => ⟨?_, by omega, by omega⟩⟩ hK hn
            refine sub_sub e7 ?_ (by omega) (by omega) e8
            rw [hrn]
            exact sub_model hv f1 f2 (by omega) (by omega) f3
          · exact hW.elim
        · exact hW.elim
      · rename_i c iv i' j'
        split at hW
        · rename_i r hreg
          obtain ⟨row0, m, es, hr0, hj, hmd, hW⟩ := hW
          obtain ⟨hl0, hrd⟩ := inn_rd hm hvx hreg hr0 hj
          subst hmd
          obtain ⟨l, hW, hl⟩ := bndK_ok hs hW
          obtain ⟨h, hW, hh⟩ := bndK_ok hs hW
          obtain ⟨h0, h1, h2, hK⟩ := hW
          have hR : Rd w g.J (a.eval x) (.sl true de.size es) := Ln_J (ln := some (c, iv)) (φ := fun I => Rd w I (a.eval x) (.sl true de.size es)) rfl hrd hl0 fun I hI hr => hr.frame hI fun _ _ => rfl
          obtain ⟨ad, cap, hv⟩ := hR.form
          have hlc' : es.length ≤ cap := (hR.cap _ _ _ hv).2
          have := hrun ad es.length cap l h hv h0 h1 h2 hlc' hl hh
          refine finish hdf hsz hs (Step.refl g s w) hm rfl this (e := .vals false [.rd (some (c, iv)) de.size ((es.take h.toNat).drop l.toNat)]) ⟨_, rfl, ?_⟩ hK hn
          exact rdX_part hrd (by omega) (by omega) fun I hR => part_model hR (by omega) (by omega) hv
        · exact hW.elim
      · exact hW.elim
    · exact hW.elim
  · exact hW.elim

end

end Go.Proofs.YtppfojiogappaaaDoor.V

set_option linter.unusedVariables false

set_option linter.unusedSimpArgs false

namespace Go.Proofs.YtppfojiogappaaaDoor.V

open Go Classical

def convW (τ : Nat → Option TD) (nt : Nat) (o : Oper) (src dst : Nat) (x : Operand) (s : S) (k : S → Prop) : Prop :=
  match s.ev x, τ src, τ dst with
  | some (.vals false [.sc (.int _ n)]), some { kind := .int _, .. }, some { kind := .int q, .. } => putK nt o s (.vals false [.sc (.int q (wrp q n))]) k
  | some (.vals false [.sc (.int _ n)]), some { kind := .int _, .. }, some { kind := .str, .. } => putK nt o s (.vals false [.sc (.string (runeStr n))]) k
  | some (.vals false [.sc (.string b)]), some { kind := .str, .. }, some { kind := .str, .. } => putK nt o s (.vals false [.sc (.string b)]) k
  | some (.vals false [.sc (.string b)]), some { kind := .str, .. }, some { kind := .slice e, .. } => (match τ e with
    | some { kind := .int .u8, size := 1, .. } => b.size ≤ 9223372036854775807 ∧ layK nt o s [] true 1 (bytesOf b) k
    | _ => False)
  | some (.vals false [y]), some { kind := .slice e, .. }, some { kind := .str, .. } => (match τ e with
    | some { kind := .int .u8, size := 1, .. } => withC s y fun _ es => ∃ xs : List Int, es = xs.map (fun v => [C.sc (.int .u8 v)]) ∧ putK nt o s (.vals false [.sc (.string (strOfNums xs))]) k
    | _ => False)
  | _, _, _ => False

@[irreducible] noncomputable def minI (x : Int) (y : Int) : Int := (hid (fun (x : Int) (y : Int) => (if y < x then y else x : Int))).1 x y

theorem minI_eq (x : Int) (y : Int) : minI x y = (if y < x then y else x) := by
  unfold minI
  rw [(hid _).2]

@[irreducible] noncomputable def maxI (x : Int) (y : Int) : Int := (hid (fun (x : Int) (y : Int) => (if x < y then y else x : Int))).1 x y

theorem maxI_eq (x : Int) (y : Int) : maxI x y = (if x < y then y else x) := by
  unfold maxI
  rw [(hid _).2]

def minW (nt : Nat) (o : Oper) (big : Bool) (x y : Operand) (s : S) (k : S → Prop) : Prop :=
  match s.ev x, s.ev y with
  | some (.vals false [.sc (.int q n)]), some (.vals false [.sc (.int _ m)]) => putK nt o s (.vals false [.sc (.int q (if big then maxI n m else minI n m))]) k
  | _, _ => False

section

variable {P : Program} {w0 : World} {A : AA} {B : List (Nat × Nat × Nat)} {nt : Nat} {τ : Nat → Option TD}

theorem conv_sound (hτ : ∀ t d, τ t = some d → TyOk P t d) (o : Oper) (src dst : Nat) (x : Operand) (ho : o.op = .convert src dst x) : Sound P w0 A B nt o (convW τ nt o src dst x) := by
  intro s a w k next Q hr hW hn
  obtain ⟨hdf, hsz, g, hm, hs⟩ := hr
  unfold convW at hW
  split at hW
  · rename_i q0 n _ _ _ _ q _ _ _ hx h1 h2
    have hv : a.eval x = .int q0 n := by obtain ⟨y, e1, e2⟩ := ev_ok hs hx; cases e1; exact e2
    have hu1 : P.underlying src = some (.int _) := (hτ _ _ h1).kind
    have hu2 : P.underlying dst = some (.int q) := (hτ _ _ h2).kind
    refine finish hdf hsz hs (Step.refl g s w) hm rfl ?_ (sc_ok _ _ _ _ _) hW hn
    simp [execOp, ho, hv, convert, run_underlying hu1, run_underlying hu2, Conv.intToInt, wrp_eq]
  · rename_i q0 n _ _ _ _ _ _ _ hx h1 h2
    have hv : a.eval x = .int q0 n := by obtain ⟨y, e1, e2⟩ := ev_ok hs hx; cases e1; exact e2
    have hu1 : P.underlying src = some (.int _) := (hτ _ _ h1).kind
    have hu2 : P.underlying dst = some .string := (hτ _ _ h2).kind
    refine finish hdf hsz hs (Step.refl g s w) hm rfl ?_ (sc_ok _ _ _ _ _) hW hn
    simp [execOp, ho, hv, convert, run_underlying hu1, run_underlying hu2, Conv.intToString, runeStr_eq]
  · rename_i b _ _ _ _ _ _ hx h1 h2
    have hv : a.eval x = .string b := by obtain ⟨y, e1, e2⟩ := ev_ok hs hx; cases e1; exact e2
    have hu1 : P.underlying src = some .string := (hτ _ _ h1).kind
    have hu2 : P.underlying dst = some .string := (hτ _ _ h2).kind
    refine finish hdf hsz hs (Step.refl g s w) hm rfl ?_ (sc_ok _ _ _ _ _) hW hn
    simp [execOp, ho, hv, convert, run_underlying hu1, run_underlying hu2]
  · rename_i b _ _ _ e _ _ _ hx h1 h2
    have hv : a.eval x = .string b := by obtain ⟨y, e1, e2⟩ := ev_ok hs hx; cases e1; exact e2
    have hu1 : P.underlying src = some .string := (hτ _ _ h1).kind
    have hu2 : P.underlying dst = some (.slice e) := (hτ _ _ h2).kind
    split at hW
    · rename_i _ _ he
      have hue : P.underlying e = some (.int .u8) := (hτ _ _ he).kind
      obtain ⟨hb, hK⟩ := hW
      have hrun := Lib.run_convert_string_bytes (P := P) w src dst e b hu1 hu2 hue
      have hge := grownCap_ge w b.size 0 e
      have hcm : grownCap w b.size 0 e ≤ maxLen := grownCap_le_maxLen w _ 0 e (by simp only [maxLen]; omega)
      have hcs : (Lib.bytesCells w e b).size = grownCap w b.size 0 e := by simp [Lib.bytesCells]; omega
      have hold : ∀ y, y < w.heap.size → (Lib.bytesWorld w e b).heap[y]? = w.heap[y]? := fun y hy => Lib.bytesWorld_at_old w e b y hy
      refine lay (P := P) hdf hsz hs hm [] ?_ (by rw [Lib.bytesWorld_size]; omega) (fun y hy _ => hold y hy) (fun y => y = w.heap.size) (fun y hy => by subst hy; exact ⟨.inr (Nat.le_refl _), by rw [Lib.bytesWorld_size]; omega⟩) true 1 _
        (v := .slice (some ⟨w.heap.size, 0, none⟩) b.size (grownCap w b.size 0 e)) ?_ ?_ hK hn
      · have hx : (Lib.bytesWorld w e b).os = w.os ∧ (Lib.bytesWorld w e b).tape = w.tape ∧ (Lib.bytesWorld w e b).output = w.output := by
          simp [Lib.bytesWorld, World.freeze, World.alloc, World.drew, -World.alloc_eq, -World.drew_eq]
        exact hm.ext.same hx.1 hx.2.1 hx.2.2 (by rw [Lib.bytesWorld_size]; omega) fun y hy _ => hold y (Nat.lt_of_lt_of_le hy hm.ext.size)
      · refine Own.fresh (fun i _ => .int .u8 ((b.data.toList.getD i 0).toNat : Int)) (fun _ _ _ => False) _ (Lib.bytesWorld_at_new w e b) (fun k hk h => by omega) (by rw [hcs]; omega) (by omega) (by simp [bytesOf]) hge hcm
          (fun i r hr => ?_) (fun i j hi hj => ?_) (fun i j _ _ => rfl) rfl (fun _ _ _ h => h.elim) (fun _ _ _ _ _ h => h.elim) (fun i j r c hr hj => ?_)
        · have hr' := (List.getElem?_eq_some_iff.1 hr).2
          simp [bytesOf] at hr'
          rw [← hr']
          rfl
        · have hj0 : j = 0 := by omega
          subst hj0
          simp only [Lib.bytesCells, Nat.mul_one, Nat.add_zero]
          rw [Array.getElem?_append_left (by simpa using hi)]
          have hi' : i < b.data.size := hi
          simp [List.getD, hi']
          have e0 : b.data[i]? = some b.data[i] := Array.getElem?_eq_getElem hi'
          rw [e0]
          exact ⟨_, rfl, rfl⟩
        · simp only [bytesOf, List.getElem?_map] at hr
          cases hq : b.data.toList[i]? with
          | none => rw [hq] at hr; cases hr
          | some q =>
            rw [hq] at hr
            cases hr
            cases j with
            | zero =>
              cases hj
              have : (b.data.toList.getD i 0) = q := by simp only [List.getD, hq]; rfl
              rw [this]
              exact .sc _ _
            | succ j => simp at hj
      · simp only [execOp, ho, hv, Sem.run_bind, hrun, Result.andThen_ok, Sem.run_pure]
    · exact hW.elim
  · rename_i y e _ _ _ _ _ _ hx h1 h2
    obtain ⟨y', e1, hvx⟩ := ev_ok hs hx
    cases e1
    have hu1 : P.underlying src = some (.slice e) := (hτ _ _ h1).kind
    have hu2 : P.underlying dst = some .string := (hτ _ _ h2).kind
    split at hW
    · rename_i _ _ he
      have hue : P.underlying e = some (.int .u8) := (hτ _ _ he).kind
      obtain ⟨m, es, hR, xs, hes, hK⟩ := withC_rd hm hvx hW
      subst hes
      refine finish hdf hsz hs (Step.refl g s w) hm rfl (v := .string (strOfNums xs)) ?_ (sc_ok _ _ _ _ _) hK hn
      have hrun : (convert src dst (a.eval x)).run P w = .ok (.string (strOfNums xs)) w := by
        generalize a.eval x = u at hR
        cases xs with
        | nil =>
          obtain ⟨ad, cap, rfl⟩ := hR.form
          cases ad with
          | none => exact run_convert_bytes_nil w src e hu1 hue _ _ dst hu2
          | some ad =>
            have hl : (loadCells ad 0).run P w = .ok #[] w := by simp [loadCells, loadCellsFrom]
            rw [run_convert_bytes_string w src dst e (some ad) _ cap hu1 hue hu2]
            simp [Conv.bytesToString, hl, strOfNums]
            rfl
        | cons x0 rs =>
          obtain ⟨b, o', cap, rfl, _, hm1, _⟩ := hR.elem (i := 0) (r := [C.sc (.int .u8 x0)]) rfl
          have hm1' : m = 1 := by simpa using hm1.symm
          subst hm1'
          refine run_convert_bytes_arg w src e hu1 hue b o' _ cap (x0 :: rs) (by simp) (fun i hi => ?_) dst hu2
          have hi' : i < (x0 :: rs).length := by simpa using hi
          obtain ⟨b2, o2, cap2, q1, _, _, q4⟩ := hR.elem (i := i) (r := [C.sc (.int .u8 (x0 :: rs)[i])]) (by rw [List.getElem?_map, List.getElem?_eq_getElem hi']; rfl)
          cases q1
          obtain ⟨u, hu, _, hsc⟩ := q4 0 _ rfl
          rw [hsc.sc_inv] at hu
          simp only [Nat.mul_one, Nat.add_zero] at hu
          rw [hu]
          simp [List.getD, List.getElem?_eq_getElem hi']
      simp only [execOp, ho, Sem.run_bind, hrun, Result.andThen_ok, Sem.run_pure]
    · exact hW.elim
  · exact hW.elim

theorem min_sound (o : Oper) (x y : Operand) (ts : Array Nat) (ho : o.op = .call { callee := .builtin .min, args := #[x, y], argTypes := ts }) : Sound P w0 A B nt o (minW nt o false x y) := by
  intro s a w k next Q hr hW hn
  obtain ⟨hdf, hsz, g, hm, hs⟩ := hr
  unfold minW at hW
  split at hW
  · rename_i q n q' m h1 h2
    have hv1 : a.eval x = .int q n := by obtain ⟨y, e1, e2⟩ := ev_ok hs h1; cases e1; exact e2
    have hv2 : a.eval y = .int q' m := by obtain ⟨y, e1, e2⟩ := ev_ok hs h2; cases e1; exact e2
    refine finish hdf hsz hs (Step.refl g s w) hm rfl ?_ (sc_ok _ _ _ _ _) hW hn
    simp [execOp, ho, resolve, invoke, builtin, hv1, hv2, Builtin.min_, Builtin.min2, minI_eq]
  · exact hW.elim

end

end Go.Proofs.YtppfojiogappaaaDoor.V

set_option linter.unusedVariables false

set_option linter.unusedSimpArgs false

namespace Go.Proofs.YtppfojiogappaaaDoor.V

open Go Classical

def capW (τ : Nat → Option TD) (nt : Nat) (o : Oper) (t : Nat) (x : Operand) (s : S) (k : S → Prop) : Prop :=
  match τ t, s.ev x with
  | some { kind := .slice _, .. }, some (.vals false [.nil _]) => putK nt o s (.vals false [.sc (.int .i64 0)]) k
  | _, _ => False

def appendZW (τ : Nat → Option TD) (nt : Nat) (o : Oper) (t t2 : Nat) (b x : Operand) (s : S) (k : S → Prop) : Prop :=
  match τ t with
  | some { kind := .slice e, .. } => (match τ e with
    | some de => if de.size = 0 then False else if de.bytes = 0 then False else
      (match s.ev b, s.ev x, τ t2 with
      | some (.vals false [.nil _]), some (.vals false [.sc (.int _ n)]), some { kind := .int _, .. } =>
        0 < n ∧ n.toNat * de.bytes ≤ 140737488355328 ∧ layK nt o s [] true de.size (List.replicate n.toNat (de.zero.map zC)) k
      | _, _, _ => False)
    | none => False)
  | _ => False

section

variable {P : Program} {w0 : World} {A : AA} {B : List (Nat × Nat × Nat)} {nt : Nat} {τ : Nat → Option TD}

theorem max_sound (o : Oper) (x y : Operand) (ts : Array Nat) (ho : o.op = .call { callee := .builtin .max, args := #[x, y], argTypes := ts }) : Sound P w0 A B nt o (minW nt o true x y) := by
  intro s a w k next Q hr hW hn
  obtain ⟨hdf, hsz, g, hm, hs⟩ := hr
  unfold minW at hW
  split at hW
  · rename_i q n q' m h1 h2
    have hv1 : a.eval x = .int q n := by obtain ⟨y, e1, e2⟩ := ev_ok hs h1; cases e1; exact e2
    have hv2 : a.eval y = .int q' m := by obtain ⟨y, e1, e2⟩ := ev_ok hs h2; cases e1; exact e2
    refine finish hdf hsz hs (Step.refl g s w) hm rfl ?_ (sc_ok _ _ _ _ _) hW hn
    simp [execOp, ho, resolve, invoke, builtin, hv1, hv2, Builtin.max_, Builtin.max2, maxI_eq]
  · exact hW.elim

theorem cap_sound (hτ : ∀ t d, τ t = some d → TyOk P t d) (o : Oper) (t : Nat) (x : Operand) (ho : o.op = .call { callee := .builtin .cap, args := #[x], argTypes := #[t] }) : Sound P w0 A B nt o (capW τ nt o t x) := by
  intro s a w k next Q hr hW hn
  obtain ⟨hdf, hsz, g, hm, hs⟩ := hr
  unfold capW at hW
  split at hW
  · rename_i e _ _ _ _ ht hx
    have hu : P.underlying t = some (.slice e) := (hτ _ _ ht).kind
    have hv : a.eval x = .slice none 0 0 := by obtain ⟨y, e1, e2⟩ := ev_ok hs hx; cases e1; exact e2
    refine finish hdf hsz hs (Step.refl g s w) hm rfl ?_ (sc_ok _ _ _ _ _) hW hn
    simp [execOp, ho, resolve, invoke, builtin, hv, Builtin.cap_, run_underlying hu, goInt]
  · exact hW.elim

theorem wrp_i64' {x : Int} (h0 : -9223372036854775808 ≤ x) (h1 : x ≤ 9223372036854775807) : IntKind.i64.wrap x = x := by
  have e1 : (2 : Int) ^ 64 = 18446744073709551616 := by decide
  have e2 : (2 : Int) ^ (64 - 1) = 9223372036854775808 := by decide
  simp only [IntKind.wrap, IntKind.bits, IntKind.signed, e1, e2, Bool.true_and, decide_eq_true_eq]
  split <;> omega

theorem run_append_zeros {w : World} {t t2 ty e : Nat} {i : TypeInfo} {z : Value} {q r : IntKind} {n : Int}
    (ht : P.underlying t = some (.slice e)) (ht2 : P.underlying t2 = some (.int r)) (hi : P.info? e = some i) (hz : i.zero = some z) (hn : 0 < n) (hb : 0 < i.bytes) (hsz : 0 < i.size)
    (hbound : n.toNat * i.bytes ≤ 140737488355328) (hfit : Builtin.nextslicecap n.toNat 0 * i.bytes ≤ 281474976710656) :
    (Builtin.append_ #[t, t2] ty #[.slice none 0 0, .int q n]).run P w =
      .ok (.slice (some ⟨w.heap.size, 0, none⟩) n.toNat (grownCap w n.toNat 0 e))
        (w.drew.alloc (.cells (Builtin.zeroCells z.cells n.toNat ++ Builtin.zeroCells z.cells (grownCap w n.toNat 0 e - n.toNat)) e)) := by
  have h1 : n.toNat ≤ 140737488355328 := Nat.le_trans (Nat.le_mul_of_pos_right _ hb) hbound
  have hw : IntKind.i64.wrap n = n := by
    have := @wrp_i64' n (by omega) (by omega)
    exact this
  have h2 : ¬ n < 0 := by omega
  have h3 : ¬ (281474976710656 < n * (i.bytes : Int)) := by
    have e : n * (i.bytes : Int) = ((n.toNat * i.bytes : Nat) : Int) := by
      rw [Int.natCast_mul]
      congr 1
      omega
    rw [e]
    omega
  have h4 : ¬ (n.toNat = 0) := by omega
  have h5 : ¬ (n.toNat * i.size = 0) := by
    intro h
    rcases Nat.mul_eq_zero.1 h with h | h <;> omega
  have h48' : ¬ (281474976710656 < Builtin.nextslicecap n.toNat 0 * i.bytes) := by omega
  have h6 : ¬ (9223372036854775807 < (n.toNat : Int)) := by omega
  have h7 : ¬ (n ≤ 0) := by omega
  simp [Builtin.append_, run_underlying ht, run_underlying ht2, sizeOf, typeInfo, zeroValue, hi, hz, asInt, asIntOf, hw, h2, h3, h4, h5, h6, h7, h48', Question.forced, newRow, grownCap, Builtin.firstCells]
  intro hbig
  exact absurd hbig (by omega)

theorem appendZ_sound (hτ : ∀ t d, τ t = some d → TyOk P t d) (o : Oper) (t t2 : Nat) (b x : Operand) (ho : o.op = .call { callee := .builtin .append, args := #[b, x], argTypes := #[t, t2] }) : Sound P w0 A B nt o (appendZW τ nt o t t2 b x) := by
  intro s a w k next Q hr hW hn
  obtain ⟨hdf, hsz, g, hm, hs⟩ := hr
  unfold appendZW at hW
  split at hW
  · rename_i e _ _ _ ht
    have hu : P.underlying t = some (.slice e) := (hτ _ _ ht).kind
    split at hW
    · rename_i de hde
      split at hW
      · exact hW.elim
      rename_i hsz0
      split at hW
      · exact hW.elim
      rename_i hb0
      split at hW
      · rename_i q n r _ _ _ hl hc ht2
        obtain ⟨hn0, hbound, hK⟩ := hW
        have hu2 : P.underlying t2 = some (.int r) := (hτ _ _ ht2).kind
        obtain ⟨i, z, h1, h2, h3, h4, h5⟩ := zero_cells (hτ _ _ hde) w g s.regs
        obtain ⟨i', z', e1, e2, e3, _⟩ := (hτ _ _ hde).info
        rw [h1] at e1
        cases e1
        have hv1 : a.eval b = .slice none 0 0 := by obtain ⟨y, q1, q2⟩ := ev_ok hs hl; cases q1; exact q2
        have hv2 : a.eval x = .int q n := by obtain ⟨y, q1, q2⟩ := ev_ok hs hc; cases q1; exact q2
        have hpos : 0 < de.size := by omega
        have hfit := growslice_fits (need := n.toNat) (old := 0) (bytes := i.bytes) (by omega) (by rw [e3]; exact hbound)
        have hrun := run_append_zeros (P := P) (w := w) (ty := o.type) hu hu2 h1 h2 (q := q) hn0 (by omega) (by omega) (by rw [e3]; exact hbound) hfit
        have hge := grownCap_ge w n.toNat 0 e
        have hnb : n.toNat ≤ 140737488355328 := Nat.le_trans (Nat.le_mul_of_pos_right _ (by omega)) hbound
        have hcm : grownCap w n.toNat 0 e ≤ maxLen := grownCap_le_maxLen w _ 0 e (by simp only [maxLen]; omega)
        have hmod : ∀ i j, j < de.size → (i * de.size + j) % de.size = j := fun i j hj => by rw [Nat.add_comm, Nat.add_mul_mod_self_right, Nat.mod_eq_of_lt hj]
        have hmc : ∀ k, k < n.toNat * de.size → (Builtin.zeroCells z.cells n.toNat ++ Builtin.zeroCells z.cells (grownCap w n.toNat 0 e - n.toNat))[k]? = z.cells[k % de.size]? := by
          intro k hk
          have hlt : k % de.size < z.cells.size := by rw [h3]; exact Nat.mod_lt _ hpos
          rw [Array.getElem?_append_left (by rw [size_zeroCells, h3]; exact hk)]
          simp only [Builtin.zeroCells, Array.getElem?_map, Array.getElem?_range, h3, hk, if_true, Option.map_some]
          rw [getElem!_pos z.cells _ hlt, Array.getElem?_eq_getElem hlt]
        have hcl : (Builtin.zeroCells z.cells n.toNat ++ Builtin.zeroCells z.cells (grownCap w n.toNat 0 e - n.toNat)).size = grownCap w n.toNat 0 e * de.size := by
          simp only [Array.size_append, size_zeroCells, h3, ← Nat.add_mul]
          congr 1
          omega
        refine lay (P := P) hdf hsz hs hm [] ((hm.ext.same (w' := w.drew) rfl rfl rfl (Nat.le_refl _) (fun _ _ _ => rfl)).alloc _) (by simp) (fun y hy _ => heap_alloc_old w.drew _ y hy) (fun y => y = w.heap.size) (fun y hy => by subst hy; exact ⟨.inr (Nat.le_refl _), by simp⟩) true de.size _
          (v := .slice (some ⟨w.heap.size, 0, none⟩) n.toNat (grownCap w n.toNat 0 e)) (w' := w.drew.alloc (.cells (Builtin.zeroCells z.cells n.toNat ++ Builtin.zeroCells z.cells (grownCap w n.toNat 0 e - n.toNat)) e)) ?_ ?_ hK hn
        · refine Own.fresh (fun _ j => z.cells.getD j undef) (fun _ _ _ => False) _ (heap_alloc_new w.drew _) (fun k _ h => by simp at h) (by rw [hcl]; exact Nat.le_refl _) hpos (by simp) hge
            hcm (fun i r hr => ?_) (fun i j hi hj => ?_) (fun i j hi hj => ?_) rfl (fun _ _ _ h => h.elim) (fun _ _ _ _ _ h => h.elim) (fun i j r cc hr hj => ?_)
          · have hr' := (List.getElem?_eq_some_iff.1 hr).2
            simp at hr'
            rw [← hr']
            simp [(hτ _ _ hde).zlen]
          · rw [hmc _ (place_lt hi hj), hmod i j hj]
            have hlt : j < z.cells.size := by omega
            simp [hlt]
          · have hlt : j < z.cells.size := by omega
            have : z.cells.getD j undef = z.cells[j] := by simp [hlt]
            rw [this]
            exact h5 j _ (by simp)
          · have hr' := (List.getElem?_eq_some_iff.1 hr).2
            simp at hr'
            subst hr'
            rw [List.getElem?_map] at hj
            cases hz : de.zero[j]? with
            | none => rw [hz] at hj; cases hj
            | some x =>
              rw [hz] at hj
              cases hj
              obtain ⟨u, hu', hx⟩ := h4.2 j x hz
              have : z.cells.getD j undef = u := by simp [hu']
              rw [this]
              have hzx := List.all_eq_true.1 (hτ _ _ hde).zone x (List.mem_of_getElem? hz)
              cases x with
              | sc v =>
                have : u = v := hx
                subst this
                exact .sc _ _
              | nil m =>
                have : u = .slice none 0 0 := hx
                subst this
                exact .nil _ _
              | _ => cases hzx
        · have hb := hrun
          rw [← hv1, ← hv2] at hb
          simp [execOp, ho, resolve, invoke, builtin, hb]
      · exact hW.elim
    · exact hW.elim
  · exact hW.elim

end

end Go.Proofs.YtppfojiogappaaaDoor.V

set_option linter.unusedVariables false

set_option linter.unusedSimpArgs false

namespace Go.Proofs.YtppfojiogappaaaDoor.V

open Go Classical

theorem Own.opn {w : World} {I F : Nat → Prop} {v : Value} {n : Nat} {es : List (List C)} (h : Own w I F v (.sl true n es)) {i j : Nat} {row : List C} {c0 : C} (hi : es[i]? = some row) (hj : row[j]? = some c0) :
    ∃ (F1 : Nat → Prop) (u : Value) (b o cap : Nat), Own w I F1 u c0 ∧ (∀ x, F1 x → F x) ∧ v = .slice (some ⟨b, o, none⟩) es.length cap ∧ F b ∧ ¬ F1 b ∧ j < n ∧ w.cell? ⟨b, o + i * n + j, none⟩ = some u ∧
      ∀ (w' : World) (F' F2 : Nat → Prop) (c : C), (∀ x, F x → ¬ F1 x → w'.heap[x]? = w.heap[x]?) → (∀ x, I x → w'.heap[x]? = w.heap[x]?) → Own w' I F2 u c → (∀ x, F2 x → F x → F1 x) → (∀ x, F x → ¬ F1 x → F' x) → (∀ x, F2 x → F' x) →
        Own w' I F' v (.sl true n (es.set i (row.set j c))) := by
  cases h with
  | row _ g o len cap _ _ cs e u f hF hff hd fr hfr hg hsz hn hlen hc hm hl hcell h1 hr =>
    have hil : i < len := by rw [← hlen]; exact (List.getElem?_eq_some_iff.1 hi).1
    have hjn : j < n := by rw [← hl i row hi]; exact (List.getElem?_eq_some_iff.1 hj).1
    refine ⟨f i j, u i j, g, o, cap, hr i j row _ hi hj, fun x hx => (hff i j x hx).1, by rw [hlen], hF, fun hx => (hff i j g hx).2 rfl, hjn, (cell_of hg).trans (hcell i j hil hjn), fun w' F' F2 c hk hkI hO hF2 hF1 hF2' => ?_⟩
    have hgn : ¬ f i j g := fun hx => (hff i j g hx).2 rfl
    have hg2 : ¬ F2 g := fun hx => hgn (hF2 g hx hF)
    refine .row F' g o len cap n _ cs e u (fun i' j' => if i' = i ∧ j' = j then F2 else f i' j') (hF1 g hF hgn) (fun i' j' x hx => ?_) (fun a b a' b' x hx hx' => ?_) fr hfr ((hk g hF hgn).trans hg) hsz hn (by simp [hlen]) hc hm (fun i' r hr' => ?_) hcell h1 (fun i' j' r c' hr' hc' => ?_)
    · split at hx
      · exact ⟨hF2' x hx, fun e => hg2 (by rw [← e]; exact hx)⟩
      · rename_i hne
        refine ⟨hF1 x (hff i' j' x hx).1 fun h' => hne (hd _ _ _ _ x hx h'), (hff i' j' x hx).2⟩
    · split at hx
      · rename_i q1
        split at hx'
        · rename_i q2
          exact ⟨q1.1.trans q2.1.symm, q1.2.trans q2.2.symm⟩
        · rename_i q2
          exact absurd (hd _ _ _ _ x hx' (hF2 x hx (hff a' b' x hx').1)) q2
      · rename_i q1
        split at hx'
        · exact absurd (hd _ _ _ _ x hx (hF2 x hx' (hff a b x hx).1)) q1
        · exact hd _ _ _ _ x hx hx'
    · rw [List.getElem?_set] at hr'
      split at hr'
      · rename_i e1
        split at hr'
        · cases hr'
          simp [hl i row hi]
        · cases hr'
      · exact hl i' r hr'
    · rw [List.getElem?_set] at hr'
      split at hr'
      · rename_i e1
        subst e1
        split at hr'
        · cases hr'
          rw [List.getElem?_set] at hc'
          split at hc'
          · rename_i e2
            subst e2
            split at hc'
            · cases hc'
              rw [if_pos ⟨rfl, rfl⟩]
              exact hO
            · cases hc'
          · rename_i e2
            have hne : ¬ (i = i ∧ j' = j) := fun q => e2 q.2.symm
            rw [if_neg hne]
            exact (hr i j' row c' hi hc').frame (fun _ h => h) (fun _ h => h) hkI (fun x hx => hk x (hff i j' x hx).1 fun h' => hne (hd _ _ _ _ x hx h'))
        · cases hr'
      · rename_i e1
        have hne : ¬ (i' = i ∧ j' = j) := fun q => e1 q.1.symm
        rw [if_neg hne]
        exact (hr i' j' r c' hr' hc').frame (fun _ h => h) (fun _ h => h) hkI (fun x hx => hk x (hff i' j' x hx).1 fun h' => hne (hd _ _ _ _ x hx h'))
  | nil => simp at hi

noncomputable def G.split (g : G) (d : Nat) (F1 : Nat → Prop) (v : Value) : G :=
  { g with ow := fun x => if F1 x then .reg d else g.ow x, val := fun k => if k = d then v else g.val k }

theorem Mem.split {w0 : World} {A : AA} {B : List (Nat × Nat × Nat)} {g : G} {S : V.S} {w : World} (hm : Mem w0 A B g S w) (h : Nat) (r : Reg) (hr : get S.regs h = some r) (hl : r.live = true) (es' : List (List C)) (hlen : es'.length = r.es.length) (F1 : Nat → Prop) (hF1 : ∀ x, F1 x → g.F h x)
    (hO1 : Own w (if r.pure then fun _ => False else g.I) (fun x => g.F h x ∧ ¬ F1 x) (g.val h) (.sl true r.n es')) (d : Nat) (R : Reg) (hne : h ≠ d) (v : Value) (hO2 : Own w (if R.pure then fun _ => False else g.I) F1 v (.sl true R.n R.es))
    (hnew : ∀ r, get S.regs d = some r → r.live = false ∧ r.gen < R.gen ∧ r.iv < R.iv) (hpr : A.pr d → R.gen ≠ 0) :
    Step g S w (g.split d F1 v) { S with regs := put (put S.regs h { r with iv := r.iv + 1, es := es' }) d R } w ∧ Mem w0 A B (g.split d F1 v) { S with regs := put (put S.regs h { r with iv := r.iv + 1, es := es' }) d R } w := by
  have how : ∀ x, ¬ F1 x → (g.split d F1 v).ow x = g.ow x := fun x hx => by simp [G.split, hx]
  have hin : ∀ x, F1 x → (g.split d F1 v).ow x = .reg d := fun x hx => by simp [G.split, hx]
  have hval : ∀ k, k ≠ d → (g.split d F1 v).val k = g.val k := fun k hk => by simp [G.split, hk]
  have hnd : ∀ x k, g.ow x = .reg k → k ≠ h → ¬ F1 x := fun x k hx hk hf => by
    have : g.ow x = .reg h := hF1 x hf
    rw [this] at hx
    cases hx
    exact hk rfl
  have himm : ∀ x, g.ow x = .imm → ¬ F1 x := fun x hx hf => by
    have : g.ow x = .reg h := hF1 x hf
    rw [this] at hx
    cases hx
  have hI : ∀ x, (g.split d F1 v).I x ↔ g.I x := fun x => by
    constructor
    · intro hx
      by_cases hf : F1 x
      · have hx' : (g.split d F1 v).ow x = .imm := hx
        rw [hin x hf] at hx'
        cases hx'
      · have hx' : (g.split d F1 v).ow x = .imm := hx
        rw [how x hf] at hx'
        exact hx'
    · intro hx
      show (g.split d F1 v).ow x = .imm
      rw [how x (himm x hx)]
      exact hx
  have hst : Step g S w (g.split d F1 v) { S with regs := put (put S.regs h { r with iv := r.iv + 1, es := es' }) d R } w := by
    refine ⟨fun x hx => ⟨(hI x).2 hx, rfl⟩, fun k rk hk => ?_, fun b x hb => ⟨x, hb, Nat.le_refl _, fun _ => rfl⟩⟩
    by_cases hkd : d = k
    · subst hkd
      obtain ⟨q0, q1, q2⟩ := hnew rk hk
      exact ⟨R, get_put_same _ _ _, by omega, by omega, fun _ e => by omega, fun _ e => by omega⟩
    · by_cases hkh : h = k
      · subst hkh
        rw [hr] at hk
        cases hk
        exact ⟨{ r with iv := r.iv + 1, es := es' }, by simp [get_put_ne _ _ hkd, get_put_same], Nat.le_refl _, by simp, fun _ _ => ⟨hl, hval _ (Ne.symm hkd), rfl, hlen⟩, fun _ e => by simp at e⟩
      · refine ⟨rk, by simp [get_put_ne _ _ hkd, get_put_ne _ _ hkh, hk], Nat.le_refl _, Nat.le_refl _, fun hl _ => ⟨hl, hval _ (Ne.symm hkd), rfl, rfl⟩, fun hl _ => ⟨hl, rfl, fun x hx => ⟨?_, rfl⟩⟩⟩
        rw [how x (hnd x k hx (Ne.symm hkh))]
        exact hx
  refine ⟨hst, hm.ext, fun x hx => ?_, fun x k hx => ?_, fun k rk hk hlk => ?_, fun b x hb => ?_, fun x hx => hm.im x ((hI x).1 hx), hm.pl.1, pr_step hst hm.pl.2 fun k rk hk hrk hg => ?_⟩
  · by_cases hf : F1 x
    · have : g.ow x = .reg h := hF1 x hf
      exact hm.lt x (by rw [this]; simp)
    · exact hm.lt x (by rwa [how x hf] at hx)
  · by_cases hf : F1 x
    · exact hm.fr x h (hF1 x hf)
    · exact hm.fr x k (by rwa [how x hf] at hx)
  · have hImp : ∀ (p : Bool) (x : Nat), (if p then fun _ => False else g.I) x → (if p then fun _ => False else (g.split d F1 v).I) x := fun p x hx => by
      cases p with
      | true => exact hx
      | false => exact (hI x).2 hx
    simp only [get_put] at hk
    split at hk
    · rename_i hkd
      subst hkd
      cases hk
      have : (g.split d F1 v).val d = v := by simp [G.split]
      rw [this]
      exact hO2.frame (hImp _) (fun x hx => hin x hx) (fun _ _ => rfl) (fun _ _ => rfl)
    · rename_i hkd
      rw [hval k (Ne.symm hkd)]
      split at hk
      · rename_i hkh
        subst hkh
        cases hk
        exact hO1.frame (hImp _) (fun x hx => by show (g.split d F1 v).ow x = .reg h; rw [how x hx.2]; exact hx.1) (fun _ _ => rfl) (fun _ _ => rfl)
      · rename_i hkh
        exact (hm.regs k rk hk hlk).frame (hImp _) (fun x hx => by show (g.split d F1 v).ow x = .reg k; rw [how x (hnd x k hx (Ne.symm hkh))]; exact hx) (fun _ _ => rfl) (fun _ _ => rfl)
  · have ho := hm.boxes b x hb
    refine BoxOk.step hst ho rfl ?_ rfl
    rw [how _ fun hf => by have : g.ow (g.loc b).1 = .reg h := hF1 _ hf; rw [ho.1] at this; cases this]
    exact ho.1
  · simp only [get_put] at hrk
    split at hrk
    · rename_i hkd
      subst hkd
      cases hrk
      exact absurd hg (hpr hk)
    · split at hrk
      · rename_i hkh
        subst hkh
        exact ⟨r, hr⟩
      · exact ⟨rk, hrk⟩

def extrW (s : S) (b : Operand) (k : S → Prop) : Prop :=
  match b with
  | .tmp t => (match get s.slots t with
    | some (.vals false [.inn h iv i j]) => (match regIv s h iv with
      | some r => (match get s.regs 6000000 with
        | some ⟨true, _, _, _, _, _⟩ => False
        | _ => if h = 6000000 then False else ∃ row m es2, r.es[i]? = some row ∧ row[j]? = some (.sl true m es2) ∧
          k ⟨put s.slots t (.vals false [.ref 6000000 (newReg s.regs 6000000 r.pure m es2).gen]), s.boxes, put (put s.regs h { r with iv := r.iv + 1, es := r.es.set i (row.set j .any) }) 6000000 (newReg s.regs 6000000 r.pure m es2)⟩)
      | none => False)
    | _ => k s)
  | _ => k s

section

variable {P : Program} {w0 : World} {A : AA} {B : List (Nat × Nat × Nat)} {nt : Nat} {τ : Nat → Option TD}

theorem extr_ok {s : S} {b : Operand} {k : S → Prop} {a : Act} {w : World} {g : G} (hdf : a.defers = []) (hsz : a.tmps.size = nt) (hm : Mem w0 A B g s w) (hs : SlotsOk g s nt a w) (h : extrW s b k) :
    (k s ∧ ∀ (t h iv i j : Nat), b = .tmp t → get s.slots t = some (.vals false [X.inn h iv i j]) → False) ∨ ∃ t h iv i j r row m es2 g' s1, b = .tmp t ∧ get s.slots t = some (.vals false [.inn h iv i j]) ∧ regIv s h iv = some r ∧ h ≠ 6000000 ∧ r.es[i]? = some row ∧ row[j]? = some (.sl true m es2) ∧
      s1 = ⟨put s.slots t (.vals false [.ref 6000000 (newReg s.regs 6000000 r.pure m es2).gen]), s.boxes, put (put s.regs h { r with iv := r.iv + 1, es := r.es.set i (row.set j .any) }) 6000000 (newReg s.regs 6000000 r.pure m es2)⟩ ∧
      k s1 ∧ Mem w0 A B g' s1 w ∧ SlotsOk g' s1 nt a w ∧ XOk w g' s1.regs (a.tmps.getD t undef) (.inn h (r.iv + 1) i j) := by
  unfold extrW at h
  split at h
  case h_2 hno => exact .inl ⟨h, fun t _ _ _ _ e _ => hno t e⟩
  rename_i t0
  split at h
  case h_2 hno => exact .inl ⟨h, fun t h' iv i j e e2 => by cases e; exact hno h' iv i j e2⟩
  rename_i h' iv i j he
  split at h
  case h_2 => exact h.elim
  rename_i r hr
  have main : (∀ r, get s.regs 6000000 = some r → r.live = false) → (if h' = 6000000 then False else ∃ row m es2, r.es[i]? = some row ∧ row[j]? = some (.sl true m es2) ∧
          k ⟨put s.slots t0 (.vals false [.ref 6000000 (newReg s.regs 6000000 r.pure m es2).gen]), s.boxes, put (put s.regs h' { r with iv := r.iv + 1, es := r.es.set i (row.set j .any) }) 6000000 (newReg s.regs 6000000 r.pure m es2)⟩) → (k s ∧ ∀ (t h iv i j : Nat), Operand.tmp t0 = .tmp t → get s.slots t = some (.vals false [X.inn h iv i j]) → False) ∨ ∃ t h iv i j r row m es2 g' s1, Operand.tmp t0 = .tmp t ∧ get s.slots t = some (.vals false [.inn h iv i j]) ∧ regIv s h iv = some r ∧ h ≠ 6000000 ∧ r.es[i]? = some row ∧ row[j]? = some (.sl true m es2) ∧
      s1 = ⟨put s.slots t (.vals false [.ref 6000000 (newReg s.regs 6000000 r.pure m es2).gen]), s.boxes, put (put s.regs h { r with iv := r.iv + 1, es := r.es.set i (row.set j .any) }) 6000000 (newReg s.regs 6000000 r.pure m es2)⟩ ∧
      k s1 ∧ Mem w0 A B g' s1 w ∧ SlotsOk g' s1 nt a w ∧ XOk w g' s1.regs (a.tmps.getD t undef) (.inn h (r.iv + 1) i j) := by
    intro hdead h
    split at h
    · exact h.elim
    rename_i hne
    obtain ⟨row, m, es2, h1, h2, h3⟩ := h
    obtain ⟨q1, q2, q3⟩ := regIv_some hr
    obtain ⟨F1, u, b, o, cap, o1, o2, o3, o4, o5, o5', o6, o7⟩ := (hm.regs h' r q1 q2).opn h1 h2
    obtain ⟨e1, e2, e3, e4, e5, e6⟩ := newReg_es s.regs 6000000 r.pure m es2
    have hwhole := o7 w (fun x => g.F h' x ∧ ¬ F1 x) (fun _ => False) .any (fun _ _ _ => rfl) (fun _ _ => rfl) (.any _ _) (fun _ h => h.elim) (fun x hx hx' => ⟨hx, hx'⟩) (fun _ h => h.elim)
    obtain ⟨hst, hm'⟩ := hm.split h' r q1 q2 (r.es.set i (row.set j .any)) (by simp) F1 o2 hwhole 6000000 (newReg s.regs 6000000 r.pure m es2) hne u (by rw [e2, e3, e4]; exact o1)
      (fun r' hr' => ⟨hdead r' hr', e5 r' hr'⟩) (fun hp => e6 (hm.pl.2 _ hp).1)
    obtain ⟨x', ex, hxo⟩ := (hs t0 _ he).2
    cases ex
    obtain ⟨r', q4, q5, q6⟩ := hxo
    rw [q1] at q4
    cases q4
    obtain ⟨b', o', len', cap', p1, p2, p3, p4, p5⟩ := q6 q2 q3.symm
    rw [o3] at p1
    cases p1
    rw [o6] at p5
    have hu : a.tmps.getD t0 undef = u := (Option.some.inj p5).symm
    have hgv : (g.split 6000000 F1 u).val h' = g.val h' := by simp [G.split, hne]
    refine   .inr ⟨t0, h', iv, i, j, r, row, m, es2, _, _, rfl, he, hr, hne, h1, h2, rfl, h3, ⟨hm'.ext, hm'.lt, hm'.fr, hm'.regs, hm'.boxes, hm'.im, hm'.pl⟩, fun d e hd => ?_, ?_⟩
    · simp only [get_put] at hd
      split at hd
      · rename_i hdt
        subst hdt
        cases hd
        refine ⟨(hs t0 _ he).1, _, rfl, _, get_put_same _ _ _, Nat.le_refl _, fun _ _ => ?_⟩
        rw [hu]
        simp [G.split]
      · exact ⟨(hs d e hd).1, (hs d e hd).2.step hst⟩
    · refine ⟨{ r with iv := r.iv + 1, es := r.es.set i (row.set j .any) }, by rw [get_put_ne _ _ (Ne.symm hne), get_put_same], Nat.le_refl _, fun _ _ => ⟨b, o, _, cap, by rw [hgv]; exact o3, ?_, ?_, o5', ?_⟩⟩
      · show (g.split 6000000 F1 u).ow b = .reg h'
        have : (g.split 6000000 F1 u).ow b = g.ow b := by simp [G.split, o5]
        rw [this]
        exact o4
      · simpa using (List.getElem?_eq_some_iff.1 h1).1
      · rw [hu]
        exact o6
  split at h
  · exact h.elim
  · rename_i hno
    refine main (fun r' hr' => ?_) h
    cases hl : r'.live with
    | false => rfl
    | true =>
      obtain ⟨l, gn, iv', p, n, es⟩ := r'
      cases hl
      exact absurd hr' (hno gn iv' p n es)

end

end Go.Proofs.YtppfojiogappaaaDoor.V

set_option linter.unusedVariables false

set_option linter.unusedSimpArgs false

namespace Go.Proofs.YtppfojiogappaaaDoor.V

open Go Classical

noncomputable def eqV (u v : Value) : Bool :=
  match u, v with
  | .int _ a, .int _ b => eqI a b
  | .string a, .string b => eqStr a b
  | .bool a, .bool b => eqB a b
  | _, _ => false

noncomputable def eqVs : List Value → List Value → Bool
  | [], [] => true
  | [u], [v] => eqV u v
  | u :: r, v :: r' => eqV u v && eqVs r r'
  | _, _ => false

def scs : List X → Option (List Value)
  | [] => some []
  | .sc v :: r => (match scs r with
    | some vs => some (v :: vs)
    | none => none)
  | _ :: _ => none

structure EqTy (P : Program) (t : Nat) (ks : List K0) : Prop where
  guard : P.eqGuardType P.depth t = false
  run : ∀ (w : World) (us vs : List Value), kVs us = some ks → kVs vs = some ks → (Op.equalIn 10000 t (.agg us.toArray) (.agg vs.toArray)).run P w = .ok (eqVs us vs) w

noncomputable def cmpW (P : Program) (τ : Nat → Option TD) (nt : Nat) (o : Oper) (op : BinOp) (t : Nat) (x y : Operand) (s : S) (k : S → Prop) : Prop :=
  match s.ev x with
  | some (.vals true xs) => (match s.ev y with
    | some (.vals true ys) => (match scs xs, scs ys with
      | some us, some vs => (match kVs us, kVs vs with
        | some ks, some ks' => if ks' = ks then EqTy P t ks ∧ (match op with
          | .eql => putK nt o s (.vals false [.sc (.bool (eqVs us vs))]) k
          | .neq => putK nt o s (.vals false [.sc (.bool (notB (eqVs us vs)))]) k
          | _ => False) else False
        | _, _ => False)
      | _, _ => False)
    | _ => False)
  | some (.vals false [.sc _]) => binW τ nt o op t x y s k
  | some (.vals false [x0]) => (match τ t with
    | some { kind := .slice _, .. } => (match y with
      | .const (.slice none 0 0) => withC s x0 fun _ es => ∀ b : Bool, (b = true → es = []) → (match op with
        | .eql => putK nt o s (.vals false [.sc (.bool b)]) k
        | .neq => putK nt o s (.vals false [.sc (.bool (notB b))]) k
        | _ => False)
      | _ => False)
    | _ => False)
  | _ => False

section

variable {P : Program} {w0 : World} {A : AA} {B : List (Nat × Nat × Nat)} {nt : Nat} {τ : Nat → Option TD}

theorem scs_ok {w : World} {g : G} {rs : List (Nat × Reg)} : ∀ {xs : List X} {us : List Value} {vs : Array Value}, scs xs = some us → CellsOk w g rs vs xs → vs.toList = us := by
  intro xs us vs h hc
  obtain ⟨h1, h2⟩ := hc
  have key : ∀ (xs : List X) (us : List Value) (l : List Value), scs xs = some us → l.length = xs.length → (∀ (j : Nat) (x : X), xs[j]? = some x → ∃ u, l[j]? = some u ∧ XOk w g rs u x) → l = us := by
    intro xs
    induction xs with
    | nil =>
      intro us l e hl _
      cases e
      exact List.length_eq_zero_iff.1 hl
    | cons x r ih =>
      intro us l e hl hx
      cases x with
      | sc v =>
        simp only [scs] at e
        split at e
        · rename_i vs hvs
          cases e
          cases l with
          | nil => simp at hl
          | cons u l' =>
            obtain ⟨u', hu, ho⟩ := hx 0 _ rfl
            cases hu
            have ho : u = v := ho
            rw [ho, ih vs l' hvs (by simpa using hl) fun j x hj => hx (j + 1) x hj]
        · cases e
      | _ => simp [scs] at e
  exact key xs us vs.toList h (by simpa using h1) (fun j x hj => by simpa using h2 j x hj)

theorem Rd.noneNil {w : World} {I : Nat → Prop} {v : Value} {own : Bool} {n : Nat} {es : List (List C)} (h : Rd w I v (.sl own n es)) : ∀ l c, v = .slice none l c → es = [] := by
  cases h with
  | nil => exact fun _ _ _ => rfl
  | row => exact fun l c e => by cases e

theorem run_eq_nil (w : World) (d t el : Nat) (ad : Option Addr) (l c : Nat) (hty : P.underlying t = some (.slice el)) : (Op.equalIn (d + 1) t (.slice ad l c) (.slice none 0 0)).run P w = .ok ad.isNone w := by
  cases ad with
  | none => simp [Op.equalIn, run_underlying hty]
  | some ad => simp [Op.equalIn, run_underlying hty]

theorem cmp_sound (hτ : ∀ t d, τ t = some d → TyOk P t d) (o : Oper) (op : BinOp) (t : Nat) (x y : Operand) (yt : Nat) (ho : o.op = .binOp op t x y yt) : Sound P w0 A B nt o (cmpW P τ nt o op t x y) := by
  intro s a w k next Q hr hW hn
  have hr0 := hr
  obtain ⟨hdf, hsz, g, hm, hs⟩ := hr
  have e : (execOp a.eval o).run P w = ((eqGuard op t x y (a.eval x) (a.eval y)).run P w).andThen fun _ w => ((binOp op t (a.eval x) (a.eval y)).run P w).andThen fun v w => .ok (.value v) w := by
    unfold execOp
    rw [ho]
    simp [Sem.run_bind]
  unfold cmpW at hW
  split at hW
  · rename_i xs hx
    split at hW
    · rename_i ys hy
      split at hW
      · rename_i us vs hus hvs
        split at hW
        · rename_i ks ks' hk1 hk2
          split at hW
          · rename_i hke
            subst hke
            obtain ⟨hE, hW⟩ := hW
            obtain ⟨ux, ex, hcx⟩ := ev_ok hs hx
            obtain ⟨uy, ey, hcy⟩ := ev_ok hs hy
            have e1 : ux = us.toArray := by rw [← scs_ok hus hcx]
            have e2 : uy = vs.toArray := by rw [← scs_ok hvs hcy]
            have hrun := hE.run w us vs hk1 hk2
            rw [ex, ey, run_eqGuard_agg w op t x y ux uy hE.guard, e1, e2] at e
            split at hW
            · refine finish hdf hsz hs (Step.refl g s w) hm rfl ?_ (sc_ok _ _ _ _ _) hW hn
              rw [e]
              simp only [Result.andThen_ok, run_eql_struct, hrun]
            · refine finish hdf hsz hs (Step.refl g s w) hm rfl ?_ (sc_ok _ _ _ _ _) hW hn
              rw [e]
              simp only [Result.andThen_ok, run_neq_struct, hrun, notB_eq]
            · exact hW.elim
          · exact hW.elim
        · exact hW.elim
      · exact hW.elim
    · exact hW.elim
  · exact bin_sound hτ o op t x y yt ho s a w k next Q hr0 hW hn
  · rename_i x0 hno hx
    split at hW
    · rename_i el _ _ _ ht
      have hty : P.underlying t = some (.slice el) := (hτ _ _ ht).kind
      split at hW
      · obtain ⟨x1, e1, hx1⟩ := ev_ok hs hx
        cases e1
        obtain ⟨n, es, hrd, hW⟩ := withC_rd hm hx1 hW
        obtain ⟨ad, cap, hv⟩ := hrd.form
        have hy : a.eval (.const (.slice none 0 0)) = .slice none 0 0 := rfl
        have hb : ad.isNone = true → es = [] := fun hb => by
          cases ad with
          | none => exact hrd.noneNil _ _ hv
          | some ad => cases hb
        have hW := hW ad.isNone hb
        rw [hy, hv] at e
        have heq : (Op.equalIn 10000 t (.slice ad es.length cap) (.slice none 0 0)).run P w = .ok ad.isNone w := run_eq_nil w 9999 t el ad _ _ hty
        split at hW
        · refine finish hdf hsz hs (Step.refl g s w) hm rfl ?_ (sc_ok _ _ _ _ _) hW hn
          rw [e]
          simp [eqGuard, binOp, Op.equal, Op.maxDepth, heq]
        · refine finish hdf hsz hs (Step.refl g s w) hm rfl ?_ (sc_ok _ _ _ _ _) hW hn
          rw [e]
          simp [eqGuard, binOp, Op.equal, Op.maxDepth, heq, notB_eq]
        · exact hW.elim
      · exact hW.elim
    · exact hW.elim
  · exact hW.elim

end

end Go.Proofs.YtppfojiogappaaaDoor.V

set_option linter.unusedVariables false

set_option linter.unusedSimpArgs false

namespace Go.Proofs.YtppfojiogappaaaDoor.V

open Go Classical

def mapB (l : List (Nat × Box)) (f : Nat → Box → Box) : List (Nat × Box) := l.map fun p => (p.1, f p.1 p.2)

theorem get_mapB (l : List (Nat × Box)) (f : Nat → Box → Box) (b : Nat) : get (mapB l f) b = (get l b).map (f b) := by
  induction l with
  | nil => rfl
  | cons p r ih =>
    obtain ⟨k, v⟩ := p
    have e : mapB ((k, v) :: r) f = (k, f k v) :: mapB r f := rfl
    rw [e]
    simp only [get]
    by_cases h : k = b
    · subst h; simp
    · simp [h, ih]

section

variable {w0 : World} {A : AA} {B : List (Nat × Nat × Nat)}

theorem Mem.turn {g : G} {S : V.S} {w w' : World} (hm : Mem w0 A B g S w) (ks : List Nat) (bs : Nat → Prop) (f : Nat → Box → Box) (hf : ∀ b x, (f b x).gen = x.gen) (hfn : ∀ b x, ¬ bs b → f b x = x)
    (hx : Ext w0 A B w') (hsz : w.heap.size ≤ w'.heap.size)
    (hk : ∀ x, x < w.heap.size → (∀ k, memb ks k = true → g.ow x ≠ .reg k) → (∀ b, bs b → x ≠ (g.loc b).1) → w'.heap[x]? = w.heap[x]?)
    (hb : ∀ b x, get S.boxes b = some x → bs b → BoxOk w0 B (g.release ks) (kill S.regs ks) w' b (f b x).cells) (hbs : ∀ b, bs b → ∃ x, get S.boxes b = some x) :
    Step g S w (g.release ks) { S with regs := kill S.regs ks, boxes := mapB S.boxes f } w' ∧ Mem w0 A B (g.release ks) { S with regs := kill S.regs ks, boxes := mapB S.boxes f } w' := by
  have hbt : ∀ b, bs b → g.ow (g.loc b).1 = .box b := fun b h => let ⟨x, hx⟩ := hbs b h; (hm.boxes b x hx).1
  obtain ⟨hst, h2⟩ := hm.change ks bs hx hsz (fun x h1 h2 h3 => hk x h1 h2 (fun b hb e => by
    have := h3 b hb
    rw [e] at this
    exact this (hbt b hb)))
  refine ⟨⟨hst.im, hst.rg, fun b x hx => ⟨f b x, by simp [get_mapB, hx], by rw [hf]; exact Nat.le_refl _, fun _ => rfl⟩⟩, ?_⟩
  refine ⟨hx, fun x hx' => ?_, fun x h hx' => hm.fr x h ((release_reg g ks x h).1 hx').1, ?_, fun b x hx => ?_, fun x hx => hm.im x ((release_imm g ks x).1 hx), ⟨fun c hc => by
    obtain ⟨hbig, x, hx, hg⟩ := hm.pl.1 c hc
    exact ⟨hbig, f c x, by simp [get_mapB, hx], fun e => hg (by rw [hf] at e; exact e)⟩, pr_step (S' := { S with regs := kill S.regs ks, boxes := mapB S.boxes f }) (w' := w') ⟨hst.im, hst.rg, fun b x hx => ⟨f b x, by simp [get_mapB, hx], by rw [hf]; exact Nat.le_refl _, fun _ => rfl⟩⟩ hm.pl.2 fun d r' _ hr' _ => by
    simp only [get_kill] at hr'
    cases h0 : get S.regs d with
    | none => rw [h0] at hr'; cases hr'
    | some r => exact ⟨r, rfl⟩⟩⟩
  · refine Nat.lt_of_lt_of_le (hm.lt x fun e => hx' ?_) hsz
    exact (release_none g ks x).2 (.inl e)
  · intro h r hr hl
    simp only [get_kill] at hr
    cases hr0 : get S.regs h with
    | none => rw [hr0] at hr; cases hr
    | some r0 =>
      rw [hr0] at hr
      simp only [Option.map_some, Option.some.injEq] at hr
      by_cases hmb : memb ks h = true
      · rw [if_pos hmb] at hr
        subst hr
        cases hl
      · rw [if_neg hmb] at hr
        subst hr
        have ho := hm.regs h _ hr0 hl
        refine ho.frame ?_ (fun x hx => (release_reg g ks x h).2 ⟨hx, by simpa using hmb⟩) ?_ ?_
        · intro x
          rw [release_I]
          exact id
        · intro x hx
          split at hx
          · exact hx.elim
          · exact (hst.im x hx).2
        · intro x hx
          have hx' : g.ow x = .reg h := hx
          refine hk x (hm.lt x (by rw [hx']; simp)) (fun k hkm e => ?_) (fun b hb e => ?_)
          · rw [hx'] at e
            cases e
            exact hmb hkm
          · have := hbt b hb
            rw [← e, hx'] at this
            cases this
  · simp only [get_mapB] at hx
    cases hx0 : get S.boxes b with
    | none => rw [hx0] at hx; cases hx
    | some x0 =>
      rw [hx0] at hx
      simp only [Option.map_some, Option.some.injEq] at hx
      subst hx
      by_cases hb' : bs b
      · exact hb b x0 hx0 hb'
      · rw [hfn b x0 hb']
        have ho := hm.boxes b x0 hx0
        refine BoxOk.step hst ho rfl ((release_box g ks _ b).2 ho.1) (hk _ (hm.lt _ (by rw [ho.1]; simp)) (fun k _ => by rw [ho.1]; simp) (fun c hc e => ?_))
        have := hbt c hc
        rw [← e, ho.1] at this
        cases this
        exact hb' hc

noncomputable def G.share (g : G) (I : Nat → Prop) : G := { g with ow := fun x => if g.ow x = .none ∧ I x then .imm else g.ow x }

theorem share_imm {g : G} {I : Nat → Prop} {x : Nat} : (g.share I).ow x = .imm ↔ g.ow x = .imm ∨ (g.ow x = .none ∧ I x) := by
  unfold G.share
  by_cases h : g.ow x = .none ∧ I x
  · simp [h]
  · simp [h]

theorem share_ne {g : G} {I : Nat → Prop} {x : Nat} (h : g.ow x ≠ .none) : (g.share I).ow x = g.ow x := by simp [G.share, h]

theorem share_none {g : G} {I : Nat → Prop} {x : Nat} (h : g.ow x = .none) (hi : ¬ I x) : (g.share I).ow x = .none := by simp [G.share, h, hi]

theorem share_not {g : G} {I : Nat → Prop} {x : Nat} {t : Tag} (ht : t ≠ .imm) (h : (g.share I).ow x = t) : g.ow x = t := by
  unfold G.share at h
  simp only at h
  split at h
  · exact absurd h.symm ht
  · exact h

theorem Mem.share {g : G} {S : V.S} {w : World} (hm : Mem w0 A B g S w) (I : Nat → Prop) (hI : ∀ x, I x → x < w.heap.size ∧ (g.ow x = .none → A.i x ∨ A x ∨ w0.heap.size ≤ x)) : Step g S w (g.share I) S w ∧ Mem w0 A B (g.share I) S w := by
  have hst : Step g S w (g.share I) S w := by
    refine ⟨fun x h => ⟨share_imm.2 (.inl h), rfl⟩, fun h r hr => ⟨r, hr, Nat.le_refl _, Nat.le_refl _, fun hl _ => ⟨hl, rfl, rfl, rfl⟩, fun hl _ => ⟨hl, rfl, fun x hx => ⟨?_, rfl⟩⟩⟩,
      fun b x hx => ⟨x, hx, Nat.le_refl _, fun _ => rfl⟩⟩
    rw [share_ne (by rw [hx]; simp)]
    exact hx
  refine ⟨hst, hm.ext, fun x hx => ?_, fun x h hx => hm.fr x h (share_not (by simp) hx), fun h r hr hl => ?_, fun b x hx => ?_, fun x hx => (share_imm.1 hx).elim (hm.im x) fun h => (hI x h.2).2 h.1, hm.pl⟩
  · by_cases hn : g.ow x = .none
    · by_cases hi : I x
      · exact (hI x hi).1
      · exact absurd (share_none hn hi) hx
    · exact hm.lt x hn
  · refine (hm.regs h r hr hl).frame ?_ (fun x hx => ?_) (fun _ _ => rfl) (fun _ _ => rfl)
    · intro x hx
      split at hx
      · exact hx.elim
      · rename_i hp
        rw [if_neg hp]
        exact share_imm.2 (.inl hx)
    · have hx' : g.ow x = .reg h := hx
      show (g.share I).ow x = .reg h
      rw [share_ne (by rw [hx']; simp)]
      exact hx'
  · have ho := hm.boxes b x hx
    refine BoxOk.step hst ho rfl ?_ rfl
    show (g.share I).ow (g.loc b).1 = .box b
    rw [share_ne (by rw [ho.1]; simp)]
    exact ho.1

theorem Mem.retell {g : G} {S : V.S} {w : World} (hm : Mem w0 A B g S w) (f : Nat → Box → Box) (hf : ∀ b x, (f b x).gen = x.gen)
    (hb : ∀ b x, get S.boxes b = some x → BoxOk w0 B g S.regs w b (f b x).cells) : Step g S w g { S with boxes := mapB S.boxes f } w ∧ Mem w0 A B g { S with boxes := mapB S.boxes f } w := by
  have hst := Step.refl g S w
  refine ⟨⟨hst.im, hst.rg, fun b x hx => ⟨f b x, by simp [get_mapB, hx], by rw [hf]; exact Nat.le_refl _, fun _ => rfl⟩⟩, hm.ext, hm.lt, hm.fr, hm.regs, fun b x hx => ?_, hm.im, ⟨fun c hc => by
    obtain ⟨hbig, x, hx, hg⟩ := hm.pl.1 c hc
    exact ⟨hbig, f c x, by simp [get_mapB, hx], fun e => hg (by rw [hf] at e; exact e)⟩, hm.pl.2⟩⟩
  simp only [get_mapB] at hx
  cases hx0 : get S.boxes b with
  | none => rw [hx0] at hx; cases hx
  | some x0 =>
    rw [hx0] at hx
    simp only [Option.map_some, Option.some.injEq] at hx
    subst hx
    exact hb b x0 hx0

end

end Go.Proofs.YtppfojiogappaaaDoor.V

set_option linter.unusedVariables false

set_option linter.unusedSimpArgs false

namespace Go.Proofs.YtppfojiogappaaaDoor.V

open Go Classical

noncomputable def convSW (τ : Nat → Option TD) (nt : Nat) (o : Oper) (src dst : Nat) (x : Operand) (s : S) (k : S → Prop) : Prop :=
  match τ src with
  | some { kind := .slice e, .. } => (match τ dst with
    | some { kind := .slice _, .. } => if src = dst then (match τ e with
      | some { kind := .int .u8, .. } => (match s.ev x with
        | some (.vals false [.ref h g]) => (match regAt s h g with
          | some r => 0 < r.es.length ∧ putK nt o { s with regs := kill s.regs [h] } (.vals false [.rd none r.n r.es]) k
          | none => False)
        | _ => False)
      | _ => False) else False
    | _ => convW τ nt o src dst x s k)
  | _ => convW τ nt o src dst x s k

section

variable {P : Program} {w0 : World} {A : AA} {B : List (Nat × Nat × Nat)} {nt : Nat} {τ : Nat → Option TD}

theorem freeze_at (w : World) (b n : Nat) {cs : Array Value} {e : TypeId} {fr : Nat × Nat} (h : w.heap[b]? = some (.cells cs e fr)) :
    (∃ fr', (w.freeze ⟨b, n, none⟩ 1).heap[b]? = some (.cells cs e fr')) ∧ (∀ x, x ≠ b → (w.freeze ⟨b, n, none⟩ 1).heap[x]? = w.heap[x]?) ∧ (w.freeze ⟨b, n, none⟩ 1).heap.size = w.heap.size ∧
      (w.freeze ⟨b, n, none⟩ 1).os = w.os ∧ (w.freeze ⟨b, n, none⟩ 1).tape = w.tape ∧ (w.freeze ⟨b, n, none⟩ 1).output = w.output := by
  unfold World.freeze
  rw [if_neg (by decide)]
  obtain ⟨lo, hi⟩ := fr
  refine ⟨⟨if lo == hi then (n, n + 1) else (min lo n, max hi (n + 1)), ?_⟩, fun x hx => ?_, by simp, rfl, rfl, rfl⟩
  · show (w.heap.modify b _)[b]? = _
    rw [Array.getElem?_modify, if_pos rfl, h]
    rfl
  · show (w.heap.modify b _)[x]? = _
    rw [Array.getElem?_modify, if_neg (Ne.symm hx)]

theorem convS_sound (hτ : ∀ t d, τ t = some d → TyOk P t d) (o : Oper) (src dst : Nat) (x : Operand) (ho : o.op = .convert src dst x) : Sound P w0 A B nt o (convSW τ nt o src dst x) := by
  intro s a w k next Q hr hW hn
  unfold convSW at hW
  split at hW
  · rename_i e _ _ _ h1
    split at hW
    · split at hW
      · rename_i hsd
        subst hsd
        split at hW
        · rename_i _ _ _ he
          split at hW
          · rename_i h g0 hx
            split at hW
            · rename_i r hreg
              obtain ⟨hdf, hsz, g, hm, hs⟩ := hr
              obtain ⟨hpos, hW⟩ := hW
              have hu1 : P.underlying src = some (.slice e) := (hτ _ _ h1).kind
              have hue : P.underlying e = some (.int .u8) := (hτ _ _ he).kind
              obtain ⟨q1, q2, q3⟩ := regAt_some hreg
              obtain ⟨x0, ex, hx0⟩ := ev_ok hs hx
              cases ex
              obtain ⟨r', q4, q5, q6⟩ := hx0
              rw [q1] at q4
              cases q4
              have hv := q6 q2 q3.symm
              have hO := hm.regs h r q1 q2
              have key : ∃ b off len cap cs el fr, g.val h = .slice (some ⟨b, off, none⟩) len cap ∧ g.F h b ∧ w.heap[b]? = some (.cells cs el fr) ∧ ∀ (w' : World) (fr' : Nat × Nat), w'.heap[b]? = some (.cells cs el fr') → (∀ y, y ≠ b → w'.heap[y]? = w.heap[y]?) →
                  Rd w' (fun y => g.I y ∨ g.F h y) (g.val h) (.sl true r.n r.es) := by
                have hI : ∀ y, (if r.pure then fun _ => False else g.I) y → g.I y := fun y hy => by
                  split at hy
                  · exact hy.elim
                  · exact hy
                have hdis : ∀ y, g.I y → ¬ g.F h y := fun y hy hf => by
                  have hy : g.ow y = .imm := hy
                  have hf : g.ow y = .reg h := hf
                  rw [hy] at hf
                  cases hf
                cases hO' : r.es with
                | nil => rw [hO'] at hpos; simp at hpos
                | cons r0 rest =>
                  rw [hO'] at hO
                  generalize hgv : g.val h = v at hO
                  cases hO with
                  | row _ gb off len cap _ _ cs el u f hF hff hd fr hfr hg hsz' hn' hlen hc hmx hl hcell hone hrr =>
                    refine ⟨gb, off, len, cap, cs, el, fr, rfl, hF, hg, fun w' fr' hw' hoth => ?_⟩
                    refine .row gb off len cap true r.n _ u (.inr hF) hlen hc hl (fun i j hi hj => (cell_of hw').trans (hcell i j hi hj)) hone (fun i j rr c hr1 hr2 => ?_)
                    refine (hrr i j rr c hr1 hr2).rdOf.frame (fun y hy => hy.elim (fun h => .inl (hI y h)) fun h => .inr (hff i j y h).1) (fun y hy => hoth y ?_)
                    rintro rfl
                    rcases hy with hy | hy
                    · exact hdis _ (hI _ hy) hF
                    · exact (hff i j _ hy).2 rfl
              obtain ⟨b, off, len, cap, cs, el, fr, k1, k2, k3, k4⟩ := key
              obtain ⟨⟨fr', f1⟩, f2, f3, f4, f5, f6⟩ := freeze_at w b cs.size k3
              have hev : a.eval x = .slice (some ⟨b, off, none⟩) len cap := by rw [← k1, ← hv]
              have hrun : (execOp a.eval o).run P w = .ok (.value (g.val h)) (w.freeze ⟨b, cs.size, none⟩ 1) := by
                have hsh : w.shape? b = some (el, cs.size) := by simp [World.shape?, k3]
                simp [execOp, ho, hev, convert, run_underlying hu1, run_underlying hue, markStringish, hsh, k1]
              have hkb : g.ow b = .reg h := k2
              have hext : Ext w0 A B (w.freeze ⟨b, cs.size, none⟩ 1) := hm.ext.same f4 f5 f6 (by omega) fun y hy hA => f2 y fun e => by
                subst e
                rcases hm.fr _ h hkb with h1 | h1
                · exact hA h1
                · omega
              obtain ⟨st1, hm1⟩ := hm.change [h] (fun _ => False) hext (by omega) (fun y hy hno _ => f2 y fun e => by subst e; exact hno h (by simp [memb]) hkb)
              have hm1 := hm1 (fun b x hb h => h.elim)
              obtain ⟨st2, hm2⟩ := hm1.share (fun y => g.F h y) fun y hy => by
                have hy' : g.ow y = .reg h := hy
                exact ⟨by rw [f3]; exact hm.lt y (by rw [hy']; simp), fun _ => .inr (hm.fr y h hy')⟩
              have hrd := k4 _ _ f1 f2
              refine finish hdf hsz hs (st1.trans st2) hm2 rfl hrun (e := .vals false [.rd none r.n r.es]) ⟨_, rfl, ?_⟩ hW hn
              show Rd _ _ _ _
              refine hrd.frame (fun y hy => ?_) (fun _ _ => rfl)
              rcases hy with hy | hy
              · exact share_imm.2 (.inl ((release_imm g [h] y).2 hy))
              · have hy' : g.ow y = .reg h := hy
                exact share_imm.2 (.inr ⟨(release_none g [h] y).2 (.inr ⟨h, hy', by simp [memb]⟩), hy⟩)
            · exact hW.elim
          · exact hW.elim
        · exact hW.elim
      · exact hW.elim
    · exact conv_sound hτ o src dst x ho s a w k next Q hr hW hn
  · exact conv_sound hτ o src dst x ho s a w k next Q hr hW hn

end

end Go.Proofs.YtppfojiogappaaaDoor.V

