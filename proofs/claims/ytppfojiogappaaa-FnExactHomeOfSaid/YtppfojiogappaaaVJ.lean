/- Stores: the rule is right. -/
import Derived.Test.YtppfojiogappaaaVI
set_option linter.unusedVariables false
set_option linter.unusedSimpArgs false
namespace Go.Proofs.Ytppfojiogappaaa.V
open Go Classical

theorem memb_iff {l : List Nat} {a : Nat} : memb l a = true ↔ a ∈ l := by
  induction l with
  | nil => simp [memb]
  | cons k r ih =>
    simp only [memb]
    by_cases h : k = a
    · simp [h]
    · simp [h, ih, Ne.symm h]
theorem memb_append {l l' : List Nat} {a : Nat} : memb (l ++ l') a = true ↔ memb l a = true ∨ memb l' a = true := by
  simp [memb_iff]
theorem nodup_append {l l' : List Nat} (h : nodup (l ++ l') = true) : nodup l' = true ∧ ∀ a, memb l a = true → memb l' a = true → False := by
  induction l with
  | nil => exact ⟨h, fun a ha => by simp [memb] at ha⟩
  | cons k r ih =>
    simp only [List.cons_append, nodup] at h
    split at h
    · cases h
    · rename_i hk
      obtain ⟨h1, h2⟩ := ih h
      refine ⟨h1, fun a ha ha' => ?_⟩
      simp only [memb] at ha
      split at ha
      · rename_i e
        subst e
        exact hk (memb_append.2 (.inr ha'))
      · exact h2 a ha ha'

theorem Own.sub {w : World} {I F : Nat → Prop} {v u : Value} {n : Nat} {es : List (List C)} (h : Own w I F v (.sl true n es)) {lo hi : Nat} (hs : SubOf v n lo hi u) (h1 : lo ≤ hi) (h2 : hi ≤ es.length) :
    Own w I F u (.sl true n ((es.take hi).drop lo)) := by
  cases h with
  | nil =>
    simp at h2
    subst h2
    have : lo = 0 := by omega
    subst this
    rcases hs with ⟨_, rfl⟩ | ⟨g, o, len, cap, o', cap', e, _⟩
    · exact .nil F n
    · cases e
  | row _ g o len cap _ _ cs e u' f hF hff hd fr hfr hg hsz hn hlen hc hm hl hcell h1' hr =>
    rcases hs with ⟨e, _⟩ | ⟨g', og, leng, capg, o', cap', e, rfl, h3, h4, ho'⟩
    · cases e
    · cases e
      refine .row F g o' (hi - lo) cap' n _ cs _ (fun i j => u' (lo + i) j) (fun i j => f (lo + i) j) hF (fun i j x hx => hff _ _ x hx) (fun i j i' j' x hx hx' => ?_) fr hfr hg ?_ hn
        (by simp; omega) (by omega) (by omega) (fun i r hr' => ?_) (fun i j hi' hj => ?_) (fun i j hi' hj => h1' _ _ (by omega) hj) (fun i j r c hr' hj => ?_)
      · have := hd _ _ _ _ x hx hx'
        omega
      · rcases ho' with rfl | ⟨rfl, e⟩
        · rcases Nat.lt_or_ge cap lo with hcl | hcl
          · have : cap' = 0 := by omega
            subst this
            omega
          · have : lo * n + (cap - lo) * n = cap * n := by rw [← Nat.add_mul]; congr 1; omega
            have : cap' * n ≤ (cap - lo) * n := Nat.mul_le_mul_right n h3
            omega
        · have : lo * n ≤ cap * n := Nat.mul_le_mul_right n (by omega)
          omega
      · rw [List.getElem?_drop, List.getElem?_take] at hr'
        split at hr'
        · exact hl _ r hr'
        · cases hr'
      · rcases ho' with rfl | ⟨rfl, e⟩
        · have := hcell (lo + i) j (by omega) hj
          rwa [Nat.add_mul, ← Nat.add_assoc] at this
        · omega
      · rw [List.getElem?_drop, List.getElem?_take] at hr'
        split at hr'
        · exact hr _ j r c hr' hj
        · cases hr'

section
variable {P : Program} {w0 : World} {A : AA} {B : List (Nat × Nat × Nat)} {nt : Nat} {τ : Nat → Option TD}

theorem mvX_own {g : G} {s : S} {w : World} (hm : Mem w0 A B g s w) {u : Value} {x : X} (hx : XOk w g s.regs u x) {c : C} {ks : List Nat} {pr : Bool} (h : mvX s x = some (c, ks, pr)) :
    u.oneCell' = true ∧ Own w (if pr then fun _ => False else g.I) (fun b => ∃ k, memb ks k = true ∧ g.F k b) u c := by
  cases x with
  | sc v =>
    simp only [mvX] at h
    split at h
    · rename_i h1
      cases h
      have : u = v := hx
      subst this
      exact ⟨h1, .sc _ _⟩
    · cases h
  | nil n =>
    cases h
    have : u = .slice none 0 0 := hx
    subst this
    exact ⟨rfl, .nil _ _⟩
  | rd ln n es =>
    cases ln with
    | none =>
      cases h
      have hR : Rd w g.I u (.sl true n es) := hx
      exact ⟨rd_one hR, .rd _ _ _ _ hR.flag⟩
    | some q => cases h
  | ref k gn =>
    simp only [mvX] at h
    split at h
    · rename_i r hr
      cases h
      obtain ⟨h1, h2, h3⟩ := regAt_some hr
      obtain ⟨r', h4, h5, h6⟩ := hx
      rw [h1] at h4
      cases h4
      rw [h6 h2 h3.symm]
      refine ⟨rd_one (reg_rd hm h1 h2), (hm.regs k r h1 h2).frame (fun _ h => h) (fun b hb => ⟨k, by simp [memb], hb⟩) (fun _ _ => rfl) (fun _ _ => rfl)⟩
    · cases h
  | sub k gn lo hi =>
    simp only [mvX] at h
    split at h
    · rename_i r hr
      cases h
      obtain ⟨h1, h2, h3⟩ := regAt_some hr
      obtain ⟨r', h4, h5, h6⟩ := hx
      rw [h1] at h4
      cases h4
      obtain ⟨h7, h8, h9⟩ := h6 h2 h3.symm
      refine ⟨rd_one (sub_rd (reg_rd hm h1 h2) h7 h8 h9), ((hm.regs k r h1 h2).sub h7 h8 h9).frame (fun _ h => h) (fun b hb => ⟨k, by simp [memb], hb⟩) (fun _ _ => rfl) (fun _ _ => rfl)⟩
    · cases h
  | inn _ _ _ _ => cases h

/-- What moves, cell by cell, each with blocks of its own. -/
theorem mvXs_own {g : G} {s : S} {w : World} (hm : Mem w0 A B g s w) : ∀ {xs : List X} {cs : List C} {ks : List Nat} {pr : Bool}, mvXs s xs = some (cs, ks, pr) → nodup ks = true →
    cs.length = xs.length ∧ ∃ fs : Nat → Nat → Prop, (∀ j b, fs j b → ∃ k, memb ks k = true ∧ g.F k b) ∧ (∀ j j' b, fs j b → fs j' b → j = j') ∧
      ∀ (j : Nat) (x : X) (c : C), xs[j]? = some x → cs[j]? = some c → ∀ u, XOk w g s.regs u x → u.oneCell' = true ∧ Own w (if pr then fun _ => False else g.I) (fs j) u c
  | [], cs, ks, pr, h, _ => by
    cases h
    exact ⟨rfl, fun _ _ => False, fun j b hb => hb.elim, fun j j' b hb => hb.elim, fun j x c hx => by simp at hx⟩
  | x :: r, cs, ks, pr, h, hnd => by
    simp only [mvXs] at h
    split at h
    · rename_i c0 k1 p1 cs0 k2 p2 h1 h2
      cases h
      obtain ⟨hnd2, hdis⟩ := nodup_append hnd
      obtain ⟨hl, fs, f1, f2, f3⟩ := mvXs_own hm h2 hnd2
      refine ⟨by simp [hl], fun j b => match j with | 0 => ∃ k, memb k1 k = true ∧ g.F k b | j + 1 => fs j b, fun j b hb => ?_, fun j j' b hb hb' => ?_, fun j y c hy hc u hu => ?_⟩
      · cases j with
        | zero =>
          obtain ⟨k, hk, hf⟩ := hb
          exact ⟨k, memb_append.2 (.inl hk), hf⟩
        | succ j =>
          obtain ⟨k, hk, hf⟩ := f1 j b hb
          exact ⟨k, memb_append.2 (.inr hk), hf⟩
      · cases j with
        | zero =>
          cases j' with
          | zero => rfl
          | succ j' =>
            obtain ⟨k, hk, hf⟩ := hb
            obtain ⟨k', hk', hf'⟩ := f1 j' b hb'
            have : g.ow b = .reg k := hf
            have e : g.ow b = .reg k' := hf'
            rw [this] at e
            cases e
            exact (hdis k hk hk').elim
        | succ j =>
          cases j' with
          | zero =>
            obtain ⟨k, hk, hf⟩ := hb'
            obtain ⟨k', hk', hf'⟩ := f1 j b hb
            have : g.ow b = .reg k := hf
            have e : g.ow b = .reg k' := hf'
            rw [this] at e
            cases e
            exact (hdis k hk hk').elim
          | succ j' => rw [f2 j j' b hb hb']
      · cases j with
        | zero =>
          simp at hy hc
          subst hy
          subst hc
          obtain ⟨q1, q2⟩ := mvX_own hm hu h1
          refine ⟨q1, q2.frame (fun b hb => ?_) (fun _ h => h) (fun _ _ => rfl) (fun _ _ => rfl)⟩
          cases p1 <;> cases p2 <;> simp_all
        | succ j =>
          simp at hy hc
          obtain ⟨q1, q2⟩ := f3 j y c hy hc u hu
          refine ⟨q1, q2.frame (fun b hb => ?_) (fun _ h => h) (fun _ _ => rfl) (fun _ _ => rfl)⟩
          cases p1 <;> cases p2 <;> simp_all
    · cases h

theorem storeVar_run {t : Nat} {d : TD} (hd : TyOk P t d) (w : World) (b o : Nat) (v : Value) (cur : Array Value) (e : TypeId) (fr : Nat × Nat) (hg : w.heap[b]? = some (.cells cur e fr)) (hfr : ∀ k, k < cur.size → ¬ (fr.1 ≤ k ∧ k < fr.2))
    (hsz : v.cells.size = d.size) (hb : o + v.cells.size ≤ cur.size) (h1 : ∀ u ∈ v.cells.toList, u.oneCell' = true) :
    (storeVar t ⟨b, o, none⟩ v).run P w = .ok () (w.setRow b (spl cur o v.cells.toList)) := by
  obtain ⟨i, z, hi, hs, _⟩ := hd.info
  have := run_stores (P := P) b o e fr v.cells.toList 0 cur w hg hfr (by simpa using hb) h1
  simp only [Nat.add_zero] at this
  simp [storeVar, sizeOf, typeInfo, hi, hs, hsz, this]

theorem store_sound (hτ : ∀ t d, τ t = some d → TyOk P t d) (o : Oper) (t : Nat) (p x : Operand) (ho : o.op = .store t p x) : Sound P w0 A B nt o (storeW τ t p x o) := by
  intro s a w k next Q hr hW hn
  obtain ⟨hdf, hsz, g, hm, hs⟩ := hr
  unfold storeW at hW
  split at hW
  · rename_i d b gn off agg xs hdst hd hp hx
    have hT := hτ _ _ hd
    split at hW
    · rename_i bx hbx
      split at hW
      · rename_i hgen
        split at hW
        · rename_i hlen
          split at hW
          · rename_i hoff
            split at hW
            · rename_i hall
              obtain ⟨x', h4, h5, h6⟩ := ev_ok hs hp
              rw [hbx] at h4
              cases h4
              have hp' := h6 hgen.symm
              have hv := ev_ok hs hx
              obtain ⟨hc1, hc2⟩ := vals_cells (v := a.eval x) hv (fun _ u y hy hxo => okX_one hm hxo (by rw [hy] at hall; simpa using hall))
              obtain ⟨q1, q2, cs, el, q3, q4, q5⟩ := hm.boxes b bx hbx
              have hone : ∀ u ∈ (a.eval x).cells.toList, u.oneCell' = true := by
                intro u hu
                obtain ⟨j, hj, rfl⟩ := List.mem_iff_getElem.1 hu
                obtain ⟨u', hu', hxo⟩ := hc2 j (xs[j]'(by simp at hj; omega)) (by simp)
                have : (a.eval x).cells.toList[j] = u' := by
                  rw [Array.getElem_toList]
                  simp at hj
                  rw [Array.getElem?_eq_getElem hj] at hu'
                  exact Option.some.inj hu'
                rw [this]
                exact okX_one hm hxo (List.all_eq_true.1 hall _ (by simp))
              have hrun := storeVar_run hT w (g.loc b).1 ((g.loc b).2 + off) (a.eval x) cs el (0, 0) q3 (fun k _ h => by simp at h) (by omega) (by omega) hone
              have hvl : (a.eval x).cells.toList.length = xs.length := by simpa using hc1
              have hb1 : (g.loc b).2 + off + (a.eval x).cells.toList.length ≤ cs.size := by omega
              obtain ⟨hst, hm'⟩ := hm.setBox b bx hbx cs (spl cs ((g.loc b).2 + off) (a.eval x).cells.toList) el q3 (setRow_heap w _ cs _ el _ q3) (spl_size _ _ _ hb1)
                (fun k hk => spl_out _ _ _ hb1 k (by omega)) (fun y hy => setRow_other w _ y _ hy) rfl rfl rfl (by simp) (splX bx.cells off xs) (splX_len _ _ _ hoff) (fun j y hj => by
                  by_cases hin : off ≤ j ∧ j < off + xs.length
                  · have h1 := splX_in bx.cells off xs hoff (j - off) (by omega)
                    rw [show off + (j - off) = j by omega] at h1
                    rw [h1] at hj
                    obtain ⟨u, hu, hxo⟩ := hc2 _ y hj
                    have h2 := spl_in cs ((g.loc b).2 + off) (a.eval x).cells.toList hb1 (j - off) (by omega)
                    rw [show (g.loc b).2 + off + (j - off) = (g.loc b).2 + j by omega] at h2
                    refine ⟨u, ?_, hone u ?_, hxo⟩
                    · rw [h2]; simpa using hu
                    · exact List.mem_of_getElem? (by simpa using hu)
                  · rw [splX_out bx.cells off xs hoff j (by omega)] at hj
                    obtain ⟨u, hu, h1, hxo⟩ := q5 j y hj
                    exact ⟨u, by rw [spl_out _ _ _ hb1 _ (by omega)]; exact hu, h1, hxo⟩)
              refine finish0 hdf hsz hs hst hm' rfl ?_ hdst hW hn
              simp [execOp, ho, hp', Instr.storeAt, Instr.sureAddr, hrun]
            · exact hW.elim
          · exact hW.elim
        · exact hW.elim
      · exact hW.elim
    · exact hW.elim
  · rename_i d h gn i off agg xs hdst hd hp hx
    have hT := hτ _ _ hd
    split at hW
    · rename_i r hreg
      split at hW
      · rename_i cs ks pr hmv
        split at hW
        · rename_i hlen
          split at hW
          · rename_i hoff
            split at hW
            · rename_i hnd
              split at hW
              · exact hW.elim
              · rename_i hkh
                obtain ⟨row, hrow, hW⟩ := hW
                obtain ⟨h1, h2, h3⟩ := regAt_some hreg
                obtain ⟨r', h4, h5, h6⟩ := ev_ok hs hp
                rw [h1] at h4
                cases h4
                obtain ⟨b, oo, len, cap, e1, e2, e3⟩ := h6 h2 h3.symm
                obtain ⟨hcl, fs, f1, f2, f3⟩ := mvXs_own hm hmv hnd
                have hv := ev_ok hs hx
                obtain ⟨hc1, hc2⟩ := vals_cells (v := a.eval x) hv (fun _ u y hy hxo => by
                  subst hy
                  have : ∃ c, cs[0]? = some c := ⟨cs[0]'(by simp at hcl; omega), by simp⟩
                  obtain ⟨c, hc⟩ := this
                  exact (f3 0 y c rfl hc u hxo).1)
                have hvl : (a.eval x).cells.toList.length = cs.length := by simp [hc1, hcl]
                have hone : ∀ u ∈ (a.eval x).cells.toList, u.oneCell' = true := by
                  intro u hu
                  obtain ⟨j, hj, rfl⟩ := List.mem_iff_getElem.1 hu
                  obtain ⟨u', hu', hxo⟩ := hc2 j (xs[j]'(by simp at hj; omega)) (by simp)
                  have : (a.eval x).cells.toList[j] = u' := by
                    rw [Array.getElem_toList]
                    simp at hj
                    rw [Array.getElem?_eq_getElem hj] at hu'
                    exact Option.some.inj hu'
                  rw [this]
                  exact (f3 j _ (cs[j]'(by omega)) (by simp) (by simp) u' hxo).1
                have hFI : ∀ b, g.F h b → ¬ (if (r.pure && pr) then fun _ => False else g.I) b := by
                  intro b hb hI
                  split at hI
                  · exact hI
                  · have q1 : g.ow b = .reg h := hb
                    have q2 : g.ow b = .imm := hI
                    rw [q1] at q2
                    cases q2
                obtain ⟨gb, og, capg, cur, e, fr, g1, g2, g3, g4, g5, g6⟩ := (hm.regs h r h1 h2).set hrow off (a.eval x).cells.toList cs hvl (by omega) hone
                  (if (r.pure && pr) then fun _ => False else g.I) ((g.merge ks h).F h) fs (fun b hb => by
                    cases hpu : r.pure <;> cases pr <;> simp_all)
                  hFI (fun b hb => by
                    have hb' : g.ow b = .reg h := hb
                    show (g.merge ks h).ow b = .reg h
                    rw [merge_reg hb']
                    split <;> rfl)
                  (fun j c hc => by
                    have hj : j < xs.length := by rw [← hcl]; exact (List.getElem?_eq_some_iff.1 hc).1
                    obtain ⟨u, hu, hxo⟩ := hc2 j xs[j] (by simp)
                    refine ⟨u, by simpa using hu, ((f3 j _ c (by simp) hc u hxo).2).frame (fun b hb => ?_) (fun _ h => h) (fun _ _ => rfl) (fun _ _ => rfl)⟩
                    cases hpu : r.pure <;> cases pr <;> simp_all)
                  (fun j y hy => by
                    obtain ⟨k, hk, hf⟩ := f1 j y hy
                    have hf' : g.ow y = .reg k := hf
                    refine ⟨?_, fun hb => ?_⟩
                    · show (g.merge ks h).ow y = .reg h
                      rw [merge_reg hf', if_pos hk]
                    · have hb' : g.ow y = .reg h := hb
                      rw [hf'] at hb'
                      cases hb'
                      exact hkh hk)
                  (fun j j' y hy hy' => f2 j j' y hy hy')
                rw [e1] at g1
                cases g1
                obtain ⟨hst, hm'⟩ := hm.setEl (w' := w.setRow b (spl cur (oo + i * r.n + off) (a.eval x).cells.toList)) h r h1 h2 ks (by simpa using hkh) (r.es.set i (splC row off cs)) (r.pure && pr) (by simp)
                  (fun y hy => setRow_other w b y _ (fun e => hy (by rw [e]; exact g5))) rfl rfl rfl (by simp) g6
                have hrun := storeVar_run hT w b (oo + i * r.n + off) (a.eval x) cur e fr g2 g3 (by omega) (by simpa using g4) hone
                refine finish0 hdf hsz hs hst hm' rfl ?_ hdst hW hn
                simp [execOp, ho, e3, Instr.storeAt, Instr.sureAddr, hrun]
            · exact hW.elim
          · exact hW.elim
        · exact hW.elim
      · exact hW.elim
    · exact hW.elim
  · exact hW.elim

end
end Go.Proofs.Ytppfojiogappaaa.V
