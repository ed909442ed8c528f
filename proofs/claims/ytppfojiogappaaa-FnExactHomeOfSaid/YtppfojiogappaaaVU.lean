/- The rule of a call is right. -/
import Derived.Test.YtppfojiogappaaaVT
set_option linter.unusedVariables false
set_option linter.unusedSimpArgs false
namespace Go.Proofs.Ytppfojiogappaaa.V
open Go Classical

theorem run_call_enter {P : Program} {a : Act} {w : World} {o : Oper} {f : FuncId} {fn : Func} {c : Code} {args : Array Operand} {ats : Array TypeId} (hop : o.op = .call { callee := .value (.func f), args, argTypes := ats })
    (hf : P.funcs[f]? = some fn) (hname : (fn.name == "runtime.NumGoroutine") = false) (hb : fn.body = some c) : (execOp a.eval o).run P w = .ok (.enter f (args.map a.eval)) w := by
  have h1 : ¬ fn.name = "runtime.NumGoroutine" := by simpa using hname
  unfold execOp
  simp [hop, resolve, Deferred.ofValue, invoke, callFunc, hf, h1, hb, Act.eval]

section
variable {P : Program} {w0 : World} {A : AA} {B : List (Nat × Nat × Nat)} {nt : Nat} {τ : Nat → Option TD}

theorem mapB_id (l : List (Nat × Box)) : mapB l (fun _ x => x) = l := by
  unfold mapB
  induction l with
  | nil => rfl
  | cons p r ih => simp only [List.map_cons, ih]
theorem mapB_mapB (l : List (Nat × Box)) (f1 f2 : Nat → Box → Box) : mapB (mapB l f1) f2 = mapB l fun b x => f2 b (f1 b x) := by
  simp [mapB, List.map_map, Function.comp_def]

/-- What a box's memory says, as it stands. -/
def asIs (w : World) (p : Nat × Nat) (n : Nat) : List X :=
  (List.range n).map fun j => .sc ((w.cell? ⟨p.1, p.2 + j, none⟩).getD undef)

theorem asIs_len (w : World) (p : Nat × Nat) (n : Nat) : (asIs w p n).length = n := by simp [asIs]

theorem boxOuts_mem {w : World} {I : Nat → Prop} {g : G} {s : S} : ∀ {Bx : List Nat} {outs : List (List C)}, BoxOuts w I g s Bx outs → ∀ b ∈ Bx, ∃ y cs, get s.boxes b = some y ∧ cs.length = y.cells.length ∧ MemRow w I (g.loc b) cs
  | [], [], _, b, hb => by cases hb
  | c :: bs, o :: os, h, b, hb => by
    obtain ⟨⟨y, h1, h2, h3⟩, h4⟩ := h
    cases hb with
    | head => exact ⟨y, o, h1, h2, h3⟩
    | tail _ hb => exact boxOuts_mem h4 b hb

theorem outsX_mem {w : World} {I : Nat → Prop} {g : G} {s : S} {ln : Option (Option (Nat × Nat))} : ∀ {Bx : List Nat} {outs : List (List C)} {ups : List (Nat × List X)}, BoxOuts w I g s Bx outs → outsX ln Bx outs = some ups →
    (∀ b xs, get ups b = some xs → ∃ y cs, get s.boxes b = some y ∧ cs.length = y.cells.length ∧ MemRow w I (g.loc b) cs ∧ lXs ln cs = some xs) ∧ (∀ b, b ∈ Bx → ∃ xs, get ups b = some xs) ∧ ∀ b, ¬ b ∈ Bx → get ups b = none
  | [], [], ups, h, e => by
    cases e
    exact ⟨fun b xs h => (by cases h), fun b hb => (by cases hb), fun b _ => rfl⟩
  | c :: bs, o :: os, ups, h, e => by
    obtain ⟨⟨y, h1, h2, h3⟩, h4⟩ := h
    simp only [outsX] at e
    split at e
    · rename_i xs e1
      split at e
      · rename_i r e2
        cases e
        obtain ⟨i1, i2, i3⟩ := outsX_mem h4 e2
        refine ⟨fun b xs' hb => ?_, fun b hb => ?_, fun b hb => ?_⟩
        · simp only [get] at hb
          split at hb
          · rename_i hcb
            subst hcb
            cases hb
            exact ⟨y, o, h1, h2, h3, e1⟩
          · exact i1 b xs' hb
        · simp only [get]
          split
          · exact ⟨_, rfl⟩
          · rename_i hcb
            cases hb with
            | head => exact absurd rfl hcb
            | tail _ hb => exact i2 b hb
        · simp only [get]
          rw [if_neg (fun hc => hb (by rw [← hc]; exact List.mem_cons_self ..))]
          exact i3 b fun h => hb (List.mem_cons_of_mem _ h)
      · cases e
    · cases e
  | [], _ :: _, _, h, _ => h.elim
  | _ :: _, [], _, h, _ => h.elim

theorem lnOf_is {g g' : G} {s s' : S} {w w' : World} {l : List (Nat × Nat)} {I I' : Nat → Prop} (hlv : LiveL s' l) (hI : ∀ x, I' x → g'.ow x = .imm ∨ ∃ p ∈ l, g'.ow x = .reg p.1) : LnIs g' s'.regs I' (lnOf (pack l)) := by
  obtain ⟨hp1, hp2⟩ := pack_mem l
  intro ln e φ hφ h
  have key : ∀ x, I' x → g'.ow x = .imm ∨ ∃ q ∈ pack l, g'.ow x = .reg q.1 := fun x hx => (hI x hx).imp id fun ⟨p, hp, e⟩ => let ⟨q, hq, e'⟩ := hp2 p hp; ⟨q, hq, by rw [e', e]⟩
  cases hpl : pack l with
  | nil =>
    rw [hpl] at e key
    cases e
    exact hφ _ _ (fun x hx => (key x hx).elim id fun ⟨q, hq, _⟩ => (by cases hq)) h
  | cons p r =>
    rw [hpl] at e key hp1
    cases r with
    | cons q t => cases e
    | nil =>
      cases e
      obtain ⟨r, hr, hl, hv⟩ := hlv p (hp1 p (List.mem_cons_self ..))
      exact ⟨r, hr, by omega, fun _ _ => hφ _ _ (fun x hx => (key x hx).imp id fun ⟨q, hq, e⟩ => by rw [List.mem_singleton.1 hq] at e; exact e) h⟩

theorem isBox_some {rs : List RV} {cs : List C} (h : isBox rs = some cs) : rs = [⟨false, [.box cs]⟩] := by
  unfold isBox at h
  split at h
  · cases h; rfl
  · cases h

theorem box_back {s : S} {a : Act} {w w' : World} {g : G} {o : Oper} {k : S → Prop} {next : Act → World → Prop} {l : List (Nat × Nat)} {O Bx : List Nat} {as : List AV} {Fs : List (Nat → Prop)} {vs : List Value} {v : Value} {rs : List RV} {us : Array Value} {I' : Nat → Prop} {G' : Nat → Nat → Nat → Prop} {cs : List C}
    (hdf : a.defers = []) (hsz : a.tmps.size = nt) (hm : Mem w0 A B g s w) (hs : SlotsOk g s nt a w) (hlv : LiveL s l) (haO : ∀ y, aOf as Fs y → ∃ h ∈ O, g.ow y = .reg h)
    (hbOf : ∀ p ∈ bOf as vs, ∃ b ∈ Bx, ∃ y, get s.boxes b = some y ∧ p = ((g.loc b).1, (g.loc b).2, y.cells.length)) (hn : ∀ s' a' w', Real w0 A B nt s' a' w' → k s' → next a' w')
    (hex : Ext w ⟨aOf as Fs, fun _ => False, fun _ => False, fun _ => (0, 0)⟩ (bOf as vs) w') (hRet : RetOk rs us v) (hRv : ∀ (k : Nat) (r : RV), rs[k]? = some r → ∃ u, us[k]? = some u ∧ RvOk w' I' (G' k) u r)
    (hI' : ∀ x, I' x → x < w'.heap.size ∧ (IL g l x ∨ aOf as Fs x ∨ w.heap.size ≤ x)) (hG : ∀ k j x, G' k j x → x < w'.heap.size ∧ (aOf as Fs x ∨ w.heap.size ≤ x) ∧ ¬ I' x) (hbox : isBox rs = some cs) (hret : retB nt o l O Bx cs s k) : next (a.put o.dst v) w' := by
  have hrs := isBox_some hbox
  subst hrs
  unfold retB at hret
  split at hret
  case h_2 => exact hret.elim
  have hA0 : ∀ x, ¬ aOf as Fs x := fun x hx => let ⟨c, hc, _⟩ := haO x hx; by cases hc
  have hB0 : ∀ p, ¬ p ∈ bOf as vs := fun p hp => let ⟨b, hb, _⟩ := hbOf p hp; by cases hb
  have hmx := hm.ext
  have hold : ∀ x, x < w.heap.size → w'.heap[x]? = w.heap[x]? := fun x hx => hex.keep x hx (hA0 x) fun p hp => absurd hp (hB0 p)
  have hex' : Ext w0 A B w' := hmx.same hex.os hex.tape hex.output hex.size fun x hx _ => hold x (Nat.lt_of_lt_of_le hx hmx.size)
  obtain ⟨st1, hm1⟩ := hm.change [] (fun _ => False) hex' hex.size (fun x hx _ _ => hold x hx)
  have hm1 := hm1 (fun b x hb h => h.elim)
  obtain ⟨st2, hm2⟩ := hm1.share I' fun x hx => ⟨(hI' x hx).1, fun hn0 => by
    rcases (hI' x hx).2 with h | h | h
    · rcases h with h | ⟨p, hp, h⟩
      · rw [(release_imm g [] x).2 h] at hn0; cases hn0
      · rw [(release_reg g [] x p.1).2 ⟨h, rfl⟩] at hn0; cases hn0
    · exact absurd h (hA0 x)
    · exact .inr (.inr (Nat.le_trans hm.ext.size h))⟩
  have hst12 := st1.trans st2
  have himm : ∀ x, I' x → ((g.release []).share I').ow x = .imm ∨ ∃ p ∈ l, ((g.release []).share I').ow x = .reg p.1 := by
    intro x hx
    rcases (hI' x hx).2 with h | h | h
    · rcases h with h | ⟨p, hp, h⟩
      · exact .inl (st2.im x ((release_imm g [] x).2 h)).1
      · refine .inr ⟨p, hp, ?_⟩
        have h' : (g.release []).ow x = .reg p.1 := (release_reg g [] x p.1).2 ⟨h, rfl⟩
        rw [share_ne (by rw [h']; simp)]
        exact h'
    · exact absurd h (hA0 x)
    · refine .inl (share_imm.2 (.inr ⟨(release_none g [] x).2 (.inl ?_), hx⟩))
      by_cases h0 : g.ow x = .none
      · exact h0
      · have := hm.lt x h0
        omega
  have hkl : kill s.regs [] = s.regs := by
    unfold kill
    simp [memb]
  have hs0 : ({ s with regs := kill s.regs [] } : S) = s := by rw [hkl]
  rw [hs0] at st2 hm2 hst12
  have hln : LnIs ((g.release []).share I') s.regs I' (lnOf (pack l)) := lnOf_is (g := g) (s := s) (w := w) (w' := w') (I := I') (s' := s) hlv himm
  split at hret
  case h_2 => exact hret.elim
  rename_i xs hxs
  split at hret
  case h_2 => exact hret.elim
  rename_i d hd
  obtain ⟨u, hu, hv⟩ := hRv 0 _ rfl
  obtain ⟨x, ex, hx⟩ := hv
  cases ex
  obtain ⟨p, hup, hGp, bcs, e, r1, r2, r3⟩ := hx
  obtain ⟨g1, g2, g3⟩ := hG 0 0 p.1 hGp
  have hfresh : w.heap.size ≤ p.1 := g2.resolve_left (hA0 _)
  obtain ⟨q1, q2⟩ := lXs_ok (w := w') hln hxs
  have hp0 : ((g.release []).share I').ow p.1 = .none := share_none ((release_none g [] p.1).2 (.inl (by
    by_cases h0 : g.ow p.1 = .none
    · exact h0
    · have := hm.lt _ h0
      omega))) g3
  obtain ⟨st3, hm3⟩ := hm2.adoptBox d p xs hp0 g1 (Nat.le_trans hm.ext.size hfresh) ⟨bcs, e, r1, by rw [q1]; exact r2, fun j y hj => by
    obtain ⟨c, hc, ho⟩ := q2 j y hj
    obtain ⟨u', hu', h1, h2⟩ := r3 j c hc
    exact ⟨u', hu', h1, ho u' h2⟩⟩
  have hstF := hst12.trans st3
  have hvv : v = .pointer (some ⟨p.1, p.2, none⟩) := by
    obtain ⟨s1, s2⟩ := hRet
    have hs1 : us.size = 1 := by simpa using s1
    rw [dif_pos hs1] at s2
    have hu' : us[0]? = some us[0] := Array.getElem?_eq_getElem (by omega)
    rw [hu'] at hu
    cases hu
    rw [s2, hup]
  rw [hd]
  unfold putK at hret
  rw [hd] at hret
  simp only at hret
  split at hret
  · rename_i hlt
    have hslots := hs.step (S' := { s with boxes := put s.boxes d ⟨boxGen s.boxes d, xs⟩ }) hstF rfl
    refine hn { s with boxes := put s.boxes d ⟨boxGen s.boxes d, xs⟩, slots := put s.slots d (.bptr d (boxGen s.boxes d) 0) } _ _ ⟨?_, ?_, _, ⟨hm3.ext, hm3.lt, hm3.fr, hm3.regs, hm3.boxes, hm3.im, hm3.pl⟩, hslots.put hsz hlt ⟨_, get_put_same _ _ _, Nat.le_refl _, fun _ => by rw [hvv]; simp [G.takeBox]⟩⟩ hret
    · simp [Act.put, hdf]
    · simp [Act.put, hsz]
  · exact hret.elim

theorem ret_back {s : S} {a : Act} {w w' : World} {g : G} {o : Oper} {k : S → Prop} {next : Act → World → Prop} {l : List (Nat × Nat)} {O Bx : List Nat} {as : List AV} {Fs : List (Nat → Prop)} {xs : List Value} {v : Value} {rs : List RV} {outs : List (List C)} {us : Array Value} {I' : Nat → Prop} {G' : Nat → Nat → Nat → Prop}
    (hdf : a.defers = []) (hsz : a.tmps.size = nt) (hm : Mem w0 A B g s w) (hs : SlotsOk g s nt a w) (hlv : LiveL s l) (hdl : ∀ p ∈ l, memb O p.1 = false) (hbB : ∀ b ∈ Bx, ∃ y, get s.boxes b = some y) (haO : ∀ y, aOf as Fs y → ∃ h ∈ O, g.ow y = .reg h)
    (hbOf : ∀ p ∈ bOf as xs, ∃ b ∈ Bx, ∃ y, get s.boxes b = some y ∧ p = ((g.loc b).1, (g.loc b).2, y.cells.length)) (hn : ∀ s' a' w', Real w0 A B nt s' a' w' → k s' → next a' w')
    (hex : Ext w ⟨aOf as Fs, fun _ => False, fun _ => False, fun _ => (0, 0)⟩ (bOf as xs) w') (hRet : RetOk rs us v) (hRv : ∀ (k : Nat) (r : RV), rs[k]? = some r → ∃ u, us[k]? = some u ∧ RvOk w' I' (G' k) u r)
    (hI' : ∀ x, I' x → x < w'.heap.size ∧ (IL g l x ∨ (∃ c ∈ O, g.ow x = .reg c) ∨ w.heap.size ≤ x)) (hG : ∀ k j x, G' k j x → x < w'.heap.size ∧ (aOf as Fs x ∨ w.heap.size ≤ x) ∧ ¬ I' x)
    (hGd : ∀ k j k' j' x, G' k j x → G' k' j' x → k = k' ∧ j = j') (hbo : BoxOuts w' I' g s Bx outs) (hret : retW nt o l O Bx rs outs s k) : next (a.put o.dst v) w' := by
  unfold retW at hret
  split at hret
  case h_2 => exact hret.elim
  rename_i ups hups
  split at hret
  case h_2 => exact hret.elim
  rename_i ps regs' hres
  obtain ⟨hu1, hu2, hu3⟩ := outsX_mem hbo hups
  -- the world's turn
  have hA : ∀ x, aOf as Fs x → A x ∨ w0.heap.size ≤ x := fun x hx => let ⟨c, _, e⟩ := haO x hx; hm.fr x c e
  have hA2 : ∀ x, (∃ c ∈ O, g.ow x = .reg c) → A x ∨ w0.heap.size ≤ x := fun x ⟨c, _, e⟩ => hm.fr x c e
  have hex' : Ext w0 A B w' := by
    have hmx := hm.ext
    refine ⟨hex.os.trans hmx.os, hex.tape.trans hmx.tape, hex.output.trans hmx.output, Nat.le_trans hmx.size hex.size, fun x hx hA' hB => ?_, fun p hp hA' cs e fr hc => ?_⟩
    · refine (hex.keep x (Nat.lt_of_lt_of_le hx hmx.size) (fun h => ?_) fun p hp e => ?_).trans (hmx.keep x hx hA' hB)
      · rcases hA x h with h | h
        · exact hA' h
        · omega
      · obtain ⟨b, hb, y, hy, rfl⟩ := hbOf p hp
        rcases (hm.boxes b y hy).2.1 with h | h
        · have e' : (g.loc b).1 = x := e
          omega
        · exact hB _ h e
    · obtain ⟨cs', h1, h2, h3⟩ := hmx.rng p hp hA' cs e fr hc
      have hlt : p.1 < w0.heap.size := (Array.getElem?_eq_some_iff.1 hc).1
      have hA'' : ¬ aOf as Fs p.1 := fun h => by
        rcases hA _ h with h | h
        · exact hA' h
        · omega
      by_cases hin : ∃ q ∈ bOf as xs, q.1 = p.1
      · obtain ⟨q, hq, hqp⟩ := hin
        obtain ⟨cs2, h4, h5, h6⟩ := hex.rng q hq (by rw [hqp]; exact hA'') cs' e fr (by rw [hqp]; exact h1)
        rw [hqp] at h4
        refine ⟨cs2, h4, h5.trans h2, fun i hi => (h6 i fun r hr hrq => ?_).trans (h3 i hi)⟩
        obtain ⟨b, hb, y, hy, rfl⟩ := hbOf r hr
        rcases (hm.boxes b y hy).2.1 with h | h
        · have e' : (g.loc b).1 = p.1 := (show (g.loc b).1 = q.1 from hrq).trans hqp
          omega
        · exact hi _ h ((show (g.loc b).1 = q.1 from hrq).trans hqp)
      · have := hex.keep p.1 (Nat.lt_of_lt_of_le hlt hmx.size) hA'' fun q hq e => hin ⟨q, hq, e⟩
        exact ⟨cs', this.trans h1, h2, h3⟩
  let f1 : Nat → Box → Box := fun b x => match get ups b with | some _ => { x with cells := asIs w' (g.loc b) x.cells.length } | none => x
  have hold : ∀ x, x < w.heap.size → (∀ k, memb O k = true → g.ow x ≠ .reg k) → (∀ b, b ∈ Bx → x ≠ (g.loc b).1) → w'.heap[x]? = w.heap[x]? := fun x hx h1 h2 =>
    hex.keep x hx (fun h => let ⟨c, hc, e⟩ := haO x h; h1 c (memb_mem.2 hc) e) fun p hp e => by
      obtain ⟨b, hb, y, hy, rfl⟩ := hbOf p hp
      exact h2 b hb e.symm
  have hcells : ∀ b y cs, get s.boxes b = some y → cs.length = y.cells.length → MemRow w' I' (g.loc b) cs → ∀ (g2 : G) (rg : List (Nat × Reg)) (xs2 : List X), g2.loc b = g.loc b → g2.ow (g.loc b).1 = .box b → xs2.length = y.cells.length →
      (∀ (j : Nat) (x : X), xs2[j]? = some x → ∀ u c, cs[j]? = some c → w'.cell? ⟨(g.loc b).1, (g.loc b).2 + j, none⟩ = some u → Rd w' I' u c → XOk w' g2 rg u x) → BoxOk w0 B g2 rg w' b xs2 := by
    intro b y cs hy hl hrow g2 rg xs2 e1 e2 e3 hx
    obtain ⟨_, hb2, _⟩ := hm.boxes b y hy
    obtain ⟨bcs, e, r1, r2, r3⟩ := hrow
    unfold BoxOk
    rw [e1]
    refine ⟨e2, by rw [e3]; exact hb2, bcs, e, r1, by omega, fun j x hj => ?_⟩
    have hj' : j < cs.length := by rw [hl, ← e3]; exact (List.getElem?_eq_some_iff.1 hj).1
    obtain ⟨u, hu, h1, h2⟩ := r3 j cs[j] (List.getElem?_eq_getElem hj')
    exact ⟨u, hu, h1, hx j x hj u cs[j] (List.getElem?_eq_getElem hj') ((cell_of r1).trans hu) h2⟩
  obtain ⟨st1, hm1⟩ := hm.turn O (fun b => b ∈ Bx) f1 (fun b x => by simp only [f1]; split <;> rfl) (fun b x hb => by simp only [f1, hu3 b hb]) hex' hex.size hold (fun b x hb hbx => by
    obtain ⟨xs0, hxs0⟩ := hu2 b hbx
    obtain ⟨y, cs, hy, hl, hrow, _⟩ := hu1 b xs0 hxs0
    rw [hb] at hy
    cases hy
    have : (f1 b x).cells = asIs w' (g.loc b) x.cells.length := by simp only [f1, hxs0]
    rw [this]
    refine hcells b x cs hb hl hrow _ _ _ rfl ((release_box g O _ b).2 (hm.boxes b x hb).1) (asIs_len _ _ _) fun j x' hj u c hc hu hrd => ?_
    have : j < x.cells.length := by have := (List.getElem?_eq_some_iff.1 hj).1; rwa [asIs_len] at this
    simp only [asIs, List.getElem?_map, List.getElem?_range this, Option.map_some, Option.some.injEq] at hj
    subst hj
    show u = _
    rw [hu]
    rfl) hbB
  -- what nobody names becomes shared
  obtain ⟨st2, hm2⟩ := hm1.share I' fun x hx => ⟨(hI' x hx).1, fun hn0 => by
    rcases (hI' x hx).2 with h | h | h
    · rcases h with h | ⟨p, hp, h⟩
      · rw [(release_imm g O x).2 h] at hn0; cases hn0
      · rw [(release_reg g O x p.1).2 ⟨h, hdl p hp⟩] at hn0; cases hn0
    · exact .inr (hA2 x h)
    · exact .inr (.inr (Nat.le_trans hm.ext.size h))⟩
  let g2 := (g.release O).share I'
  have hst12 := st1.trans st2
  have himm : ∀ x, I' x → g2.ow x = .imm ∨ ∃ p ∈ l, g2.ow x = .reg p.1 := by
    intro x hx
    rcases (hI' x hx).2 with h | h | h
    · rcases h with h | ⟨p, hp, h⟩
      · exact .inl (st2.im x ((release_imm g O x).2 h)).1
      · refine .inr ⟨p, hp, ?_⟩
        have h' : (g.release O).ow x = .reg p.1 := (release_reg g O x p.1).2 ⟨h, hdl p hp⟩
        show ((g.release O).share I').ow x = .reg p.1
        rw [share_ne (by rw [h']; simp)]
        exact h'
    · obtain ⟨c, hc, e⟩ := h
      exact .inl (share_imm.2 (.inr ⟨(release_none g O x).2 (.inr ⟨c, e, memb_mem.2 hc⟩), hx⟩))
    · refine .inl (share_imm.2 (.inr ⟨(release_none g O x).2 (.inl ?_), hx⟩))
      by_cases h0 : g.ow x = .none
      · exact h0
      · have := hm.lt x h0
        omega
  have hlv' : ∀ p ∈ l, ∃ r, get (kill s.regs O) p.1 = some r ∧ r.live = true ∧ r.iv = p.2 := fun p hp => by
    obtain ⟨r, h1, h2, h3⟩ := hlv p hp
    exact ⟨r, by simp [get_kill, h1, hdl p hp], h2, h3⟩
  let s2 : S := { s with regs := kill s.regs O, boxes := mapB s.boxes f1 }
  have hln : LnIs g2 s2.regs I' (lnOf (pack l)) := lnOf_is (g := g) (s := s) (w := w) (w' := w') (I := I') (s' := s2) hlv' himm
  -- boxes told anew
  let f2 : Nat → Box → Box := fun b x => match get ups b with | some c => { x with cells := c } | none => x
  obtain ⟨st3, hm3⟩ := hm2.retell f2 (fun b x => by simp only [f2]; split <;> rfl) (fun b x hb => by
    simp only [get_mapB] at hb
    cases hy : get s.boxes b with
    | none => rw [hy] at hb; cases hb
    | some y =>
      rw [hy] at hb
      simp only [Option.map_some, Option.some.injEq] at hb
      subst hb
      cases hup : get ups b with
      | none =>
        have e1 : f1 b y = y := by simp only [f1, hup]
        have e2 : f2 b y = y := by simp only [f2, hup]
        have hb1 : get (mapB s.boxes f1) b = some y := by simp [get_mapB, hy, e1]
        rw [e1, e2]
        exact hm2.boxes b y hb1
      | some xs2 =>
        obtain ⟨y', cs, h1, h2, h3, h4⟩ := hu1 b xs2 hup
        rw [hy] at h1
        cases h1
        have e2 : (f2 b (f1 b y)).cells = xs2 := by simp only [f2, hup]
        rw [e2]
        obtain ⟨q1, q2⟩ := lXs_ok (w := w') hln h4
        refine hcells b y cs hy h2 h3 _ _ _ rfl ?_ (by rw [q1, h2]) fun j x hj u c hc hu hrd => ?_
        · have h5 := (release_box g O (g.loc b).1 b).2 (hm.boxes b y hy).1
          show ((g.release O).share I').ow (g.loc b).1 = .box b
          rw [share_ne (by rw [h5]; simp)]
          exact h5
        · obtain ⟨c', hc', ho⟩ := q2 j x hj
          rw [hc] at hc'
          cases hc'
          exact ho u hrd)
  have hst123 := hst12.trans st3
  -- the results
  let s3 : S := { s2 with boxes := mapB s2.boxes f2 }
  have hgn : ∀ k j x, G' k j x → g2.ow x = .none ∧ x < w'.heap.size ∧ (A x ∨ w0.heap.size ≤ x) := fun k j x hx => by
    obtain ⟨h1, h2, h3⟩ := hG k j x hx
    refine ⟨share_none ((release_none g O x).2 ?_) h3, h1, ?_⟩
    · rcases h2 with h | h
      · obtain ⟨c, hc, e⟩ := haO x h
        exact .inr ⟨c, e, memb_mem.2 hc⟩
      · refine .inl ?_
        by_cases h0 : g.ow x = .none
        · exact h0
        · have := hm.lt x h0
          omega
    · rcases h2 with h | h
      · exact hA x h
      · exact .inr (Nat.le_trans hm.ext.size h)
  have hln0 : lnOf (pack l) = some none → ∀ x, I' x → g2.I x := fun e x hx => by
    rcases himm x hx with h | ⟨p, hp, h⟩
    · exact h
    · have hq := (pack_mem l).2 p hp
      cases hpl : pack l with
      | nil => rw [hpl] at hq; obtain ⟨q, hq, _⟩ := hq; cases hq
      | cons p r =>
        rw [hpl] at e
        cases r with
        | nil => cases e
        | cons _ _ => cases e
  obtain ⟨g4, st4, hm4, hpl, hps⟩ := resEs_ok (s := s3) (fun k => us.getD k undef) G' hm3 hln hln0 (fun k r hk => by
    obtain ⟨u, hu, hv⟩ := hRv k r hk
    have : us.getD k undef = u := by simp [Array.getD_eq_getD_getElem?, hu]
    rw [this]
    exact hv) hgn hGd hres
  have hstF := hst123.trans st4
  have hbx : mapB s2.boxes f2 = mapB s.boxes (fun b x => match get ups b with | some c => { x with cells := c } | none => x) := by
    show mapB (mapB s.boxes f1) f2 = _
    rw [mapB_mapB]
    congr 1
    funext b x
    simp only [f1, f2]
    split <;> rfl
  let sF : S := { s with regs := regs', boxes := mapB s.boxes fun b x => match get ups b with | some c => { x with cells := c } | none => x }
  have hsF : ({ s3 with regs := regs' } : S) = sF := by
    show ({ slots := s.slots, boxes := mapB s2.boxes f2, regs := regs' } : S) = _
    rw [hbx]
  rw [hsF] at hm4 hstF
  have hslots := hs.step (S' := sF) hstF rfl
  have hev : EOk w' g4 sF.boxes sF.regs v (oneE ps) := by
    obtain ⟨r1, r2⟩ := hRet
    have hus : ps.length = us.size := by rw [hpl, r1]
    unfold oneE
    split
    · rename_i p
      have h1 : us.size = 1 := by rw [← hus]; rfl
      rw [dif_pos h1] at r2
      have := hps 0 p rfl
      have e : us.getD 0 undef = us[0] := by simp [Array.getD_eq_getD_getElem?, h1]
      rw [e, ← r2] at this
      exact this
    · rename_i h1
      have h1' : us.size ≠ 1 := fun h => by
        rw [h] at hus
        obtain ⟨p, hp⟩ : ∃ p, ps = [p] := by
          cases ps with
          | nil => simp at hus
          | cons p r =>
            have : r = [] := by simpa using hus
            exact ⟨p, by rw [this]⟩
        exact h1 p hp
      rw [dif_neg h1'] at r2
      refine ⟨us, r2, hus.symm, fun k p hk => ⟨us.getD k undef, ?_, hps k p hk⟩⟩
      have : k < us.size := by rw [← hus]; exact (List.getElem?_eq_some_iff.1 hk).1
      simp [this]
  split at hret
  · rename_i d hd
    rw [hd]
    unfold putK at hret
    rw [hd] at hret
    simp only at hret
    split at hret
    · rename_i hlt
      refine hn { sF with slots := put sF.slots d (oneE ps) } _ _ ⟨?_, ?_, g4, ⟨hm4.ext, hm4.lt, hm4.fr, hm4.regs, hm4.boxes, hm4.im, hm4.pl⟩, hslots.put hsz hlt hev⟩ hret
      · simp [Act.put, hdf]
      · simp [Act.put, hsz]
    · exact hret.elim
  · rename_i hd
    rw [hd]
    exact hn _ _ _ ⟨hdf, hsz, g4, hm4, hslots⟩ hret


theorem call_core {o : Oper} {f : Nat} {ms : List Mode} {es : List (Option E)} {vs : List Value} {s : S} {a : Act} {w : World} {g : G} {k : S → Prop} {next : Act → World → Prop} {Q : Exit → Act → World → Prop} (hdf : a.defers = []) (hsz : a.tmps.size = nt) (hm : Mem w0 A B g s w) (hs : SlotsOk g s nt a w) (hE : EsOk w g s es vs)
    (hrun : ∀ fn c, P.funcs[f]? = some fn → (fn.name == "runtime.NumGoroutine") = false → fn.body = some c → (execOp a.eval o).run P w = .ok (.enter f vs.toArray) w)
    (hW : callE P nt o f ms es s k) (hn : ∀ s' a' w', Real w0 A B nt s' a' w' → k s' → next a' w') : o.wp P a w next Q := by
  obtain ⟨l, O, Bx, as, Fs, hW, hlv, hargs, hwho, hap, haO, hbB, hbOf, houts⟩ := args_ok hm hE hW
  split at hW
  case h_2 => exact hW.elim
  rename_i hdO
  split at hW
  case h_2 => exact hW.elim
  rename_i hdB
  split at hW
  case h_2 => exact hW.elim
  rename_i hdl
  have hdl := apartL_spec hdl
  rw [FnV_eq] at hW
  obtain ⟨⟨fn, c, hf1, hf2, hf3⟩, hW⟩ := hW
  unfold Oper.wp
  rw [hrun fn c hf1 hf2 hf3]
  have hcall := hW w (IL g l) Fs vs (hargs _ fun _ h => h) (hap hdO hdB) (fun F hF x hx => by
    rcases hwho F hF x hx with ⟨c, hc, e⟩ | ⟨b, hb, e, _⟩
    · refine ⟨?_, hm.lt x (by rw [e]; simp)⟩
      rintro (h | ⟨p, hp, h⟩)
      · rw [e] at h; cases h
      · rw [e] at h
        cases h
        have := hdl p hp
        rw [memb_mem.2 hc] at this
        cases this
    · refine ⟨?_, hm.lt x (by rw [e]; simp)⟩
      rintro (h | ⟨p, hp, h⟩)
      · rw [e] at h; cases h
      · rw [e] at h; cases h) (fun x hx => hm.lt x (by rcases hx with h | ⟨p, _, h⟩ <;> rw [h] <;> simp))
  show Calls P f vs.toArray w _
  refine hcall.mono ?_
  rintro e w' ⟨v, rs, outs, rfl, hret, hback⟩
  show next (a.put o.dst v) w'
  obtain ⟨hex, us, I', G', hRet, hRv, hOuts, hI', hG, hGd⟩ := hback
  have hbo := houts w' I' outs hOuts
  unfold retWB at hret
  split at hret
  · rename_i csB hbox
    exact box_back hdf hsz hm hs hlv haO hbOf hn hex hRet hRv hI' hG hbox hret
  have hI2 : ∀ x, I' x → x < w'.heap.size ∧ (IL g l x ∨ (∃ c ∈ O, g.ow x = .reg c) ∨ w.heap.size ≤ x) := fun x hx => ⟨(hI' x hx).1, (hI' x hx).2.imp id (Or.imp (haO x) id)⟩
  have main : retW nt o l O Bx rs outs s k → next (a.put o.dst v) w' := fun hret => ret_back hdf hsz hm hs hlv hdl hbB haO hbOf hn hex hRet hRv hI2 hG hGd hbo hret
  have given : retW nt o [] (O ++ l.map (·.1)) Bx rs outs s k → next (a.put o.dst v) w' := fun hret => by
    refine ret_back (l := []) (O := O ++ l.map (·.1)) hdf hsz hm hs (fun p hp => by cases hp) (fun p hp => by cases hp) hbB (fun y hy => ?_) hbOf hn hex hRet hRv (fun x hx => ⟨(hI' x hx).1, ?_⟩) hG hGd hbo hret
    · obtain ⟨h, hh, e⟩ := haO y hy
      exact ⟨h, List.mem_append.2 (.inl hh), e⟩
    · rcases (hI2 x hx).2 with h | ⟨c, hc, e⟩ | h
      · rcases h with h | ⟨p, hp, h⟩
        · exact .inl (.inl h)
        · exact .inr (.inl ⟨p.1, List.mem_append.2 (.inr (List.mem_map_of_mem hp)), h⟩)
      · exact .inr (.inl ⟨c, List.mem_append.2 (.inl hc), e⟩)
      · exact .inr (.inr h)
  split at hret
  · exact main hret
  · split at hret
    · split at hret
      · exact main hret
      · exact given hret
    · exact given hret


theorem esOk_map {g : G} {s : S} {a : Act} {w : World} (hs : SlotsOk g s nt a w) : ∀ (xs : List Operand), EsOk w g s (xs.map s.ev) (xs.map a.eval)
  | [] => trivial
  | x :: xs => ⟨fun e he => ev_ok hs he, esOk_map hs xs⟩
theorem EsOk.snoc {w : World} {g : G} {s : S} {oe : Option E} {v : Value} (h : ∀ e, oe = some e → EOk w g s.boxes s.regs v e) : ∀ {es : List (Option E)} {vs : List Value}, EsOk w g s es vs → EsOk w g s (es ++ [oe]) (vs ++ [v])
  | [], [], _ => ⟨h, trivial⟩
  | _ :: _, _ :: _, h' => ⟨h'.1, EsOk.snoc h h'.2⟩
  | [], _ :: _, h' => h'.elim
  | _ :: _, [], h' => h'.elim

theorem call_sound (o : Oper) (f : Nat) (ms : List Mode) (xs : Array Operand) (ats : Array TypeId) (ho : o.op = .call { callee := .value (.func f), args := xs, argTypes := ats }) : Sound P w0 A B nt o (callW P nt o f ms xs.toList) := by
  intro s a w k next Q hr hW hn
  obtain ⟨hdf, hsz, g, hm, hs⟩ := hr
  refine call_core hdf hsz hm hs (esOk_map hs xs.toList) (fun fn c h1 h2 h3 => ?_) hW hn
  have hxs : (xs.toList.map a.eval).toArray = xs.map a.eval := by
    apply Array.ext'
    rw [Array.toList_map]
  rw [hxs]
  exact run_call_enter ho h1 h2 h3

theorem run_callv_enter {P : Program} {a : Act} {w : World} {o : Oper} {t : Nat} {f : FuncId} {fn : Func} {c : Code} {args : Array Operand} {ats : Array TypeId} {cap : Array Value} (hop : o.op = .call { callee := .value (.tmp t), args, argTypes := ats })
    (hv : a.eval (.tmp t) = .func (.func f) #[] cap) (hf : P.funcs[f]? = some fn) (hname : (fn.name == "runtime.NumGoroutine") = false) (hb : fn.body = some c) : (execOp a.eval o).run P w = .ok (.enter f (args.map a.eval ++ cap)) w := by
  have h1 : ¬ fn.name = "runtime.NumGoroutine" := by simpa using hname
  unfold execOp
  simp [hop, resolve, hv, Deferred.ofValue, invoke, callFunc, hf, h1, hb]

theorem callv_sound (o : Oper) (md : Nat → List Mode) (t : Nat) (xs : Array Operand) (ats : Array TypeId) (ho : o.op = .call { callee := .value (.tmp t), args := xs, argTypes := ats }) : Sound P w0 A B nt o (callVW P nt o md t xs.toList) := by
  intro s a w k next Q hr hW hn
  obtain ⟨hdf, hsz, g, hm, hs⟩ := hr
  have hxs : (xs.toList.map a.eval).toArray = xs.map a.eval := by
    apply Array.ext'
    rw [Array.toList_map]
  unfold callVW at hW
  split at hW
  · rename_i f b gn he
    split at hW
    · rename_i cells hb
      obtain ⟨x, h1, h2, h3⟩ := (hs t _ he).2
      obtain ⟨x', h4, h5, _⟩ := boxAt_some hb
      rw [h1] at h4
      cases h4
      have hv : a.eval (.tmp t) = ptV (some f) (g.loc b).1 (g.loc b).2 := h3 h5.symm
      refine call_core (vs := xs.toList.map a.eval ++ [.pointer (some ⟨(g.loc b).1, (g.loc b).2, none⟩)]) hdf hsz hm hs ((esOk_map hs xs.toList).snoc fun e e1 => ?_) (fun fn c q1 q2 q3 => ?_) hW hn
      · cases e1
        exact ⟨x, h1, h2, fun e => by simp⟩
      · rw [run_callv_enter ho hv q1 q2 q3, ← hxs]
        simp
    · exact hW.elim
  · rename_i f he
    obtain ⟨y, e1, e2⟩ := (hs t _ he).2
    cases e1
    have hv : a.eval (.tmp t) = .func (.func f) #[] #[] := e2
    refine call_core hdf hsz hm hs (esOk_map hs xs.toList) (fun fn c q1 q2 q3 => ?_) hW hn
    rw [hxs, run_callv_enter ho hv q1 q2 q3]
    simp
  · exact hW.elim

theorem makeFunc_sound (o : Oper) (fn : Fn) (first captured : Array Operand) (ho : o.op = .makeFunc fn first captured) : Sound P w0 A B nt o (makeFuncW nt o fn first captured) := by
  intro s a w k next Q hr hW hn
  obtain ⟨hdf, hsz, g, hm, hs⟩ := hr
  unfold makeFuncW at hW
  split at hW
  · rename_i f x
    split at hW
    · rename_i b gn he
      obtain ⟨y, h1, h2, h3⟩ := ev_ok hs he
      refine finish hdf hsz hs (Step.refl g s w) hm rfl (v := .func (.func f) #[] #[a.eval x]) ?_ (e := .clo f b gn) ⟨y, h1, h2, fun e => ?_⟩ hW hn
      · simp [execOp, ho, Instr.makeFunc]
      · rw [h3 e]
        rfl
    · exact hW.elim
  · rename_i f
    refine finish hdf hsz hs (Step.refl g s w) hm rfl (v := .func (.func f) #[] #[]) ?_ (sc_ok _ _ _ _ _) hW hn
    simp [execOp, ho, Instr.makeFunc]
  · exact hW.elim

end
end Go.Proofs.Ytppfojiogappaaa.V
