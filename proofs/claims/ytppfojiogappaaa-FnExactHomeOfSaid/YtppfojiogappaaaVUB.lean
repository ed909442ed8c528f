/- Which operations of a drawn region may come next: twins over lists of the model's own words, which unfold by themselves. -/
import Derived.Test.YtppfojiogappaaaVU
import Derived.Orders
set_option linter.unusedVariables false
set_option linter.unusedSimpArgs false
namespace Go.Proofs.Ytppfojiogappaaa.V
open Go Classical

def noSelL : List Oper → Bool
  | [] => true
  | o :: r => match o.op with
    | .select _ _ => false
    | _ => noSelL r
theorem noSelL_ok {ops : Array Oper} (h : noSelL ops.toList = true) : Region.noSelect ops = true := by
  unfold Region.noSelect
  rw [Array.all_eq_true_iff_forall_mem]
  intro o ho
  have key : ∀ l : List Oper, noSelL l = true → ∀ o ∈ l, (match o.op with | .select .. => false | _ => true) = true := by
    intro l
    induction l with
    | nil => intro _ o ho; cases ho
    | cons a r ih =>
      intro h o ho
      simp only [noSelL] at h
      split at h
      · cases h
      · rename_i hn
        cases ho with
        | head =>
          split
          · rename_i e
            exact absurd e (hn _ _)
          · rfl
        | tail _ ho => exact ih h o ho
  exact key _ h o (by simpa using ho)

def bindsL (e : Edge) : Bool :=
  match e.ground with
  | .textOnly _ => false
  | .gcOnly _ => false
  | _ => true
theorem bindsL_eq (e : Edge) : Region.binds .any e = bindsL e := by
  unfold Region.binds bindsL
  cases e.ground <;> rfl

def edgesL (done : List Nat) : List Edge → Bool
  | [] => true
  | e :: r => match bindsL e with
    | true => (match memb done e.on with
      | true => edgesL done r
      | false => false)
    | false => edgesL done r

def readyL (done : List Nat) : Nat → List Oper → List Nat
  | _, [] => []
  | i, o :: r => match memb done i with
    | true => readyL done (i + 1) r
    | false => (match edgesL done o.after.toList with
      | true => i :: readyL done (i + 1) r
      | false => readyL done (i + 1) r)

/-- The marks of what has come, and the list of it. -/
structure LD (ops : Array Oper) (listed : Array Bool) (done : List Nat) : Prop where
  size : listed.size = ops.size
  at_ : ∀ i, i < ops.size → listed[i]? = some (memb done i)
  lt : ∀ i ∈ done, i < ops.size

theorem LD.start (ops : Array Oper) : LD ops (Array.replicate ops.size false) [] :=
  ⟨by simp, fun i hi => by simp [hi, memb], fun i hi => (by cases hi)⟩

theorem LD.put {ops : Array Oper} {listed : Array Bool} {done : List Nat} (h : LD ops listed done) {i : Nat} (hi : i < ops.size) : LD ops (listed.setIfInBounds i true) (i :: done) := by
  refine ⟨by simp [h.size], fun j hj => ?_, fun j hj => ?_⟩
  · rw [Array.getElem?_setIfInBounds]
    by_cases hij : i = j
    · subst hij
      simp [h.size, hi, memb]
    · simp [hij, h.at_ j hj, memb]
  · cases hj with
    | head => exact hi
    | tail _ hj => exact h.lt j hj

theorem LD.getT {ops : Array Oper} {listed : Array Bool} {done : List Nat} (h : LD ops listed done) {i : Nat} (hi : i < ops.size) : listed.getD i true = memb done i := by
  simp [Array.getD_eq_getD_getElem?, h.at_ i hi]
theorem LD.getF {ops : Array Oper} {listed : Array Bool} {done : List Nat} (h : LD ops listed done) (i : Nat) : listed.getD i false = memb done i := by
  by_cases hi : i < ops.size
  · simp [Array.getD_eq_getD_getElem?, h.at_ i hi]
  · have h1 : listed[i]? = Option.none := by
      rw [Array.getElem?_eq_none_iff, h.size]
      omega
    have h2 : memb done i = false := by
      cases hm : memb done i with
      | false => rfl
      | true => exact absurd (h.lt i (memb_mem.1 hm)) hi
    simp [Array.getD_eq_getD_getElem?, h1, h2]

theorem edgesL_eq {ops : Array Oper} {listed : Array Bool} {done : List Nat} (h : LD ops listed done) (es : Array Edge) : (es.all fun e => !Region.binds .any e || listed.getD e.on false) = edgesL done es.toList := by
  rw [← Array.all_toList]
  induction es.toList with
  | nil => rfl
  | cons e r ih =>
    simp only [List.all_cons, edgesL]
    rw [ih, bindsL_eq, h.getF]
    cases bindsL e <;> cases memb done e.on <;> simp

theorem ready_eq {ops : Array Oper} {listed : Array Bool} {done : List Nat} (h : LD ops listed done) : Region.ready .any ops listed = readyL done 0 ops.toList := by
  unfold Region.ready
  rw [List.range_eq_range']
  have key : ∀ (l : List Oper) (i : Nat), ops.toList.drop i = l → ((List.range' i l.length).filter fun i => !listed.getD i true && ((ops[i]?).map (·.after.all fun e => !Region.binds .any e || listed.getD e.on false)).getD false) = readyL done i l := by
    intro l
    induction l with
    | nil => intro i _; rfl
    | cons o r ih =>
      intro i hd
      have ho : ops[i]? = some o := by
        have : (ops.toList.drop i)[0]? = some o := by rw [hd]; rfl
        simpa using this
      have hlt : i < ops.size := (Array.getElem?_eq_some_iff.1 ho).1
      have hd' : ops.toList.drop (i + 1) = r := by
        rw [← List.drop_drop, hd]
        rfl
      show List.filter _ (i :: List.range' (i + 1) r.length) = _
      rw [List.filter_cons, ih (i + 1) hd']
      simp only [readyL, ho, Option.map_some, Option.getD_some, edgesL_eq h, h.getT hlt]
      cases memb done i <;> cases edgesL done o.after.toList <;> simp
  have := key ops.toList 0 rfl
  simpa using this

def opsL (op : Op) : List Operand :=
  match op with
  | .call ⟨.value f, xs, _⟩ => f :: xs.toList
  | .call ⟨.builtin _, xs, _⟩ => xs.toList
  | .move x => [x]
  | .assign x => [x]
  | .load _ x => [x]
  | .nilCheck x => [x]
  | .unOp _ _ x => [x]
  | .convert _ _ x => [x]
  | .fieldAddr _ x _ => [x]
  | .field _ x _ => [x]
  | .extract x _ => [x]
  | .pick c a b => [c, a, b]
  | .store _ a v => [a, v]
  | .binOp _ _ a v _ => [a, v]
  | .indexAddr _ a v => [a, v]
  | .index _ a v => [a, v]
  | op => op.operands.toList
theorem opsL_eq (op : Op) : op.operands.toList = opsL op := by
  cases op <;> try rfl
  rename_i c
  obtain ⟨callee, xs, ts⟩ := c
  cases callee <;> simp [opsL, Op.operands, Call.operands]

def tmpsL : List Operand → List Nat
  | [] => []
  | .tmp t :: r => t :: tmpsL r
  | _ :: r => tmpsL r
theorem tmpsL_eq (l : List Operand) : (l.filterMap fun | .tmp t => some t | _ => none) = tmpsL l := by
  induction l with
  | nil => rfl
  | cons x r ih => cases x <;> simp [tmpsL, ih]

def looksL (ops : Array Oper) (o : Oper) : List Nat :=
  match o.guard with
  | none => tmpsL (opsL o.op)
  | some (g, _) => (match ops[g]? with
    | some og => (match og.dst with
      | some t => tmpsL (opsL o.op) ++ [t]
      | none => tmpsL (opsL o.op))
    | none => tmpsL (opsL o.op))
theorem looksL_eq (ops : Array Oper) (o : Oper) : o.looksAt ops = looksL ops o := by
  unfold Oper.looksAt looksL
  rw [opsL_eq]
  have := tmpsL_eq (opsL o.op)
  cases hg : o.guard with
  | none => simp only [List.append_nil]; exact this
  | some p =>
    obtain ⟨g, b⟩ := p
    simp only
    cases hog : ops[g]? with
    | none => simp only [Option.bind_none, Option.toList_none, List.append_nil]; exact this
    | some og =>
      cases hd : og.dst with
      | none => simp only [Option.bind_some, hd, Option.toList_none, List.append_nil]; exact this
      | some t => simp only [Option.bind_some, hd, Option.toList_some]; exact congrArg (· ++ [t]) this

def apartO (ops : Array Oper) (x y : Oper) : Bool :=
  (match x.dst with
  | some d => (match memb (looksL ops y) d with
    | true => false
    | false => (match y.dst with
      | some d' => if d' = d then false else true
      | none => true))
  | none => true) &&
  (match y.dst with
  | some d => (match memb (looksL ops x) d with
    | true => false
    | false => true)
  | none => true)

theorem contains_memb (l : List Nat) (d : Nat) : l.contains d = memb l d := by
  cases h : memb l d with
  | true => simpa using memb_mem.1 h
  | false =>
    have : ¬ d ∈ l := fun hx => by rw [memb_mem.2 hx] at h; cases h
    simpa using this

theorem apartO_eq (ops : Array Oper) (x y : Oper) : x.apart ops y = apartO ops x y := by
  unfold Oper.apart apartO
  simp only [looksL_eq, contains_memb]
  congr 1
  · cases x.dst with
    | none => rfl
    | some d =>
      simp only
      cases memb (looksL ops y) d with
      | true => rfl
      | false =>
        cases hy : y.dst with
        | none => rfl
        | some d' =>
          by_cases h : d' = d <;> simp [h]

def hasEdge (i : Nat) : List Edge → Bool
  | [] => false
  | e :: r => match bindsL e with
    | true => if e.on = i then true else hasEdge i r
    | false => hasEdge i r

theorem hasEdge_eq (i : Nat) (es : Array Edge) : es.any (fun e => Region.binds .any e && e.on == i) = hasEdge i es.toList := by
  rw [← Array.any_toList]
  induction es.toList with
  | nil => rfl
  | cons e r ih =>
    simp only [List.any_cons, hasEdge]
    rw [ih, bindsL_eq]
    cases bindsL e
    · simp
    · by_cases h : e.on = i <;> simp [h]

def freeL (ops : Array Oper) (done : List Nat) (i : Nat) (oi : Oper) : Nat → List Oper → Bool
  | _, [] => true
  | j, oj :: r => (if j = i then freeL ops done i oi (j + 1) r else match memb done j with
    | true => freeL ops done i oi (j + 1) r
    | false => (match hasEdge i oj.after.toList with
      | true => freeL ops done i oi (j + 1) r
      | false => (match apartO ops oi oj with
        | true => freeL ops done i oi (j + 1) r
        | false => false)))

theorem free_eq {ops : Array Oper} {listed : Array Bool} {done : List Nat} (h : LD ops listed done) {i : Nat} {oi : Oper} (hi : ops[i]? = some oi) : Region.free .any ops listed i = freeL ops done i oi 0 ops.toList := by
  unfold Region.free
  simp only [hi]
  rw [List.range_eq_range']
  have key : ∀ (l : List Oper) (j : Nat), ops.toList.drop j = l → ((List.range' j l.length).all fun j => j == i || listed.getD j true || match ops[j]? with
      | some oj => oj.after.any (fun e => Region.binds .any e && e.on == i) || oi.apart ops oj
      | none => true) = freeL ops done i oi j l := by
    intro l
    induction l with
    | nil => intro j _; rfl
    | cons o r ih =>
      intro j hd
      have ho : ops[j]? = some o := by
        have : (ops.toList.drop j)[0]? = some o := by rw [hd]; rfl
        simpa using this
      have hlt : j < ops.size := (Array.getElem?_eq_some_iff.1 ho).1
      have hd' : ops.toList.drop (j + 1) = r := by
        rw [← List.drop_drop, hd]
        rfl
      show List.all (j :: List.range' (j + 1) r.length) _ = _
      rw [List.all_cons, ih (j + 1) hd']
      simp only [freeL, ho, hasEdge_eq, apartO_eq, h.getT hlt]
      by_cases hji : j = i
      · simp [hji]
      · simp only [hji, if_false, beq_iff_eq, Bool.false_or, beq_eq_false_iff_ne.2 hji]
        cases memb done j <;> cases hasEdge i o.after.toList <;> cases apartO ops oi o <;> simp
  exact key ops.toList 0 rfl

end Go.Proofs.Ytppfojiogappaaa.V
