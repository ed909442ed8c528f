/- Conversions; the lesser and the greater of two numbers. -/
import Derived.Test.YtppfojiogappaaaVP
set_option linter.unusedVariables false
set_option linter.unusedSimpArgs false
namespace Go.Proofs.Ytppfojiogappaaa.V
open Go Classical

def convW (τ : Nat → Option TD) (nt : Nat) (o : Oper) (src dst : Nat) (x : Operand) (s : S) (k : S → Prop) : Prop :=
  match s.ev x, τ src, τ dst with
  | some (.vals false [.sc (.int _ n)]), some { kind := .int _, .. }, some { kind := .int q, .. } => putK nt o s (.vals false [.sc (.int q (wrp q n))]) k
  | some (.vals false [.sc (.int _ n)]), some { kind := .int _, .. }, some { kind := .str, .. } => putK nt o s (.vals false [.sc (.string (runeStr n))]) k
  | some (.vals false [.sc (.string b)]), some { kind := .str, .. }, some { kind := .str, .. } => putK nt o s (.vals false [.sc (.string b)]) k
  | some (.vals false [.sc (.string b)]), some { kind := .str, .. }, some { kind := .slice e, .. } => (match τ e with
    | some { kind := .int .u8, size := 1, .. } => b.size ≤ 9223372036854775807 ∧ layK nt o s [] true 1 (bytesOf b) k
    | _ => False)
  | some (.vals false [y]), some { kind := .slice e, .. }, some { kind := .str, .. } => (match τ e with
    | some { kind := .int .u8, size := 1, .. } => withC s y fun _ es => ∃ xs : List Int, es = xs.map (fun v => [C.sc (.int .u8 v)]) ∧ putK nt o s (.vals false [.sc (.string (strOfNums xs))]) k
    | _ => False)
  | _, _, _ => False

@[irreducible] noncomputable def minI (x : Int) (y : Int) : Int := (hid (fun (x : Int) (y : Int) => (if y < x then y else x : Int))).1 x y
theorem minI_eq (x : Int) (y : Int) : minI x y = (if y < x then y else x) := by
  unfold minI
  rw [(hid _).2]
@[irreducible] noncomputable def maxI (x : Int) (y : Int) : Int := (hid (fun (x : Int) (y : Int) => (if x < y then y else x : Int))).1 x y
theorem maxI_eq (x : Int) (y : Int) : maxI x y = (if x < y then y else x) := by
  unfold maxI
  rw [(hid _).2]

def minW (nt : Nat) (o : Oper) (big : Bool) (x y : Operand) (s : S) (k : S → Prop) : Prop :=
  match s.ev x, s.ev y with
  | some (.vals false [.sc (.int q n)]), some (.vals false [.sc (.int _ m)]) => putK nt o s (.vals false [.sc (.int q (if big then maxI n m else minI n m))]) k
  | _, _ => False

section
variable {P : Program} {w0 : World} {A : AA} {B : List (Nat × Nat × Nat)} {nt : Nat} {τ : Nat → Option TD}

theorem conv_sound (hτ : ∀ t d, τ t = some d → TyOk P t d) (o : Oper) (src dst : Nat) (x : Operand) (ho : o.op = .convert src dst x) : Sound P w0 A B nt o (convW τ nt o src dst x) := by
  intro s a w k next Q hr hW hn
  obtain ⟨hdf, hsz, g, hm, hs⟩ := hr
  unfold convW at hW
  split at hW
  · rename_i q0 n _ _ _ _ q _ _ _ hx h1 h2
    have hv : a.eval x = .int q0 n := by obtain ⟨y, e1, e2⟩ := ev_ok hs hx; cases e1; exact e2
    have hu1 : P.underlying src = some (.int _) := (hτ _ _ h1).kind
    have hu2 : P.underlying dst = some (.int q) := (hτ _ _ h2).kind
    refine finish hdf hsz hs (Step.refl g s w) hm rfl ?_ (sc_ok _ _ _ _ _) hW hn
    simp [execOp, ho, hv, convert, run_underlying hu1, run_underlying hu2, Conv.intToInt, wrp_eq]
  · rename_i q0 n _ _ _ _ _ _ _ hx h1 h2
    have hv : a.eval x = .int q0 n := by obtain ⟨y, e1, e2⟩ := ev_ok hs hx; cases e1; exact e2
    have hu1 : P.underlying src = some (.int _) := (hτ _ _ h1).kind
    have hu2 : P.underlying dst = some .string := (hτ _ _ h2).kind
    refine finish hdf hsz hs (Step.refl g s w) hm rfl ?_ (sc_ok _ _ _ _ _) hW hn
    simp [execOp, ho, hv, convert, run_underlying hu1, run_underlying hu2, Conv.intToString, runeStr_eq]
  · rename_i b _ _ _ _ _ _ hx h1 h2
    have hv : a.eval x = .string b := by obtain ⟨y, e1, e2⟩ := ev_ok hs hx; cases e1; exact e2
    have hu1 : P.underlying src = some .string := (hτ _ _ h1).kind
    have hu2 : P.underlying dst = some .string := (hτ _ _ h2).kind
    refine finish hdf hsz hs (Step.refl g s w) hm rfl ?_ (sc_ok _ _ _ _ _) hW hn
    simp [execOp, ho, hv, convert, run_underlying hu1, run_underlying hu2]
  · rename_i b _ _ _ e _ _ _ hx h1 h2
    have hv : a.eval x = .string b := by obtain ⟨y, e1, e2⟩ := ev_ok hs hx; cases e1; exact e2
    have hu1 : P.underlying src = some .string := (hτ _ _ h1).kind
    have hu2 : P.underlying dst = some (.slice e) := (hτ _ _ h2).kind
    split at hW
    · rename_i _ _ he
      have hue : P.underlying e = some (.int .u8) := (hτ _ _ he).kind
      obtain ⟨hb, hK⟩ := hW
      have hrun := Lib.run_convert_string_bytes (P := P) w src dst e b hu1 hu2 hue
      have hge := grownCap_ge w b.size 0 e
      have hcm : grownCap w b.size 0 e ≤ maxLen := grownCap_le_maxLen w _ 0 e (by simp only [maxLen]; omega)
      have hcs : (Lib.bytesCells w e b).size = grownCap w b.size 0 e := by simp [Lib.bytesCells]; omega
      have hold : ∀ y, y < w.heap.size → (Lib.bytesWorld w e b).heap[y]? = w.heap[y]? := fun y hy => Lib.bytesWorld_at_old w e b y hy
      refine lay (P := P) hdf hsz hs hm [] ?_ (by rw [Lib.bytesWorld_size]; omega) (fun y hy _ => hold y hy) (fun y => y = w.heap.size) (fun y hy => by subst hy; exact ⟨.inr (Nat.le_refl _), by rw [Lib.bytesWorld_size]; omega⟩) true 1 _
        (v := .slice (some ⟨w.heap.size, 0, none⟩) b.size (grownCap w b.size 0 e)) ?_ ?_ hK hn
      · have hx : (Lib.bytesWorld w e b).os = w.os ∧ (Lib.bytesWorld w e b).tape = w.tape ∧ (Lib.bytesWorld w e b).output = w.output := by
          simp [Lib.bytesWorld, World.freeze, World.alloc, World.drew, -World.alloc_eq, -World.drew_eq]
        exact hm.ext.same hx.1 hx.2.1 hx.2.2 (by rw [Lib.bytesWorld_size]; omega) fun y hy _ => hold y (Nat.lt_of_lt_of_le hy hm.ext.size)
      · refine Own.fresh (fun i _ => .int .u8 ((b.data.toList.getD i 0).toNat : Int)) (fun _ _ _ => False) _ (Lib.bytesWorld_at_new w e b) (fun k hk h => by omega) (by rw [hcs]; omega) (by omega) (by simp [bytesOf]) hge hcm
          (fun i r hr => ?_) (fun i j hi hj => ?_) (fun i j _ _ => rfl) rfl (fun _ _ _ h => h.elim) (fun _ _ _ _ _ h => h.elim) (fun i j r c hr hj => ?_)
        · have hr' := (List.getElem?_eq_some_iff.1 hr).2
          simp [bytesOf] at hr'
          rw [← hr']
          rfl
        · have hj0 : j = 0 := by omega
          subst hj0
          simp only [Lib.bytesCells, Nat.mul_one, Nat.add_zero]
          rw [Array.getElem?_append_left (by simpa using hi)]
          have hi' : i < b.data.size := hi
          simp [List.getD, hi']
          have e0 : b.data[i]? = some b.data[i] := Array.getElem?_eq_getElem hi'
          rw [e0]
          exact ⟨_, rfl, rfl⟩
        · simp only [bytesOf, List.getElem?_map] at hr
          cases hq : b.data.toList[i]? with
          | none => rw [hq] at hr; cases hr
          | some q =>
            rw [hq] at hr
            cases hr
            cases j with
            | zero =>
              cases hj
              have : (b.data.toList.getD i 0) = q := by simp only [List.getD, hq]; rfl
              rw [this]
              exact .sc _ _
            | succ j => simp at hj
      · simp only [execOp, ho, hv, Sem.run_bind, hrun, Result.andThen_ok, Sem.run_pure]
    · exact hW.elim
  · rename_i y e _ _ _ _ _ _ hx h1 h2
    obtain ⟨y', e1, hvx⟩ := ev_ok hs hx
    cases e1
    have hu1 : P.underlying src = some (.slice e) := (hτ _ _ h1).kind
    have hu2 : P.underlying dst = some .string := (hτ _ _ h2).kind
    split at hW
    · rename_i _ _ he
      have hue : P.underlying e = some (.int .u8) := (hτ _ _ he).kind
      obtain ⟨m, es, hR, xs, hes, hK⟩ := withC_rd hm hvx hW
      subst hes
      refine finish hdf hsz hs (Step.refl g s w) hm rfl (v := .string (strOfNums xs)) ?_ (sc_ok _ _ _ _ _) hK hn
      have hrun : (convert src dst (a.eval x)).run P w = .ok (.string (strOfNums xs)) w := by
        generalize a.eval x = u at hR
        cases xs with
        | nil =>
          obtain ⟨ad, cap, rfl⟩ := hR.form
          cases ad with
          | none => exact run_convert_bytes_nil w src e hu1 hue _ _ dst hu2
          | some ad =>
            have hl : (loadCells ad 0).run P w = .ok #[] w := by simp [loadCells, loadCellsFrom]
            rw [run_convert_bytes_string w src dst e (some ad) _ cap hu1 hue hu2]
            simp [Conv.bytesToString, hl, strOfNums]
            rfl
        | cons x0 rs =>
          obtain ⟨b, o', cap, rfl, _, hm1, _⟩ := hR.elem (i := 0) (r := [C.sc (.int .u8 x0)]) rfl
          have hm1' : m = 1 := by simpa using hm1.symm
          subst hm1'
          refine run_convert_bytes_arg w src e hu1 hue b o' _ cap (x0 :: rs) (by simp) (fun i hi => ?_) dst hu2
          have hi' : i < (x0 :: rs).length := by simpa using hi
          obtain ⟨b2, o2, cap2, q1, _, _, q4⟩ := hR.elem (i := i) (r := [C.sc (.int .u8 (x0 :: rs)[i])]) (by rw [List.getElem?_map, List.getElem?_eq_getElem hi']; rfl)
          cases q1
          obtain ⟨u, hu, _, hsc⟩ := q4 0 _ rfl
          rw [hsc.sc_inv] at hu
          simp only [Nat.mul_one, Nat.add_zero] at hu
          rw [hu]
          simp [List.getD, List.getElem?_eq_getElem hi']
      simp only [execOp, ho, Sem.run_bind, hrun, Result.andThen_ok, Sem.run_pure]
    · exact hW.elim
  · exact hW.elim

theorem min_sound (o : Oper) (x y : Operand) (ts : Array Nat) (ho : o.op = .call { callee := .builtin .min, args := #[x, y], argTypes := ts }) : Sound P w0 A B nt o (minW nt o false x y) := by
  intro s a w k next Q hr hW hn
  obtain ⟨hdf, hsz, g, hm, hs⟩ := hr
  unfold minW at hW
  split at hW
  · rename_i q n q' m h1 h2
    have hv1 : a.eval x = .int q n := by obtain ⟨y, e1, e2⟩ := ev_ok hs h1; cases e1; exact e2
    have hv2 : a.eval y = .int q' m := by obtain ⟨y, e1, e2⟩ := ev_ok hs h2; cases e1; exact e2
    refine finish hdf hsz hs (Step.refl g s w) hm rfl ?_ (sc_ok _ _ _ _ _) hW hn
    simp [execOp, ho, resolve, invoke, builtin, hv1, hv2, Builtin.min_, Builtin.min2, minI_eq]
  · exact hW.elim

end
end Go.Proofs.Ytppfojiogappaaa.V
