/- What the functions do that draw. -/
import Derived.Test.YtobmgdceengmiaaP7
set_option linter.unusedVariables false
set_option linter.unusedSimpArgs false
namespace Go.Proofs.Ytobmgdceengmiaa.V
open Go

theorem and255 (v : Int) : 0 ≤ bitsOf .and .i64 v 255 ∧ bitsOf .and .i64 v 255 ≤ 255 := by
  rw [bitsOf_eq]
  simp only [bits0]
  have h : (BitVec.ofInt IntKind.i64.bits v &&& BitVec.ofInt IntKind.i64.bits 255).toNat ≤ 255 := by
    rw [BitVec.toNat_and]
    refine Nat.le_trans Nat.and_le_right ?_
    decide
  have := @wrp_i64 ((BitVec.ofInt IntKind.i64.bits v &&& BitVec.ofInt IntKind.i64.bits 255).toNat : Int) (by omega) (by omega)
  rw [wrp_eq] at this
  rw [this]
  omega

@[reducible] def cC (zs : List Int) (i h : Int) : List C := [.sl true 1 (bts zs), .sc (.int .i64 i), .sc (.int .i64 h)]
@[reducible] def cV (zs : List Int) (i h : Int) : AV := .mptr (cC zs i h)
@[reducible] def ssC (ss : List ByteArray) : List (List C) := ss.map fun s => [.sc (.string s)]
@[reducible] def nsC (ns : List Int) : List (List C) := ns.map fun n => [.sc (.int .i64 n)]

def Md8 (f : Nat) : List Mode :=
  match f with
  | 9 => [.rd]
  | 10 => [.rd]
  | 14 => [.rd, .rd]
  | 15 => [.rd, .rd]
  | 18 => [.rd]
  | 19 => [.rd]
  | 20 => [.rd]
  | 21 => [.rd]
  | 22 => [.rd]
  | 23 => [.rd]
  | 40 => [.rd]
  | 41 => [.mptr, .rd]
  | 42 => [.mptr, .own]
  | 43 => [.mptr, .rd]
  | 44 => [.mptr, .rd]
  | 45 => [.mptr, .rd]
  | 51 => [.mptr]
  | 52 => [.mptr, .own]
  | _ => []
def En8 : Env := ⟨τ, Md8⟩

set_option maxRecDepth 100000 in
theorem f40_ok (zs : List Int) (hl : zs.length ≤ 1000000000) : FnV Try.prog 40 [bV zs] fun rs outs => ∃ h, rs = [⟨false, [.box (cC zs 0 h)]⟩] ∧ outs = [] := by
  refine fn_ok (E := En8) τ_ok mixed Try.func40 (by rfl) (by rfl) false (by simp [Try.f40]) ?_
  conv => whnf
  refine ⟨fun n s => ∃ (k h : Int), s = ⟨[(0, .vals false [.rd none 1 (bts zs)]), (3, .vals false [.sc (.int .i64 h)]), (4, .vals false [.sc (.int .i64 k)])], [], []⟩ ∧ n = zs.length - k.toNat ∧ 0 ≤ k ∧ k ≤ zs.length,
    ⟨_, _, norm_wk (keep := [0, 3, 4]) (kb := []) (ρ := []) rfl, ⟨0, _, rfl, rfl, by omega, by omega⟩⟩, ?_⟩
  rintro n _ ⟨k, h, rfl, rfl, hk0, hk1⟩
  conv => whnf
  refine br_if (fun h1 => ?_) (fun h1 => ?_) <;> (try rw [h1]) <;> (conv => whnf)
  · rw [ltI_t, bts_len] at h1
    refine br_if (fun h2 => ?_) (fun h2 => ?_) <;> (try rw [h2]) <;> (conv => whnf)
    · obtain ⟨d, hd⟩ : ∃ d, zs[k.toNat]? = some d := ⟨_, List.getElem?_eq_getElem (by omega)⟩
      refine ⟨by omega, _, bts_at hd, ?_⟩
      conv => whnf
      rw [wrp_i64 (x := k + 1) (by omega) (by omega)]
      exact ⟨zs.length - (k + 1).toNat, _, by omega, norm_wk (keep := [0, 3, 4]) (kb := []) (ρ := []) rfl, ⟨k + 1, _, rfl, rfl, by omega, by omega⟩⟩
    · exact ⟨_, rfl, rfl⟩
  · exact ⟨_, rfl, rfl⟩

set_option maxRecDepth 100000 in
theorem f51_ok (zs : List Int) (i h : Int) (hl : zs.length ≤ 1000000000) (h0 : 0 ≤ i) (h1 : i ≤ zs.length) :
    FnV Try.prog 51 [cV zs i h] fun rs outs => ∃ x i' h' : Int, 0 ≤ x ∧ x ≤ 255 ∧ 0 ≤ i' ∧ i' ≤ zs.length ∧ rs = [iR x] ∧ outs = [cC zs i' h'] := by
  refine fn_ok (E := En8) τ_ok mixed Try.func51 (by rfl) (by rfl) false (by simp [Try.f51]) ?_
  conv => whnf
  refine ⟨.take 0 (.take 1 (.take 2 (.take 5 (.take 6 (.take 7 (.early 3 (.take 4 (.or 8 (.take 9 (.take 10 (.take 11 (.take 12 .done)))) .nil)))))))), by rfl, ?_⟩
  apply Exists.intro
  refine ⟨?_, ?_⟩
  · conv => whnf
    refine ⟨by decide, ?_⟩
    conv => whnf
    refine ⟨rfl, ?_⟩
    conv => whnf
    refine ⟨by decide, ?_⟩
    conv => whnf
    exact norm_wk (keep := [0, 2, 3]) (kb := []) (ρ := []) rfl
  conv => whnf
  refine ⟨.take 0 (.take 1 (.take 2 (.take 4 (.take 5 (.take 6 (.early 3 (.or 7 (.or 8 (.take 9 .done) .nil) .nil))))))), by rfl, ?_⟩
  apply Exists.intro
  refine ⟨?_, ?_⟩
  · conv => whnf
    refine ⟨rfl, ?_⟩
    conv => whnf
    refine ⟨rfl, ?_⟩
    conv => whnf
    exact norm_wk (keep := [0, 2, 3, 34]) (kb := []) (ρ := []) rfl
  conv => whnf
  refine br_if (fun h1 => ?_) (fun h1 => ?_) <;> (try rw [h1]) <;> (conv => whnf)
  · rw [ltI_t, bts_len] at h1
    obtain ⟨d, hd⟩ : ∃ d, zs[i.toNat]? = some d := ⟨_, List.getElem?_eq_getElem (by omega)⟩
    refine ⟨.take 0 (.take 1 (.take 2 (.take 3 (.take 5 (.take 6 (.take 7 (.early 8 (.or 4 (.or 9 (.or 10 (.take 11 (.take 12 (.take 13 (.take 14 .done)))) .nil) .nil) .nil)))))))), by rfl, ?_⟩
    apply Exists.intro
    refine ⟨?_, ?_⟩
    · conv => whnf
      refine ⟨rfl, ?_⟩
      conv => whnf
      refine ⟨by omega, _, bts_at hd, ?_⟩
      conv => whnf
      refine ⟨rfl, ?_⟩
      conv => whnf
      refine ⟨rfl, ?_⟩
      conv => whnf
      exact norm_wk (keep := [0, 2, 3]) (kb := []) (ρ := []) rfl
    conv => whnf
    rw [wrp_i64 (x := i + 1) (by omega) (by omega)]
    exact ⟨_, i + 1, _, (and255 _).1, (and255 _).2, by omega, by omega, rfl, rfl⟩
  · exact ⟨_, _, _, (and255 _).1, (and255 _).2, h0, ‹i ≤ zs.length›, rfl, rfl⟩

def Below (n x : Int) : Prop := (0 < n → 0 ≤ x ∧ x < n) ∧ (n ≤ 0 → x = 0)

set_option maxRecDepth 100000 in
theorem f41_ok (zs : List Int) (i h n : Int) (hl : zs.length ≤ 1000000000) (h0 : 0 ≤ i) (h1 : i ≤ zs.length) :
    FnV Try.prog 41 [cV zs i h, iV n] fun rs outs => ∃ x i' h' : Int, Below n x ∧ 0 ≤ i' ∧ i' ≤ zs.length ∧ rs = [iR x] ∧ outs = [cC zs i' h'] := by
  refine fn_ok (E := En8) τ_ok mixed Try.func41 (by rfl) (by rfl) false (by simp [Try.f41]) ?_
  conv => whnf
  refine br_if (fun h2 => ?_) (fun h2 => ?_) <;> (try rw [h2]) <;> (conv => whnf)
  · rw [leI_t] at h2
    exact ⟨0, _, _, ⟨fun _ => by omega, fun _ => rfl⟩, h0, h1, rfl, rfl⟩
  rw [leI_f] at h2
  refine br_if (fun h3 => ?_) (fun h3 => ?_) <;> (try rw [h3]) <;> (conv => whnf)
  · refine (f51_ok zs i h hl h0 h1).mono ?_
    rintro _ _ ⟨x, i', h', x0, x1, i0, i1, rfl, rfl⟩
    conv => whnf
    refine ⟨by omega, ?_⟩
    conv => whnf
    refine ⟨_, _, _, ⟨fun _ => ?_, fun _ => by omega⟩, i0, i1, rfl, rfl⟩
    rw [tmodOf_pos x0]
    exact ⟨Int.emod_nonneg _ (by omega), Int.emod_lt_of_pos _ h2⟩
  · refine (f51_ok zs i h hl h0 h1).mono ?_
    rintro _ _ ⟨x1, i1, hh1, x1a, x1b, i1a, i1b, rfl, rfl⟩
    conv => whnf
    refine (f51_ok zs i1 hh1 hl i1a i1b).mono ?_
    rintro _ _ ⟨x2, i2, hh2, x2a, x2b, i2a, i2b, rfl, rfl⟩
    conv => whnf
    refine (f51_ok zs i2 hh2 hl i2a i2b).mono ?_
    rintro _ _ ⟨x3, i3, hh3, x3a, x3b, i3a, i3b, rfl, rfl⟩
    conv => whnf
    refine (f51_ok zs i3 hh3 hl i3a i3b).mono ?_
    rintro _ _ ⟨x4, i4, hh4, x4a, x4b, i4a, i4b, rfl, rfl⟩
    conv => whnf
    refine ⟨by omega, ?_⟩
    conv => whnf
    refine ⟨_, _, _, ⟨fun _ => ?_, fun _ => by omega⟩, i4a, i4b, rfl, rfl⟩
    rw [wrp_i64 (x := x1 * 16777216) (by omega) (by omega), wrp_i64 (x := x2 * 65536) (by omega) (by omega), wrp_i64 (x := x1 * 16777216 + x2 * 65536) (by omega) (by omega), wrp_i64 (x := x3 * 256) (by omega) (by omega),
      wrp_i64 (x := x1 * 16777216 + x2 * 65536 + x3 * 256) (by omega) (by omega), wrp_i64 (by omega) (by omega), tmodOf_pos (by omega)]
    exact ⟨Int.emod_nonneg _ (by omega), Int.emod_lt_of_pos _ h2⟩

set_option maxRecDepth 100000 in
theorem f44_ok (zs : List Int) (i h n : Int) (hl : zs.length ≤ 1000000000) (h0 : 0 ≤ i) (h1 : i ≤ zs.length) :
    FnV Try.prog 44 [cV zs i h, iV n] fun rs outs => ∃ (x : Bool) (i' h' : Int), 0 ≤ i' ∧ i' ≤ zs.length ∧ rs = [bR x] ∧ outs = [cC zs i' h'] := by
  refine fn_ok (E := En8) τ_ok mixed Try.func44 (by rfl) (by rfl) false (by simp [Try.f44]) ?_
  conv => whnf
  refine (f41_ok zs i h n hl h0 h1).mono ?_
  rintro _ _ ⟨x, i', h', _, i0, i1, rfl, rfl⟩
  conv => whnf
  exact ⟨_, _, _, i0, i1, rfl, rfl⟩

set_option maxRecDepth 100000 in
theorem f42_ok (zs : List Int) (i h : Int) (ss : List ByteArray) (hl : zs.length ≤ 1000000000) (h0 : 0 ≤ i) (h1 : i ≤ zs.length) (hs : 0 < ss.length) (hs1 : ss.length ≤ 1000000000) :
    FnV Try.prog 42 [cV zs i h, .own 1 (ssC ss)] fun rs outs => ∃ (x : ByteArray) (i' h' : Int), x ∈ ss ∧ 0 ≤ i' ∧ i' ≤ zs.length ∧ rs = [sR x] ∧ outs = [cC zs i' h'] := by
  refine fn_ok (E := En8) τ_ok mixed Try.func42 (by rfl) (by rfl) false (by simp [Try.f42]) ?_
  conv => whnf
  refine (f41_ok zs i h _ hl h0 h1).mono ?_
  rintro _ _ ⟨x, i', h', hb, i0, i1, rfl, rfl⟩
  have hx := hb.1 (by simp; omega)
  simp only [List.length_map] at hx
  obtain ⟨d, hd⟩ : ∃ d, ss[x.toNat]? = some d := ⟨_, List.getElem?_eq_getElem (by omega)⟩
  conv => whnf
  refine ⟨by omega, by simp only [List.length_map]; omega, ?_⟩
  conv => whnf
  refine ⟨_, by rw [List.getElem?_map, hd]; rfl, ?_⟩
  conv => whnf
  exact ⟨d, _, _, List.mem_of_getElem? hd, i0, i1, rfl, rfl⟩

set_option maxRecDepth 100000 in
theorem f52_ok (zs : List Int) (i h : Int) (ns : List Int) (hl : zs.length ≤ 1000000000) (h0 : 0 ≤ i) (h1 : i ≤ zs.length) (hs : 0 < ns.length) (hs1 : ns.length ≤ 1000000000) :
    FnV Try.prog 52 [cV zs i h, .own 1 (nsC ns)] fun rs outs => ∃ (x : Int) (i' h' : Int), x ∈ ns ∧ 0 ≤ i' ∧ i' ≤ zs.length ∧ rs = [iR x] ∧ outs = [cC zs i' h'] := by
  refine fn_ok (E := En8) τ_ok mixed Try.func52 (by rfl) (by rfl) false (by simp [Try.f52]) ?_
  conv => whnf
  refine (f41_ok zs i h _ hl h0 h1).mono ?_
  rintro _ _ ⟨x, i', h', hb, i0, i1, rfl, rfl⟩
  have hx := hb.1 (by simp; omega)
  simp only [List.length_map] at hx
  obtain ⟨d, hd⟩ : ∃ d, ns[x.toNat]? = some d := ⟨_, List.getElem?_eq_getElem (by omega)⟩
  conv => whnf
  refine ⟨by omega, by simp only [List.length_map]; omega, ?_⟩
  conv => whnf
  refine ⟨_, by rw [List.getElem?_map, hd]; rfl, ?_⟩
  conv => whnf
  exact ⟨d, _, _, List.mem_of_getElem? hd, i0, i1, rfl, rfl⟩

end Go.Proofs.Ytobmgdceengmiaa.V
