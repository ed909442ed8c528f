/- The types of the program, and that they are so. Printed by wip/tools/tau.py. -/
import Derived.Test.YtobmgdceengmiaaChecked
import Derived.Test.YtobmgdceengmiaaVZ
set_option linter.unusedVariables false
set_option linter.unusedSimpArgs false
namespace Go.Proofs.Ytobmgdceengmiaa.V
open Go

def d2 : TD := ⟨.int .i64, 1, 8, [.sc (.int .i64 0)]⟩
theorem ty2 : TyOk Try.prog 2 d2 := ⟨Try.underlying2, ⟨_, _, Try.type2, rfl, rfl, rfl, rfl⟩, rfl, rfl⟩
def d3 : TD := ⟨.int .i64, 1, 8, [.sc (.int .i64 0)]⟩
theorem ty3 : TyOk Try.prog 3 d3 := ⟨Try.underlying3, ⟨_, _, Try.type3, rfl, rfl, rfl, rfl⟩, rfl, rfl⟩
def d4 : TD := ⟨.bool, 1, 1, [.sc (.bool false)]⟩
theorem ty4 : TyOk Try.prog 4 d4 := ⟨Try.underlying4, ⟨_, _, Try.type4, rfl, rfl, rfl, rfl⟩, rfl, rfl⟩
def d5 : TD := ⟨.int .u8, 1, 1, [.sc (.int .u8 0)]⟩
theorem ty5 : TyOk Try.prog 5 d5 := ⟨Try.underlying5, ⟨_, _, Try.type5, rfl, rfl, rfl, rfl⟩, rfl, rfl⟩
def d6 : TD := ⟨.int .u8, 1, 1, [.sc (.int .u8 0)]⟩
theorem ty6 : TyOk Try.prog 6 d6 := ⟨Try.underlying6, ⟨_, _, Try.type6, rfl, rfl, rfl, rfl⟩, rfl, rfl⟩
def d7 : TD := ⟨.struct [(0, 2), (1, 3), (2, 4), (3, 6)], 4, 24, [.sc (.int .i64 0), .sc (.int .i64 0), .sc (.bool false), .sc (.int .u8 0)]⟩
theorem ty7 : TyOk Try.prog 7 d7 := ⟨⟨_, Try.underlying7, rfl⟩, ⟨_, _, Try.type7, rfl, rfl, rfl, rfl⟩, rfl, rfl⟩
def d8 : TD := ⟨.struct [(0, 2), (1, 3), (2, 4), (3, 6)], 4, 24, [.sc (.int .i64 0), .sc (.int .i64 0), .sc (.bool false), .sc (.int .u8 0)]⟩
theorem ty8 : TyOk Try.prog 8 d8 := ⟨⟨_, Try.underlying8, rfl⟩, ⟨_, _, Try.type8, rfl, rfl, rfl, rfl⟩, rfl, rfl⟩
def d9 : TD := ⟨.str, 1, 16, [.sc (.string { data := #[] })]⟩
theorem ty9 : TyOk Try.prog 9 d9 := ⟨Try.underlying9, ⟨_, _, Try.type9, rfl, rfl, rfl, rfl⟩, rfl, rfl⟩
def d10 : TD := ⟨.str, 1, 16, [.sc (.string { data := #[] })]⟩
theorem ty10 : TyOk Try.prog 10 d10 := ⟨Try.underlying10, ⟨_, _, Try.type10, rfl, rfl, rfl, rfl⟩, rfl, rfl⟩
def d11 : TD := ⟨.str, 1, 16, [.sc (.string { data := #[] })]⟩
theorem ty11 : TyOk Try.prog 11 d11 := ⟨Try.underlying11, ⟨_, _, Try.type11, rfl, rfl, rfl, rfl⟩, rfl, rfl⟩
def d12 : TD := ⟨.int .u64, 1, 8, [.sc (.int .u64 0)]⟩
theorem ty12 : TyOk Try.prog 12 d12 := ⟨Try.underlying12, ⟨_, _, Try.type12, rfl, rfl, rfl, rfl⟩, rfl, rfl⟩
def d13 : TD := ⟨.struct [(0, 9), (1, 12)], 2, 24, [.sc (.string { data := #[] }), .sc (.int .u64 0)]⟩
theorem ty13 : TyOk Try.prog 13 d13 := ⟨⟨_, Try.underlying13, rfl⟩, ⟨_, _, Try.type13, rfl, rfl, rfl, rfl⟩, rfl, rfl⟩
def d14 : TD := ⟨.struct [(0, 9), (1, 12)], 2, 24, [.sc (.string { data := #[] }), .sc (.int .u64 0)]⟩
theorem ty14 : TyOk Try.prog 14 d14 := ⟨⟨_, Try.underlying14, rfl⟩, ⟨_, _, Try.type14, rfl, rfl, rfl, rfl⟩, rfl, rfl⟩
def d15 : TD := ⟨.ptr 79, 1, 8, [.sc (.pointer none)]⟩
theorem ty15 : TyOk Try.prog 15 d15 := ⟨Try.underlying15, ⟨_, _, Try.type15, rfl, rfl, rfl, rfl⟩, rfl, rfl⟩
def d16 : TD := ⟨.ptr 82, 1, 8, [.sc (.pointer none)]⟩
theorem ty16 : TyOk Try.prog 16 d16 := ⟨Try.underlying16, ⟨_, _, Try.type16, rfl, rfl, rfl, rfl⟩, rfl, rfl⟩
def d17 : TD := ⟨.ptr 91, 1, 8, [.sc (.pointer none)]⟩
theorem ty17 : TyOk Try.prog 17 d17 := ⟨Try.underlying17, ⟨_, _, Try.type17, rfl, rfl, rfl, rfl⟩, rfl, rfl⟩
def d18 : TD := ⟨.struct [(0, 17)], 1, 8, [.sc (.pointer none)]⟩
theorem ty18 : TyOk Try.prog 18 d18 := ⟨⟨_, Try.underlying18, rfl⟩, ⟨_, _, Try.type18, rfl, rfl, rfl, rfl⟩, rfl, rfl⟩
def d19 : TD := ⟨.struct [(0, 17)], 1, 8, [.sc (.pointer none)]⟩
theorem ty19 : TyOk Try.prog 19 d19 := ⟨⟨_, Try.underlying19, rfl⟩, ⟨_, _, Try.type19, rfl, rfl, rfl, rfl⟩, rfl, rfl⟩
def d21 : TD := ⟨.int .i32, 1, 4, [.sc (.int .i32 0)]⟩
theorem ty21 : TyOk Try.prog 21 d21 := ⟨Try.underlying21, ⟨_, _, Try.type21, rfl, rfl, rfl, rfl⟩, rfl, rfl⟩
def d24 : TD := ⟨.struct [(0, 3), (1, 3), (2, 3)], 3, 24, [.sc (.int .i64 0), .sc (.int .i64 0), .sc (.int .i64 0)]⟩
theorem ty24 : TyOk Try.prog 24 d24 := ⟨⟨_, Try.underlying24, rfl⟩, ⟨_, _, Try.type24, rfl, rfl, rfl, rfl⟩, rfl, rfl⟩
def d25 : TD := ⟨.struct [(0, 3), (1, 3), (2, 3)], 3, 24, [.sc (.int .i64 0), .sc (.int .i64 0), .sc (.int .i64 0)]⟩
theorem ty25 : TyOk Try.prog 25 d25 := ⟨⟨_, Try.underlying25, rfl⟩, ⟨_, _, Try.type25, rfl, rfl, rfl, rfl⟩, rfl, rfl⟩
def d27 : TD := ⟨.struct [(0, 3), (1, 3), (2, 3)], 3, 24, [.sc (.int .i64 0), .sc (.int .i64 0), .sc (.int .i64 0)]⟩
theorem ty27 : TyOk Try.prog 27 d27 := ⟨⟨_, Try.underlying27, rfl⟩, ⟨_, _, Try.type27, rfl, rfl, rfl, rfl⟩, rfl, rfl⟩
def d36 : TD := ⟨.slice 5, 1, 24, [.nil 1]⟩
theorem ty36 : TyOk Try.prog 36 d36 := ⟨Try.underlying36, ⟨_, _, Try.type36, rfl, rfl, rfl, rfl⟩, rfl, rfl⟩
def d47 : TD := ⟨.slice 9, 1, 24, [.nil 1]⟩
theorem ty47 : TyOk Try.prog 47 d47 := ⟨Try.underlying47, ⟨_, _, Try.type47, rfl, rfl, rfl, rfl⟩, rfl, rfl⟩
def d49 : TD := ⟨.ptr 51, 1, 8, [.sc (.pointer none)]⟩
theorem ty49 : TyOk Try.prog 49 d49 := ⟨Try.underlying49, ⟨_, _, Try.type49, rfl, rfl, rfl, rfl⟩, rfl, rfl⟩
def d50 : TD := ⟨.struct [(0, 36), (1, 3), (2, 4)], 3, 40, [.nil 1, .sc (.int .i64 0), .sc (.bool false)]⟩
theorem ty50 : TyOk Try.prog 50 d50 := ⟨⟨_, Try.underlying50, rfl⟩, ⟨_, _, Try.type50, rfl, rfl, rfl, rfl⟩, rfl, rfl⟩
def d51 : TD := ⟨.struct [(0, 36), (1, 3), (2, 4)], 3, 40, [.nil 1, .sc (.int .i64 0), .sc (.bool false)]⟩
theorem ty51 : TyOk Try.prog 51 d51 := ⟨⟨_, Try.underlying51, rfl⟩, ⟨_, _, Try.type51, rfl, rfl, rfl, rfl⟩, rfl, rfl⟩
def d54 : TD := ⟨.ptr 56, 1, 8, [.sc (.pointer none)]⟩
theorem ty54 : TyOk Try.prog 54 d54 := ⟨Try.underlying54, ⟨_, _, Try.type54, rfl, rfl, rfl, rfl⟩, rfl, rfl⟩
def d55 : TD := ⟨.struct [(0, 36), (1, 3), (2, 4)], 3, 40, [.nil 1, .sc (.int .i64 0), .sc (.bool false)]⟩
theorem ty55 : TyOk Try.prog 55 d55 := ⟨⟨_, Try.underlying55, rfl⟩, ⟨_, _, Try.type55, rfl, rfl, rfl, rfl⟩, rfl, rfl⟩
def d56 : TD := ⟨.struct [(0, 36), (1, 3), (2, 4)], 3, 40, [.nil 1, .sc (.int .i64 0), .sc (.bool false)]⟩
theorem ty56 : TyOk Try.prog 56 d56 := ⟨⟨_, Try.underlying56, rfl⟩, ⟨_, _, Try.type56, rfl, rfl, rfl, rfl⟩, rfl, rfl⟩
def d59 : TD := ⟨.ptr 73, 1, 8, [.sc (.pointer none)]⟩
theorem ty59 : TyOk Try.prog 59 d59 := ⟨Try.underlying59, ⟨_, _, Try.type59, rfl, rfl, rfl, rfl⟩, rfl, rfl⟩
def d66 : TD := ⟨.slice 36, 1, 24, [.nil 1]⟩
theorem ty66 : TyOk Try.prog 66 d66 := ⟨Try.underlying66, ⟨_, _, Try.type66, rfl, rfl, rfl, rfl⟩, rfl, rfl⟩
def d72 : TD := ⟨.struct [(0, 36), (1, 3), (2, 3)], 3, 40, [.nil 1, .sc (.int .i64 0), .sc (.int .i64 0)]⟩
theorem ty72 : TyOk Try.prog 72 d72 := ⟨⟨_, Try.underlying72, rfl⟩, ⟨_, _, Try.type72, rfl, rfl, rfl, rfl⟩, rfl, rfl⟩
def d73 : TD := ⟨.struct [(0, 36), (1, 3), (2, 3)], 3, 40, [.nil 1, .sc (.int .i64 0), .sc (.int .i64 0)]⟩
theorem ty73 : TyOk Try.prog 73 d73 := ⟨⟨_, Try.underlying73, rfl⟩, ⟨_, _, Try.type73, rfl, rfl, rfl, rfl⟩, rfl, rfl⟩
def d76 : TD := ⟨.slice 3, 1, 24, [.nil 1]⟩
theorem ty76 : TyOk Try.prog 76 d76 := ⟨Try.underlying76, ⟨_, _, Try.type76, rfl, rfl, rfl, rfl⟩, rfl, rfl⟩
def d77 : TD := ⟨.int .u64, 1, 8, [.sc (.int .u64 0)]⟩
theorem ty77 : TyOk Try.prog 77 d77 := ⟨Try.underlying77, ⟨_, _, Try.type77, rfl, rfl, rfl, rfl⟩, rfl, rfl⟩
def d78 : TD := ⟨.struct [(0, 17), (1, 17), (2, 17), (3, 9)], 4, 40, [.sc (.pointer none), .sc (.pointer none), .sc (.pointer none), .sc (.string { data := #[] })]⟩
theorem ty78 : TyOk Try.prog 78 d78 := ⟨⟨_, Try.underlying78, rfl⟩, ⟨_, _, Try.type78, rfl, rfl, rfl, rfl⟩, rfl, rfl⟩
def d79 : TD := ⟨.struct [(0, 17), (1, 17), (2, 17), (3, 9)], 4, 40, [.sc (.pointer none), .sc (.pointer none), .sc (.pointer none), .sc (.string { data := #[] })]⟩
theorem ty79 : TyOk Try.prog 79 d79 := ⟨⟨_, Try.underlying79, rfl⟩, ⟨_, _, Try.type79, rfl, rfl, rfl, rfl⟩, rfl, rfl⟩
def d81 : TD := ⟨.struct [(0, 80)], 0, 0, []⟩
theorem ty81 : TyOk Try.prog 81 d81 := ⟨⟨_, Try.underlying81, rfl⟩, ⟨_, _, Try.type81, rfl, rfl, rfl, rfl⟩, rfl, rfl⟩
def d82 : TD := ⟨.struct [(0, 80)], 0, 0, []⟩
theorem ty82 : TyOk Try.prog 82 d82 := ⟨⟨_, Try.underlying82, rfl⟩, ⟨_, _, Try.type82, rfl, rfl, rfl, rfl⟩, rfl, rfl⟩
def d83 : TD := ⟨.int .u32, 1, 4, [.sc (.int .u32 0)]⟩
theorem ty83 : TyOk Try.prog 83 d83 := ⟨Try.underlying83, ⟨_, _, Try.type83, rfl, rfl, rfl, rfl⟩, rfl, rfl⟩
def d84 : TD := ⟨.int .u8, 1, 1, [.sc (.int .u8 0)]⟩
theorem ty84 : TyOk Try.prog 84 d84 := ⟨Try.underlying84, ⟨_, _, Try.type84, rfl, rfl, rfl, rfl⟩, rfl, rfl⟩
def d85 : TD := ⟨.int .u8, 1, 1, [.sc (.int .u8 0)]⟩
theorem ty85 : TyOk Try.prog 85 d85 := ⟨Try.underlying85, ⟨_, _, Try.type85, rfl, rfl, rfl, rfl⟩, rfl, rfl⟩
def d87 : TD := ⟨.ptr 5, 1, 8, [.sc (.pointer none)]⟩
theorem ty87 : TyOk Try.prog 87 d87 := ⟨Try.underlying87, ⟨_, _, Try.type87, rfl, rfl, rfl, rfl⟩, rfl, rfl⟩
def d88 : TD := ⟨.int .i32, 1, 4, [.sc (.int .i32 0)]⟩
theorem ty88 : TyOk Try.prog 88 d88 := ⟨Try.underlying88, ⟨_, _, Try.type88, rfl, rfl, rfl, rfl⟩, rfl, rfl⟩
def d89 : TD := ⟨.int .i32, 1, 4, [.sc (.int .i32 0)]⟩
theorem ty89 : TyOk Try.prog 89 d89 := ⟨Try.underlying89, ⟨_, _, Try.type89, rfl, rfl, rfl, rfl⟩, rfl, rfl⟩
def d90 : TD := ⟨.struct [(0, 12), (1, 12), (2, 83), (3, 84), (4, 5), (5, 5), (6, 85), (7, 86), (8, 87), (9, 88), (10, 89)], 11, 48, [.sc (.int .u64 0), .sc (.int .u64 0), .sc (.int .u32 0), .sc (.int .u8 0), .sc (.int .u8 0), .sc (.int .u8 0), .sc (.int .u8 0), .sc (.nilFunc), .sc (.pointer none), .sc (.int .i32 0), .sc (.int .i32 0)]⟩
theorem ty90 : TyOk Try.prog 90 d90 := ⟨⟨_, Try.underlying90, rfl⟩, ⟨_, _, Try.type90, rfl, rfl, rfl, rfl⟩, rfl, rfl⟩
def d91 : TD := ⟨.struct [(0, 12), (1, 12), (2, 83), (3, 84), (4, 5), (5, 5), (6, 85), (7, 86), (8, 87), (9, 88), (10, 89)], 11, 48, [.sc (.int .u64 0), .sc (.int .u64 0), .sc (.int .u32 0), .sc (.int .u8 0), .sc (.int .u8 0), .sc (.int .u8 0), .sc (.int .u8 0), .sc (.nilFunc), .sc (.pointer none), .sc (.int .i32 0), .sc (.int .i32 0)]⟩
theorem ty91 : TyOk Try.prog 91 d91 := ⟨⟨_, Try.underlying91, rfl⟩, ⟨_, _, Try.type91, rfl, rfl, rfl, rfl⟩, rfl, rfl⟩

def τ (t : Nat) : Option TD :=
  match t with
  | 2 => some d2
  | 3 => some d3
  | 4 => some d4
  | 5 => some d5
  | 6 => some d6
  | 7 => some d7
  | 8 => some d8
  | 9 => some d9
  | 10 => some d10
  | 11 => some d11
  | 12 => some d12
  | 13 => some d13
  | 14 => some d14
  | 15 => some d15
  | 16 => some d16
  | 17 => some d17
  | 18 => some d18
  | 19 => some d19
  | 21 => some d21
  | 24 => some d24
  | 25 => some d25
  | 27 => some d27
  | 36 => some d36
  | 47 => some d47
  | 49 => some d49
  | 50 => some d50
  | 51 => some d51
  | 54 => some d54
  | 55 => some d55
  | 56 => some d56
  | 59 => some d59
  | 66 => some d66
  | 72 => some d72
  | 73 => some d73
  | 76 => some d76
  | 77 => some d77
  | 78 => some d78
  | 79 => some d79
  | 81 => some d81
  | 82 => some d82
  | 83 => some d83
  | 84 => some d84
  | 85 => some d85
  | 87 => some d87
  | 88 => some d88
  | 89 => some d89
  | 90 => some d90
  | 91 => some d91
  | _ => none

theorem τ_ok : ∀ t d, τ t = some d → TyOk Try.prog t d := by
  intro t d h
  unfold τ at h
  split at h
  · cases h; exact ty2
  · cases h; exact ty3
  · cases h; exact ty4
  · cases h; exact ty5
  · cases h; exact ty6
  · cases h; exact ty7
  · cases h; exact ty8
  · cases h; exact ty9
  · cases h; exact ty10
  · cases h; exact ty11
  · cases h; exact ty12
  · cases h; exact ty13
  · cases h; exact ty14
  · cases h; exact ty15
  · cases h; exact ty16
  · cases h; exact ty17
  · cases h; exact ty18
  · cases h; exact ty19
  · cases h; exact ty21
  · cases h; exact ty24
  · cases h; exact ty25
  · cases h; exact ty27
  · cases h; exact ty36
  · cases h; exact ty47
  · cases h; exact ty49
  · cases h; exact ty50
  · cases h; exact ty51
  · cases h; exact ty54
  · cases h; exact ty55
  · cases h; exact ty56
  · cases h; exact ty59
  · cases h; exact ty66
  · cases h; exact ty72
  · cases h; exact ty73
  · cases h; exact ty76
  · cases h; exact ty77
  · cases h; exact ty78
  · cases h; exact ty79
  · cases h; exact ty81
  · cases h; exact ty82
  · cases h; exact ty83
  · cases h; exact ty84
  · cases h; exact ty85
  · cases h; exact ty87
  · cases h; exact ty88
  · cases h; exact ty89
  · cases h; exact ty90
  · cases h; exact ty91
  · cases h

theorem mixed : Try.prog.follows .mixedOrders = true := by rfl

end Go.Proofs.Ytobmgdceengmiaa.V
