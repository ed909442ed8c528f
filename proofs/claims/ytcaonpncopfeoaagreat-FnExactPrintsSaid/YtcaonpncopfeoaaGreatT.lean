/- The types of the program, and that they are so. Printed by wip/tools/tau.py. -/
import Derived.Test.YtcaonpncopfeoaaGreatChecked
import Derived.Test.YtcaonpncopfeoaaGreatM4
set_option linter.unusedVariables false
set_option linter.unusedSimpArgs false
set_option maxRecDepth 100000
namespace Go.Proofs.YtcaonpncopfeoaaGreat.V
open Go

def d2 : TD := ⟨.int .i64, 1, 8, [.sc (.int .i64 0)]⟩
theorem ty2 : TyOk Tryz.prog 2 d2 := ⟨Tryz.underlying2, ⟨_, _, Tryz.type2, rfl, rfl, rfl, rfl⟩, rfl, rfl⟩
def d3 : TD := ⟨.int .i64, 1, 8, [.sc (.int .i64 0)]⟩
theorem ty3 : TyOk Tryz.prog 3 d3 := ⟨Tryz.underlying3, ⟨_, _, Tryz.type3, rfl, rfl, rfl, rfl⟩, rfl, rfl⟩
def d4 : TD := ⟨.bool, 1, 1, [.sc (.bool false)]⟩
theorem ty4 : TyOk Tryz.prog 4 d4 := ⟨Tryz.underlying4, ⟨_, _, Tryz.type4, rfl, rfl, rfl, rfl⟩, rfl, rfl⟩
def d5 : TD := ⟨.int .u8, 1, 1, [.sc (.int .u8 0)]⟩
theorem ty5 : TyOk Tryz.prog 5 d5 := ⟨Tryz.underlying5, ⟨_, _, Tryz.type5, rfl, rfl, rfl, rfl⟩, rfl, rfl⟩
def d6 : TD := ⟨.int .u8, 1, 1, [.sc (.int .u8 0)]⟩
theorem ty6 : TyOk Tryz.prog 6 d6 := ⟨Tryz.underlying6, ⟨_, _, Tryz.type6, rfl, rfl, rfl, rfl⟩, rfl, rfl⟩
def d7 : TD := ⟨.struct [(0, 2), (1, 3), (2, 4), (3, 6)], 4, 24, [.sc (.int .i64 0), .sc (.int .i64 0), .sc (.bool false), .sc (.int .u8 0)]⟩
theorem ty7 : TyOk Tryz.prog 7 d7 := ⟨⟨_, Tryz.underlying7, rfl⟩, ⟨_, _, Tryz.type7, rfl, rfl, rfl, rfl⟩, rfl, rfl⟩
def d8 : TD := ⟨.struct [(0, 2), (1, 3), (2, 4), (3, 6)], 4, 24, [.sc (.int .i64 0), .sc (.int .i64 0), .sc (.bool false), .sc (.int .u8 0)]⟩
theorem ty8 : TyOk Tryz.prog 8 d8 := ⟨⟨_, Tryz.underlying8, rfl⟩, ⟨_, _, Tryz.type8, rfl, rfl, rfl, rfl⟩, rfl, rfl⟩
def d9 : TD := ⟨.str, 1, 16, [.sc (.string { data := #[] })]⟩
theorem ty9 : TyOk Tryz.prog 9 d9 := ⟨Tryz.underlying9, ⟨_, _, Tryz.type9, rfl, rfl, rfl, rfl⟩, rfl, rfl⟩
def d10 : TD := ⟨.str, 1, 16, [.sc (.string { data := #[] })]⟩
theorem ty10 : TyOk Tryz.prog 10 d10 := ⟨Tryz.underlying10, ⟨_, _, Tryz.type10, rfl, rfl, rfl, rfl⟩, rfl, rfl⟩
def d11 : TD := ⟨.str, 1, 16, [.sc (.string { data := #[] })]⟩
theorem ty11 : TyOk Tryz.prog 11 d11 := ⟨Tryz.underlying11, ⟨_, _, Tryz.type11, rfl, rfl, rfl, rfl⟩, rfl, rfl⟩
def d12 : TD := ⟨.int .u64, 1, 8, [.sc (.int .u64 0)]⟩
theorem ty12 : TyOk Tryz.prog 12 d12 := ⟨Tryz.underlying12, ⟨_, _, Tryz.type12, rfl, rfl, rfl, rfl⟩, rfl, rfl⟩
def d13 : TD := ⟨.struct [(0, 9), (1, 12)], 2, 24, [.sc (.string { data := #[] }), .sc (.int .u64 0)]⟩
theorem ty13 : TyOk Tryz.prog 13 d13 := ⟨⟨_, Tryz.underlying13, rfl⟩, ⟨_, _, Tryz.type13, rfl, rfl, rfl, rfl⟩, rfl, rfl⟩
def d14 : TD := ⟨.struct [(0, 9), (1, 12)], 2, 24, [.sc (.string { data := #[] }), .sc (.int .u64 0)]⟩
theorem ty14 : TyOk Tryz.prog 14 d14 := ⟨⟨_, Tryz.underlying14, rfl⟩, ⟨_, _, Tryz.type14, rfl, rfl, rfl, rfl⟩, rfl, rfl⟩
def d15 : TD := ⟨.ptr 395, 1, 8, [.sc (.pointer none)]⟩
theorem ty15 : TyOk Tryz.prog 15 d15 := ⟨Tryz.underlying15, ⟨_, _, Tryz.type15, rfl, rfl, rfl, rfl⟩, rfl, rfl⟩
def d16 : TD := ⟨.ptr 398, 1, 8, [.sc (.pointer none)]⟩
theorem ty16 : TyOk Tryz.prog 16 d16 := ⟨Tryz.underlying16, ⟨_, _, Tryz.type16, rfl, rfl, rfl, rfl⟩, rfl, rfl⟩
def d17 : TD := ⟨.ptr 407, 1, 8, [.sc (.pointer none)]⟩
theorem ty17 : TyOk Tryz.prog 17 d17 := ⟨Tryz.underlying17, ⟨_, _, Tryz.type17, rfl, rfl, rfl, rfl⟩, rfl, rfl⟩
def d18 : TD := ⟨.struct [(0, 17)], 1, 8, [.sc (.pointer none)]⟩
theorem ty18 : TyOk Tryz.prog 18 d18 := ⟨⟨_, Tryz.underlying18, rfl⟩, ⟨_, _, Tryz.type18, rfl, rfl, rfl, rfl⟩, rfl, rfl⟩
def d19 : TD := ⟨.struct [(0, 17)], 1, 8, [.sc (.pointer none)]⟩
theorem ty19 : TyOk Tryz.prog 19 d19 := ⟨⟨_, Tryz.underlying19, rfl⟩, ⟨_, _, Tryz.type19, rfl, rfl, rfl, rfl⟩, rfl, rfl⟩
def d21 : TD := ⟨.int .i32, 1, 4, [.sc (.int .i32 0)]⟩
theorem ty21 : TyOk Tryz.prog 21 d21 := ⟨Tryz.underlying21, ⟨_, _, Tryz.type21, rfl, rfl, rfl, rfl⟩, rfl, rfl⟩
def d22 : TD := ⟨.slice 273, 1, 24, [.nil 5]⟩
theorem ty22 : TyOk Tryz.prog 22 d22 := ⟨Tryz.underlying22, ⟨_, _, Tryz.type22, rfl, rfl, rfl, rfl⟩, rfl, rfl⟩
def d23 : TD := ⟨.struct [(0, 22)], 1, 24, [.nil 5]⟩
theorem ty23 : TyOk Tryz.prog 23 d23 := ⟨⟨_, Tryz.underlying23, rfl⟩, ⟨_, _, Tryz.type23, rfl, rfl, rfl, rfl⟩, rfl, rfl⟩
def d24 : TD := ⟨.struct [(0, 22)], 1, 24, [.nil 5]⟩
theorem ty24 : TyOk Tryz.prog 24 d24 := ⟨⟨_, Tryz.underlying24, rfl⟩, ⟨_, _, Tryz.type24, rfl, rfl, rfl, rfl⟩, rfl, rfl⟩
def d25 : TD := ⟨.slice 198, 1, 24, [.nil 4]⟩
theorem ty25 : TyOk Tryz.prog 25 d25 := ⟨Tryz.underlying25, ⟨_, _, Tryz.type25, rfl, rfl, rfl, rfl⟩, rfl, rfl⟩
def d26 : TD := ⟨.slice 201, 1, 24, [.nil 3]⟩
theorem ty26 : TyOk Tryz.prog 26 d26 := ⟨Tryz.underlying26, ⟨_, _, Tryz.type26, rfl, rfl, rfl, rfl⟩, rfl, rfl⟩
def d27 : TD := ⟨.struct [(0, 24), (1, 25), (2, 26)], 3, 72, [.nil 5, .nil 4, .nil 3]⟩
theorem ty27 : TyOk Tryz.prog 27 d27 := ⟨⟨_, Tryz.underlying27, rfl⟩, ⟨_, _, Tryz.type27, rfl, rfl, rfl, rfl⟩, rfl, rfl⟩
def d28 : TD := ⟨.struct [(0, 24), (1, 25), (2, 26)], 3, 72, [.nil 5, .nil 4, .nil 3]⟩
theorem ty28 : TyOk Tryz.prog 28 d28 := ⟨⟨_, Tryz.underlying28, rfl⟩, ⟨_, _, Tryz.type28, rfl, rfl, rfl, rfl⟩, rfl, rfl⟩
def d30 : TD := ⟨.slice 274, 1, 24, [.nil 5]⟩
theorem ty30 : TyOk Tryz.prog 30 d30 := ⟨Tryz.underlying30, ⟨_, _, Tryz.type30, rfl, rfl, rfl, rfl⟩, rfl, rfl⟩
def d31 : TD := ⟨.struct [(0, 30)], 1, 24, [.nil 5]⟩
theorem ty31 : TyOk Tryz.prog 31 d31 := ⟨⟨_, Tryz.underlying31, rfl⟩, ⟨_, _, Tryz.type31, rfl, rfl, rfl, rfl⟩, rfl, rfl⟩
def d32 : TD := ⟨.struct [(0, 30)], 1, 24, [.nil 5]⟩
theorem ty32 : TyOk Tryz.prog 32 d32 := ⟨⟨_, Tryz.underlying32, rfl⟩, ⟨_, _, Tryz.type32, rfl, rfl, rfl, rfl⟩, rfl, rfl⟩
def d33 : TD := ⟨.struct [(0, 32), (1, 3), (2, 3), (3, 3), (4, 3), (5, 3), (6, 3), (7, 3)], 8, 80, [.nil 5, .sc (.int .i64 0), .sc (.int .i64 0), .sc (.int .i64 0), .sc (.int .i64 0), .sc (.int .i64 0), .sc (.int .i64 0), .sc (.int .i64 0)]⟩
theorem ty33 : TyOk Tryz.prog 33 d33 := ⟨⟨_, Tryz.underlying33, rfl⟩, ⟨_, _, Tryz.type33, rfl, rfl, rfl, rfl⟩, rfl, rfl⟩
def d34 : TD := ⟨.struct [(0, 32), (1, 3), (2, 3), (3, 3), (4, 3), (5, 3), (6, 3), (7, 3)], 8, 80, [.nil 5, .sc (.int .i64 0), .sc (.int .i64 0), .sc (.int .i64 0), .sc (.int .i64 0), .sc (.int .i64 0), .sc (.int .i64 0), .sc (.int .i64 0)]⟩
theorem ty34 : TyOk Tryz.prog 34 d34 := ⟨⟨_, Tryz.underlying34, rfl⟩, ⟨_, _, Tryz.type34, rfl, rfl, rfl, rfl⟩, rfl, rfl⟩
def d35 : TD := ⟨.slice 9, 1, 24, [.nil 1]⟩
theorem ty35 : TyOk Tryz.prog 35 d35 := ⟨Tryz.underlying35, ⟨_, _, Tryz.type35, rfl, rfl, rfl, rfl⟩, rfl, rfl⟩
def d36 : TD := ⟨.struct [(0, 3), (1, 34), (9, 35), (10, 35)], 11, 136, [.sc (.int .i64 0), .nil 5, .sc (.int .i64 0), .sc (.int .i64 0), .sc (.int .i64 0), .sc (.int .i64 0), .sc (.int .i64 0), .sc (.int .i64 0), .sc (.int .i64 0), .nil 1, .nil 1]⟩
theorem ty36 : TyOk Tryz.prog 36 d36 := ⟨⟨_, Tryz.underlying36, rfl⟩, ⟨_, _, Tryz.type36, rfl, rfl, rfl, rfl⟩, rfl, rfl⟩
def d37 : TD := ⟨.struct [(0, 3), (1, 34), (9, 35), (10, 35)], 11, 136, [.sc (.int .i64 0), .nil 5, .sc (.int .i64 0), .sc (.int .i64 0), .sc (.int .i64 0), .sc (.int .i64 0), .sc (.int .i64 0), .sc (.int .i64 0), .sc (.int .i64 0), .nil 1, .nil 1]⟩
theorem ty37 : TyOk Tryz.prog 37 d37 := ⟨⟨_, Tryz.underlying37, rfl⟩, ⟨_, _, Tryz.type37, rfl, rfl, rfl, rfl⟩, rfl, rfl⟩
def d40 : TD := ⟨.slice 212, 1, 24, [.nil 4]⟩
theorem ty40 : TyOk Tryz.prog 40 d40 := ⟨Tryz.underlying40, ⟨_, _, Tryz.type40, rfl, rfl, rfl, rfl⟩, rfl, rfl⟩
def d41 : TD := ⟨.slice 214, 1, 24, [.nil 3]⟩
theorem ty41 : TyOk Tryz.prog 41 d41 := ⟨Tryz.underlying41, ⟨_, _, Tryz.type41, rfl, rfl, rfl, rfl⟩, rfl, rfl⟩
def d42 : TD := ⟨.struct [(0, 32), (1, 40), (2, 41)], 3, 72, [.nil 5, .nil 4, .nil 3]⟩
theorem ty42 : TyOk Tryz.prog 42 d42 := ⟨⟨_, Tryz.underlying42, rfl⟩, ⟨_, _, Tryz.type42, rfl, rfl, rfl, rfl⟩, rfl, rfl⟩
def d43 : TD := ⟨.struct [(0, 32), (1, 40), (2, 41)], 3, 72, [.nil 5, .nil 4, .nil 3]⟩
theorem ty43 : TyOk Tryz.prog 43 d43 := ⟨⟨_, Tryz.underlying43, rfl⟩, ⟨_, _, Tryz.type43, rfl, rfl, rfl, rfl⟩, rfl, rfl⟩
def d50 : TD := ⟨.slice 225, 1, 24, [.nil 12]⟩
theorem ty50 : TyOk Tryz.prog 50 d50 := ⟨Tryz.underlying50, ⟨_, _, Tryz.type50, rfl, rfl, rfl, rfl⟩, rfl, rfl⟩
def d51 : TD := ⟨.slice 229, 1, 24, [.nil 5]⟩
theorem ty51 : TyOk Tryz.prog 51 d51 := ⟨Tryz.underlying51, ⟨_, _, Tryz.type51, rfl, rfl, rfl, rfl⟩, rfl, rfl⟩
def d52 : TD := ⟨.slice 233, 1, 24, [.nil 5]⟩
theorem ty52 : TyOk Tryz.prog 52 d52 := ⟨Tryz.underlying52, ⟨_, _, Tryz.type52, rfl, rfl, rfl, rfl⟩, rfl, rfl⟩
def d53 : TD := ⟨.slice 235, 1, 24, [.nil 3]⟩
theorem ty53 : TyOk Tryz.prog 53 d53 := ⟨Tryz.underlying53, ⟨_, _, Tryz.type53, rfl, rfl, rfl, rfl⟩, rfl, rfl⟩
def d54 : TD := ⟨.slice 35, 1, 24, [.nil 1]⟩
theorem ty54 : TyOk Tryz.prog 54 d54 := ⟨Tryz.underlying54, ⟨_, _, Tryz.type54, rfl, rfl, rfl, rfl⟩, rfl, rfl⟩
def d55 : TD := ⟨.struct [(0, 28), (3, 3), (4, 50), (5, 51), (6, 52), (7, 53), (8, 3), (9, 54), (10, 54)], 11, 232, [.nil 5, .nil 4, .nil 3, .sc (.int .i64 0), .nil 12, .nil 5, .nil 5, .nil 3, .sc (.int .i64 0), .nil 1, .nil 1]⟩
theorem ty55 : TyOk Tryz.prog 55 d55 := ⟨⟨_, Tryz.underlying55, rfl⟩, ⟨_, _, Tryz.type55, rfl, rfl, rfl, rfl⟩, rfl, rfl⟩
def d56 : TD := ⟨.struct [(0, 28), (3, 3), (4, 50), (5, 51), (6, 52), (7, 53), (8, 3), (9, 54), (10, 54)], 11, 232, [.nil 5, .nil 4, .nil 3, .sc (.int .i64 0), .nil 12, .nil 5, .nil 5, .nil 3, .sc (.int .i64 0), .nil 1, .nil 1]⟩
theorem ty56 : TyOk Tryz.prog 56 d56 := ⟨⟨_, Tryz.underlying56, rfl⟩, ⟨_, _, Tryz.type56, rfl, rfl, rfl, rfl⟩, rfl, rfl⟩
def d59 : TD := ⟨.slice 154, 1, 24, [.nil 12]⟩
theorem ty59 : TyOk Tryz.prog 59 d59 := ⟨Tryz.underlying59, ⟨_, _, Tryz.type59, rfl, rfl, rfl, rfl⟩, rfl, rfl⟩
def d60 : TD := ⟨.slice 173, 1, 24, [.nil 5]⟩
theorem ty60 : TyOk Tryz.prog 60 d60 := ⟨Tryz.underlying60, ⟨_, _, Tryz.type60, rfl, rfl, rfl, rfl⟩, rfl, rfl⟩
def d61 : TD := ⟨.slice 159, 1, 24, [.nil 5]⟩
theorem ty61 : TyOk Tryz.prog 61 d61 := ⟨Tryz.underlying61, ⟨_, _, Tryz.type61, rfl, rfl, rfl, rfl⟩, rfl, rfl⟩
def d62 : TD := ⟨.slice 164, 1, 24, [.nil 3]⟩
theorem ty62 : TyOk Tryz.prog 62 d62 := ⟨Tryz.underlying62, ⟨_, _, Tryz.type62, rfl, rfl, rfl, rfl⟩, rfl, rfl⟩
def d63 : TD := ⟨.struct [(0, 43), (3, 3), (4, 59), (5, 60), (6, 61), (7, 62), (8, 3), (9, 54), (10, 54)], 11, 232, [.nil 5, .nil 4, .nil 3, .sc (.int .i64 0), .nil 12, .nil 5, .nil 5, .nil 3, .sc (.int .i64 0), .nil 1, .nil 1]⟩
theorem ty63 : TyOk Tryz.prog 63 d63 := ⟨⟨_, Tryz.underlying63, rfl⟩, ⟨_, _, Tryz.type63, rfl, rfl, rfl, rfl⟩, rfl, rfl⟩
def d64 : TD := ⟨.struct [(0, 43), (3, 3), (4, 59), (5, 60), (6, 61), (7, 62), (8, 3), (9, 54), (10, 54)], 11, 232, [.nil 5, .nil 4, .nil 3, .sc (.int .i64 0), .nil 12, .nil 5, .nil 5, .nil 3, .sc (.int .i64 0), .nil 1, .nil 1]⟩
theorem ty64 : TyOk Tryz.prog 64 d64 := ⟨⟨_, Tryz.underlying64, rfl⟩, ⟨_, _, Tryz.type64, rfl, rfl, rfl, rfl⟩, rfl, rfl⟩
def d76 : TD := ⟨.struct [(0, 24), (1, 3), (2, 3), (3, 3), (4, 3), (5, 3), (6, 3), (7, 3)], 8, 80, [.nil 5, .sc (.int .i64 0), .sc (.int .i64 0), .sc (.int .i64 0), .sc (.int .i64 0), .sc (.int .i64 0), .sc (.int .i64 0), .sc (.int .i64 0)]⟩
theorem ty76 : TyOk Tryz.prog 76 d76 := ⟨⟨_, Tryz.underlying76, rfl⟩, ⟨_, _, Tryz.type76, rfl, rfl, rfl, rfl⟩, rfl, rfl⟩
def d77 : TD := ⟨.struct [(0, 24), (1, 3), (2, 3), (3, 3), (4, 3), (5, 3), (6, 3), (7, 3)], 8, 80, [.nil 5, .sc (.int .i64 0), .sc (.int .i64 0), .sc (.int .i64 0), .sc (.int .i64 0), .sc (.int .i64 0), .sc (.int .i64 0), .sc (.int .i64 0)]⟩
theorem ty77 : TyOk Tryz.prog 77 d77 := ⟨⟨_, Tryz.underlying77, rfl⟩, ⟨_, _, Tryz.type77, rfl, rfl, rfl, rfl⟩, rfl, rfl⟩
def d78 : TD := ⟨.struct [(0, 3), (1, 77), (9, 35), (10, 35)], 11, 136, [.sc (.int .i64 0), .nil 5, .sc (.int .i64 0), .sc (.int .i64 0), .sc (.int .i64 0), .sc (.int .i64 0), .sc (.int .i64 0), .sc (.int .i64 0), .sc (.int .i64 0), .nil 1, .nil 1]⟩
theorem ty78 : TyOk Tryz.prog 78 d78 := ⟨⟨_, Tryz.underlying78, rfl⟩, ⟨_, _, Tryz.type78, rfl, rfl, rfl, rfl⟩, rfl, rfl⟩
def d79 : TD := ⟨.struct [(0, 3), (1, 77), (9, 35), (10, 35)], 11, 136, [.sc (.int .i64 0), .nil 5, .sc (.int .i64 0), .sc (.int .i64 0), .sc (.int .i64 0), .sc (.int .i64 0), .sc (.int .i64 0), .sc (.int .i64 0), .sc (.int .i64 0), .nil 1, .nil 1]⟩
theorem ty79 : TyOk Tryz.prog 79 d79 := ⟨⟨_, Tryz.underlying79, rfl⟩, ⟨_, _, Tryz.type79, rfl, rfl, rfl, rfl⟩, rfl, rfl⟩
def d81 : TD := ⟨.struct [(0, 3), (1, 3), (2, 9)], 3, 32, [.sc (.int .i64 0), .sc (.int .i64 0), .sc (.string { data := #[] })]⟩
theorem ty81 : TyOk Tryz.prog 81 d81 := ⟨⟨_, Tryz.underlying81, rfl⟩, ⟨_, _, Tryz.type81, rfl, rfl, rfl, rfl⟩, rfl, rfl⟩
def d82 : TD := ⟨.struct [(0, 3), (1, 3), (2, 9)], 3, 32, [.sc (.int .i64 0), .sc (.int .i64 0), .sc (.string { data := #[] })]⟩
theorem ty82 : TyOk Tryz.prog 82 d82 := ⟨⟨_, Tryz.underlying82, rfl⟩, ⟨_, _, Tryz.type82, rfl, rfl, rfl, rfl⟩, rfl, rfl⟩
def d88 : TD := ⟨.struct [(0, 3), (1, 3), (2, 3)], 3, 24, [.sc (.int .i64 0), .sc (.int .i64 0), .sc (.int .i64 0)]⟩
theorem ty88 : TyOk Tryz.prog 88 d88 := ⟨⟨_, Tryz.underlying88, rfl⟩, ⟨_, _, Tryz.type88, rfl, rfl, rfl, rfl⟩, rfl, rfl⟩
def d89 : TD := ⟨.struct [(0, 3), (1, 3), (2, 3)], 3, 24, [.sc (.int .i64 0), .sc (.int .i64 0), .sc (.int .i64 0)]⟩
theorem ty89 : TyOk Tryz.prog 89 d89 := ⟨⟨_, Tryz.underlying89, rfl⟩, ⟨_, _, Tryz.type89, rfl, rfl, rfl, rfl⟩, rfl, rfl⟩
def d92 : TD := ⟨.struct [(0, 3), (1, 3), (2, 3)], 3, 24, [.sc (.int .i64 0), .sc (.int .i64 0), .sc (.int .i64 0)]⟩
theorem ty92 : TyOk Tryz.prog 92 d92 := ⟨⟨_, Tryz.underlying92, rfl⟩, ⟨_, _, Tryz.type92, rfl, rfl, rfl, rfl⟩, rfl, rfl⟩
def d97 : TD := ⟨.slice 89, 1, 24, [.nil 3]⟩
theorem ty97 : TyOk Tryz.prog 97 d97 := ⟨Tryz.underlying97, ⟨_, _, Tryz.type97, rfl, rfl, rfl, rfl⟩, rfl, rfl⟩
def d99 : TD := ⟨.slice 3, 1, 24, [.nil 1]⟩
theorem ty99 : TyOk Tryz.prog 99 d99 := ⟨Tryz.underlying99, ⟨_, _, Tryz.type99, rfl, rfl, rfl, rfl⟩, rfl, rfl⟩
def d102 : TD := ⟨.slice 92, 1, 24, [.nil 3]⟩
theorem ty102 : TyOk Tryz.prog 102 d102 := ⟨Tryz.underlying102, ⟨_, _, Tryz.type102, rfl, rfl, rfl, rfl⟩, rfl, rfl⟩
def d112 : TD := ⟨.ptr 115, 1, 8, [.sc (.pointer none)]⟩
theorem ty112 : TyOk Tryz.prog 112 d112 := ⟨Tryz.underlying112, ⟨_, _, Tryz.type112, rfl, rfl, rfl, rfl⟩, rfl, rfl⟩
def d113 : TD := ⟨.slice 5, 1, 24, [.nil 1]⟩
theorem ty113 : TyOk Tryz.prog 113 d113 := ⟨Tryz.underlying113, ⟨_, _, Tryz.type113, rfl, rfl, rfl, rfl⟩, rfl, rfl⟩
def d114 : TD := ⟨.struct [(0, 113), (1, 3), (2, 4)], 3, 40, [.nil 1, .sc (.int .i64 0), .sc (.bool false)]⟩
theorem ty114 : TyOk Tryz.prog 114 d114 := ⟨⟨_, Tryz.underlying114, rfl⟩, ⟨_, _, Tryz.type114, rfl, rfl, rfl, rfl⟩, rfl, rfl⟩
def d115 : TD := ⟨.struct [(0, 113), (1, 3), (2, 4)], 3, 40, [.nil 1, .sc (.int .i64 0), .sc (.bool false)]⟩
theorem ty115 : TyOk Tryz.prog 115 d115 := ⟨⟨_, Tryz.underlying115, rfl⟩, ⟨_, _, Tryz.type115, rfl, rfl, rfl, rfl⟩, rfl, rfl⟩
def d125 : TD := ⟨.ptr 127, 1, 8, [.sc (.pointer none)]⟩
theorem ty125 : TyOk Tryz.prog 125 d125 := ⟨Tryz.underlying125, ⟨_, _, Tryz.type125, rfl, rfl, rfl, rfl⟩, rfl, rfl⟩
def d126 : TD := ⟨.struct [(0, 113), (1, 3), (2, 4)], 3, 40, [.nil 1, .sc (.int .i64 0), .sc (.bool false)]⟩
theorem ty126 : TyOk Tryz.prog 126 d126 := ⟨⟨_, Tryz.underlying126, rfl⟩, ⟨_, _, Tryz.type126, rfl, rfl, rfl, rfl⟩, rfl, rfl⟩
def d127 : TD := ⟨.struct [(0, 113), (1, 3), (2, 4)], 3, 40, [.nil 1, .sc (.int .i64 0), .sc (.bool false)]⟩
theorem ty127 : TyOk Tryz.prog 127 d127 := ⟨⟨_, Tryz.underlying127, rfl⟩, ⟨_, _, Tryz.type127, rfl, rfl, rfl, rfl⟩, rfl, rfl⟩
def d153 : TD := ⟨.struct [(0, 3), (1, 37)], 12, 144, [.sc (.int .i64 0), .sc (.int .i64 0), .nil 5, .sc (.int .i64 0), .sc (.int .i64 0), .sc (.int .i64 0), .sc (.int .i64 0), .sc (.int .i64 0), .sc (.int .i64 0), .sc (.int .i64 0), .nil 1, .nil 1]⟩
theorem ty153 : TyOk Tryz.prog 153 d153 := ⟨⟨_, Tryz.underlying153, rfl⟩, ⟨_, _, Tryz.type153, rfl, rfl, rfl, rfl⟩, rfl, rfl⟩
def d154 : TD := ⟨.struct [(0, 3), (1, 37)], 12, 144, [.sc (.int .i64 0), .sc (.int .i64 0), .nil 5, .sc (.int .i64 0), .sc (.int .i64 0), .sc (.int .i64 0), .sc (.int .i64 0), .sc (.int .i64 0), .sc (.int .i64 0), .sc (.int .i64 0), .nil 1, .nil 1]⟩
theorem ty154 : TyOk Tryz.prog 154 d154 := ⟨⟨_, Tryz.underlying154, rfl⟩, ⟨_, _, Tryz.type154, rfl, rfl, rfl, rfl⟩, rfl, rfl⟩
def d156 : TD := ⟨.struct [(0, 3), (1, 9)], 2, 24, [.sc (.int .i64 0), .sc (.string { data := #[] })]⟩
theorem ty156 : TyOk Tryz.prog 156 d156 := ⟨⟨_, Tryz.underlying156, rfl⟩, ⟨_, _, Tryz.type156, rfl, rfl, rfl, rfl⟩, rfl, rfl⟩
def d157 : TD := ⟨.struct [(0, 3), (1, 9)], 2, 24, [.sc (.int .i64 0), .sc (.string { data := #[] })]⟩
theorem ty157 : TyOk Tryz.prog 157 d157 := ⟨⟨_, Tryz.underlying157, rfl⟩, ⟨_, _, Tryz.type157, rfl, rfl, rfl, rfl⟩, rfl, rfl⟩
def d158 : TD := ⟨.struct [(0, 3), (1, 3), (2, 3), (3, 157)], 5, 48, [.sc (.int .i64 0), .sc (.int .i64 0), .sc (.int .i64 0), .sc (.int .i64 0), .sc (.string { data := #[] })]⟩
theorem ty158 : TyOk Tryz.prog 158 d158 := ⟨⟨_, Tryz.underlying158, rfl⟩, ⟨_, _, Tryz.type158, rfl, rfl, rfl, rfl⟩, rfl, rfl⟩
def d159 : TD := ⟨.struct [(0, 3), (1, 3), (2, 3), (3, 157)], 5, 48, [.sc (.int .i64 0), .sc (.int .i64 0), .sc (.int .i64 0), .sc (.int .i64 0), .sc (.string { data := #[] })]⟩
theorem ty159 : TyOk Tryz.prog 159 d159 := ⟨⟨_, Tryz.underlying159, rfl⟩, ⟨_, _, Tryz.type159, rfl, rfl, rfl, rfl⟩, rfl, rfl⟩
def d163 : TD := ⟨.struct [(0, 3), (1, 3), (2, 9)], 3, 32, [.sc (.int .i64 0), .sc (.int .i64 0), .sc (.string { data := #[] })]⟩
theorem ty163 : TyOk Tryz.prog 163 d163 := ⟨⟨_, Tryz.underlying163, rfl⟩, ⟨_, _, Tryz.type163, rfl, rfl, rfl, rfl⟩, rfl, rfl⟩
def d164 : TD := ⟨.struct [(0, 3), (1, 3), (2, 9)], 3, 32, [.sc (.int .i64 0), .sc (.int .i64 0), .sc (.string { data := #[] })]⟩
theorem ty164 : TyOk Tryz.prog 164 d164 := ⟨⟨_, Tryz.underlying164, rfl⟩, ⟨_, _, Tryz.type164, rfl, rfl, rfl, rfl⟩, rfl, rfl⟩
def d171 : TD := ⟨.slice 157, 1, 24, [.nil 2]⟩
theorem ty171 : TyOk Tryz.prog 171 d171 := ⟨Tryz.underlying171, ⟨_, _, Tryz.type171, rfl, rfl, rfl, rfl⟩, rfl, rfl⟩
def d172 : TD := ⟨.struct [(0, 3), (1, 3), (2, 35), (3, 3), (4, 171)], 5, 72, [.sc (.int .i64 0), .sc (.int .i64 0), .nil 1, .sc (.int .i64 0), .nil 2]⟩
theorem ty172 : TyOk Tryz.prog 172 d172 := ⟨⟨_, Tryz.underlying172, rfl⟩, ⟨_, _, Tryz.type172, rfl, rfl, rfl, rfl⟩, rfl, rfl⟩
def d173 : TD := ⟨.struct [(0, 3), (1, 3), (2, 35), (3, 3), (4, 171)], 5, 72, [.sc (.int .i64 0), .sc (.int .i64 0), .nil 1, .sc (.int .i64 0), .nil 2]⟩
theorem ty173 : TyOk Tryz.prog 173 d173 := ⟨⟨_, Tryz.underlying173, rfl⟩, ⟨_, _, Tryz.type173, rfl, rfl, rfl, rfl⟩, rfl, rfl⟩
def d197 : TD := ⟨.struct [(0, 3), (1, 3), (2, 3), (3, 9)], 4, 40, [.sc (.int .i64 0), .sc (.int .i64 0), .sc (.int .i64 0), .sc (.string { data := #[] })]⟩
theorem ty197 : TyOk Tryz.prog 197 d197 := ⟨⟨_, Tryz.underlying197, rfl⟩, ⟨_, _, Tryz.type197, rfl, rfl, rfl, rfl⟩, rfl, rfl⟩
def d198 : TD := ⟨.struct [(0, 3), (1, 3), (2, 3), (3, 9)], 4, 40, [.sc (.int .i64 0), .sc (.int .i64 0), .sc (.int .i64 0), .sc (.string { data := #[] })]⟩
theorem ty198 : TyOk Tryz.prog 198 d198 := ⟨⟨_, Tryz.underlying198, rfl⟩, ⟨_, _, Tryz.type198, rfl, rfl, rfl, rfl⟩, rfl, rfl⟩
def d200 : TD := ⟨.struct [(0, 9), (1, 3), (2, 3)], 3, 32, [.sc (.string { data := #[] }), .sc (.int .i64 0), .sc (.int .i64 0)]⟩
theorem ty200 : TyOk Tryz.prog 200 d200 := ⟨⟨_, Tryz.underlying200, rfl⟩, ⟨_, _, Tryz.type200, rfl, rfl, rfl, rfl⟩, rfl, rfl⟩
def d201 : TD := ⟨.struct [(0, 9), (1, 3), (2, 3)], 3, 32, [.sc (.string { data := #[] }), .sc (.int .i64 0), .sc (.int .i64 0)]⟩
theorem ty201 : TyOk Tryz.prog 201 d201 := ⟨⟨_, Tryz.underlying201, rfl⟩, ⟨_, _, Tryz.type201, rfl, rfl, rfl, rfl⟩, rfl, rfl⟩
def d212 : TD := ⟨.struct [(0, 3), (1, 3), (2, 3), (3, 9)], 4, 40, [.sc (.int .i64 0), .sc (.int .i64 0), .sc (.int .i64 0), .sc (.string { data := #[] })]⟩
theorem ty212 : TyOk Tryz.prog 212 d212 := ⟨⟨_, Tryz.underlying212, rfl⟩, ⟨_, _, Tryz.type212, rfl, rfl, rfl, rfl⟩, rfl, rfl⟩
def d214 : TD := ⟨.struct [(0, 9), (1, 3), (2, 3)], 3, 32, [.sc (.string { data := #[] }), .sc (.int .i64 0), .sc (.int .i64 0)]⟩
theorem ty214 : TyOk Tryz.prog 214 d214 := ⟨⟨_, Tryz.underlying214, rfl⟩, ⟨_, _, Tryz.type214, rfl, rfl, rfl, rfl⟩, rfl, rfl⟩
def d224 : TD := ⟨.struct [(0, 3), (1, 79)], 12, 144, [.sc (.int .i64 0), .sc (.int .i64 0), .nil 5, .sc (.int .i64 0), .sc (.int .i64 0), .sc (.int .i64 0), .sc (.int .i64 0), .sc (.int .i64 0), .sc (.int .i64 0), .sc (.int .i64 0), .nil 1, .nil 1]⟩
theorem ty224 : TyOk Tryz.prog 224 d224 := ⟨⟨_, Tryz.underlying224, rfl⟩, ⟨_, _, Tryz.type224, rfl, rfl, rfl, rfl⟩, rfl, rfl⟩
def d225 : TD := ⟨.struct [(0, 3), (1, 79)], 12, 144, [.sc (.int .i64 0), .sc (.int .i64 0), .nil 5, .sc (.int .i64 0), .sc (.int .i64 0), .sc (.int .i64 0), .sc (.int .i64 0), .sc (.int .i64 0), .sc (.int .i64 0), .sc (.int .i64 0), .nil 1, .nil 1]⟩
theorem ty225 : TyOk Tryz.prog 225 d225 := ⟨⟨_, Tryz.underlying225, rfl⟩, ⟨_, _, Tryz.type225, rfl, rfl, rfl, rfl⟩, rfl, rfl⟩
def d227 : TD := ⟨.slice 231, 1, 24, [.nil 2]⟩
theorem ty227 : TyOk Tryz.prog 227 d227 := ⟨Tryz.underlying227, ⟨_, _, Tryz.type227, rfl, rfl, rfl, rfl⟩, rfl, rfl⟩
def d228 : TD := ⟨.struct [(0, 3), (1, 3), (2, 35), (3, 3), (4, 227)], 5, 72, [.sc (.int .i64 0), .sc (.int .i64 0), .nil 1, .sc (.int .i64 0), .nil 2]⟩
theorem ty228 : TyOk Tryz.prog 228 d228 := ⟨⟨_, Tryz.underlying228, rfl⟩, ⟨_, _, Tryz.type228, rfl, rfl, rfl, rfl⟩, rfl, rfl⟩
def d229 : TD := ⟨.struct [(0, 3), (1, 3), (2, 35), (3, 3), (4, 227)], 5, 72, [.sc (.int .i64 0), .sc (.int .i64 0), .nil 1, .sc (.int .i64 0), .nil 2]⟩
theorem ty229 : TyOk Tryz.prog 229 d229 := ⟨⟨_, Tryz.underlying229, rfl⟩, ⟨_, _, Tryz.type229, rfl, rfl, rfl, rfl⟩, rfl, rfl⟩
def d231 : TD := ⟨.struct [(0, 3), (1, 9)], 2, 24, [.sc (.int .i64 0), .sc (.string { data := #[] })]⟩
theorem ty231 : TyOk Tryz.prog 231 d231 := ⟨⟨_, Tryz.underlying231, rfl⟩, ⟨_, _, Tryz.type231, rfl, rfl, rfl, rfl⟩, rfl, rfl⟩
def d232 : TD := ⟨.struct [(0, 3), (1, 3), (2, 3), (3, 231)], 5, 48, [.sc (.int .i64 0), .sc (.int .i64 0), .sc (.int .i64 0), .sc (.int .i64 0), .sc (.string { data := #[] })]⟩
theorem ty232 : TyOk Tryz.prog 232 d232 := ⟨⟨_, Tryz.underlying232, rfl⟩, ⟨_, _, Tryz.type232, rfl, rfl, rfl, rfl⟩, rfl, rfl⟩
def d233 : TD := ⟨.struct [(0, 3), (1, 3), (2, 3), (3, 231)], 5, 48, [.sc (.int .i64 0), .sc (.int .i64 0), .sc (.int .i64 0), .sc (.int .i64 0), .sc (.string { data := #[] })]⟩
theorem ty233 : TyOk Tryz.prog 233 d233 := ⟨⟨_, Tryz.underlying233, rfl⟩, ⟨_, _, Tryz.type233, rfl, rfl, rfl, rfl⟩, rfl, rfl⟩
def d235 : TD := ⟨.struct [(0, 3), (1, 3), (2, 9)], 3, 32, [.sc (.int .i64 0), .sc (.int .i64 0), .sc (.string { data := #[] })]⟩
theorem ty235 : TyOk Tryz.prog 235 d235 := ⟨⟨_, Tryz.underlying235, rfl⟩, ⟨_, _, Tryz.type235, rfl, rfl, rfl, rfl⟩, rfl, rfl⟩
def d265 : TD := ⟨.ptr 64, 1, 8, [.sc (.pointer none)]⟩
theorem ty265 : TyOk Tryz.prog 265 d265 := ⟨Tryz.underlying265, ⟨_, _, Tryz.type265, rfl, rfl, rfl, rfl⟩, rfl, rfl⟩
def d272 : TD := ⟨.struct [(0, 3), (1, 3), (2, 9), (3, 3), (4, 3)], 5, 48, [.sc (.int .i64 0), .sc (.int .i64 0), .sc (.string { data := #[] }), .sc (.int .i64 0), .sc (.int .i64 0)]⟩
theorem ty272 : TyOk Tryz.prog 272 d272 := ⟨⟨_, Tryz.underlying272, rfl⟩, ⟨_, _, Tryz.type272, rfl, rfl, rfl, rfl⟩, rfl, rfl⟩
def d273 : TD := ⟨.struct [(0, 3), (1, 3), (2, 9), (3, 3), (4, 3)], 5, 48, [.sc (.int .i64 0), .sc (.int .i64 0), .sc (.string { data := #[] }), .sc (.int .i64 0), .sc (.int .i64 0)]⟩
theorem ty273 : TyOk Tryz.prog 273 d273 := ⟨⟨_, Tryz.underlying273, rfl⟩, ⟨_, _, Tryz.type273, rfl, rfl, rfl, rfl⟩, rfl, rfl⟩
def d274 : TD := ⟨.struct [(0, 3), (1, 3), (2, 9), (3, 3), (4, 3)], 5, 48, [.sc (.int .i64 0), .sc (.int .i64 0), .sc (.string { data := #[] }), .sc (.int .i64 0), .sc (.int .i64 0)]⟩
theorem ty274 : TyOk Tryz.prog 274 d274 := ⟨⟨_, Tryz.underlying274, rfl⟩, ⟨_, _, Tryz.type274, rfl, rfl, rfl, rfl⟩, rfl, rfl⟩
def d295 : TD := ⟨.ptr 34, 1, 8, [.sc (.pointer none)]⟩
theorem ty295 : TyOk Tryz.prog 295 d295 := ⟨Tryz.underlying295, ⟨_, _, Tryz.type295, rfl, rfl, rfl, rfl⟩, rfl, rfl⟩
def d303 : TD := ⟨.ptr 305, 1, 8, [.sc (.pointer none)]⟩
theorem ty303 : TyOk Tryz.prog 303 d303 := ⟨Tryz.underlying303, ⟨_, _, Tryz.type303, rfl, rfl, rfl, rfl⟩, rfl, rfl⟩
def d304 : TD := ⟨.struct [(0, 34), (8, 43)], 11, 152, [.nil 5, .sc (.int .i64 0), .sc (.int .i64 0), .sc (.int .i64 0), .sc (.int .i64 0), .sc (.int .i64 0), .sc (.int .i64 0), .sc (.int .i64 0), .nil 5, .nil 4, .nil 3]⟩
theorem ty304 : TyOk Tryz.prog 304 d304 := ⟨⟨_, Tryz.underlying304, rfl⟩, ⟨_, _, Tryz.type304, rfl, rfl, rfl, rfl⟩, rfl, rfl⟩
def d305 : TD := ⟨.struct [(0, 34), (8, 43)], 11, 152, [.nil 5, .sc (.int .i64 0), .sc (.int .i64 0), .sc (.int .i64 0), .sc (.int .i64 0), .sc (.int .i64 0), .sc (.int .i64 0), .sc (.int .i64 0), .nil 5, .nil 4, .nil 3]⟩
theorem ty305 : TyOk Tryz.prog 305 d305 := ⟨⟨_, Tryz.underlying305, rfl⟩, ⟨_, _, Tryz.type305, rfl, rfl, rfl, rfl⟩, rfl, rfl⟩
def d328 : TD := ⟨.ptr 32, 1, 8, [.sc (.pointer none)]⟩
theorem ty328 : TyOk Tryz.prog 328 d328 := ⟨Tryz.underlying328, ⟨_, _, Tryz.type328, rfl, rfl, rfl, rfl⟩, rfl, rfl⟩
def d344 : TD := ⟨.ptr 346, 1, 8, [.sc (.pointer none)]⟩
theorem ty344 : TyOk Tryz.prog 344 d344 := ⟨Tryz.underlying344, ⟨_, _, Tryz.type344, rfl, rfl, rfl, rfl⟩, rfl, rfl⟩
def d345 : TD := ⟨.struct [(0, 32), (1, 113)], 2, 48, [.nil 5, .nil 1]⟩
theorem ty345 : TyOk Tryz.prog 345 d345 := ⟨⟨_, Tryz.underlying345, rfl⟩, ⟨_, _, Tryz.type345, rfl, rfl, rfl, rfl⟩, rfl, rfl⟩
def d346 : TD := ⟨.struct [(0, 32), (1, 113)], 2, 48, [.nil 5, .nil 1]⟩
theorem ty346 : TyOk Tryz.prog 346 d346 := ⟨⟨_, Tryz.underlying346, rfl⟩, ⟨_, _, Tryz.type346, rfl, rfl, rfl, rfl⟩, rfl, rfl⟩
def d359 : TD := ⟨.slice 4, 1, 24, [.nil 1]⟩
theorem ty359 : TyOk Tryz.prog 359 d359 := ⟨Tryz.underlying359, ⟨_, _, Tryz.type359, rfl, rfl, rfl, rfl⟩, rfl, rfl⟩
def d374 : TD := ⟨.int .u64, 1, 8, [.sc (.int .u64 0)]⟩
theorem ty374 : TyOk Tryz.prog 374 d374 := ⟨Tryz.underlying374, ⟨_, _, Tryz.type374, rfl, rfl, rfl, rfl⟩, rfl, rfl⟩
def d382 : TD := ⟨.slice 113, 1, 24, [.nil 1]⟩
theorem ty382 : TyOk Tryz.prog 382 d382 := ⟨Tryz.underlying382, ⟨_, _, Tryz.type382, rfl, rfl, rfl, rfl⟩, rfl, rfl⟩
def d394 : TD := ⟨.struct [(0, 17), (1, 17), (2, 17), (3, 9)], 4, 40, [.sc (.pointer none), .sc (.pointer none), .sc (.pointer none), .sc (.string { data := #[] })]⟩
theorem ty394 : TyOk Tryz.prog 394 d394 := ⟨⟨_, Tryz.underlying394, rfl⟩, ⟨_, _, Tryz.type394, rfl, rfl, rfl, rfl⟩, rfl, rfl⟩
def d395 : TD := ⟨.struct [(0, 17), (1, 17), (2, 17), (3, 9)], 4, 40, [.sc (.pointer none), .sc (.pointer none), .sc (.pointer none), .sc (.string { data := #[] })]⟩
theorem ty395 : TyOk Tryz.prog 395 d395 := ⟨⟨_, Tryz.underlying395, rfl⟩, ⟨_, _, Tryz.type395, rfl, rfl, rfl, rfl⟩, rfl, rfl⟩
def d397 : TD := ⟨.struct [(0, 396)], 0, 0, []⟩
theorem ty397 : TyOk Tryz.prog 397 d397 := ⟨⟨_, Tryz.underlying397, rfl⟩, ⟨_, _, Tryz.type397, rfl, rfl, rfl, rfl⟩, rfl, rfl⟩
def d398 : TD := ⟨.struct [(0, 396)], 0, 0, []⟩
theorem ty398 : TyOk Tryz.prog 398 d398 := ⟨⟨_, Tryz.underlying398, rfl⟩, ⟨_, _, Tryz.type398, rfl, rfl, rfl, rfl⟩, rfl, rfl⟩
def d399 : TD := ⟨.int .u32, 1, 4, [.sc (.int .u32 0)]⟩
theorem ty399 : TyOk Tryz.prog 399 d399 := ⟨Tryz.underlying399, ⟨_, _, Tryz.type399, rfl, rfl, rfl, rfl⟩, rfl, rfl⟩
def d400 : TD := ⟨.int .u8, 1, 1, [.sc (.int .u8 0)]⟩
theorem ty400 : TyOk Tryz.prog 400 d400 := ⟨Tryz.underlying400, ⟨_, _, Tryz.type400, rfl, rfl, rfl, rfl⟩, rfl, rfl⟩
def d401 : TD := ⟨.int .u8, 1, 1, [.sc (.int .u8 0)]⟩
theorem ty401 : TyOk Tryz.prog 401 d401 := ⟨Tryz.underlying401, ⟨_, _, Tryz.type401, rfl, rfl, rfl, rfl⟩, rfl, rfl⟩
def d403 : TD := ⟨.ptr 5, 1, 8, [.sc (.pointer none)]⟩
theorem ty403 : TyOk Tryz.prog 403 d403 := ⟨Tryz.underlying403, ⟨_, _, Tryz.type403, rfl, rfl, rfl, rfl⟩, rfl, rfl⟩
def d404 : TD := ⟨.int .i32, 1, 4, [.sc (.int .i32 0)]⟩
theorem ty404 : TyOk Tryz.prog 404 d404 := ⟨Tryz.underlying404, ⟨_, _, Tryz.type404, rfl, rfl, rfl, rfl⟩, rfl, rfl⟩
def d405 : TD := ⟨.int .i32, 1, 4, [.sc (.int .i32 0)]⟩
theorem ty405 : TyOk Tryz.prog 405 d405 := ⟨Tryz.underlying405, ⟨_, _, Tryz.type405, rfl, rfl, rfl, rfl⟩, rfl, rfl⟩
def d406 : TD := ⟨.struct [(0, 12), (1, 12), (2, 399), (3, 400), (4, 5), (5, 5), (6, 401), (7, 402), (8, 403), (9, 404), (10, 405)], 11, 48, [.sc (.int .u64 0), .sc (.int .u64 0), .sc (.int .u32 0), .sc (.int .u8 0), .sc (.int .u8 0), .sc (.int .u8 0), .sc (.int .u8 0), .sc (.nilFunc), .sc (.pointer none), .sc (.int .i32 0), .sc (.int .i32 0)]⟩
theorem ty406 : TyOk Tryz.prog 406 d406 := ⟨⟨_, Tryz.underlying406, rfl⟩, ⟨_, _, Tryz.type406, rfl, rfl, rfl, rfl⟩, rfl, rfl⟩
def d407 : TD := ⟨.struct [(0, 12), (1, 12), (2, 399), (3, 400), (4, 5), (5, 5), (6, 401), (7, 402), (8, 403), (9, 404), (10, 405)], 11, 48, [.sc (.int .u64 0), .sc (.int .u64 0), .sc (.int .u32 0), .sc (.int .u8 0), .sc (.int .u8 0), .sc (.int .u8 0), .sc (.int .u8 0), .sc (.nilFunc), .sc (.pointer none), .sc (.int .i32 0), .sc (.int .i32 0)]⟩
theorem ty407 : TyOk Tryz.prog 407 d407 := ⟨⟨_, Tryz.underlying407, rfl⟩, ⟨_, _, Tryz.type407, rfl, rfl, rfl, rfl⟩, rfl, rfl⟩

def τ (t : Nat) : Option TD :=
  match t with
  | 2 => some d2
  | 3 => some d3
  | 4 => some d4
  | 5 => some d5
  | 6 => some d6
  | 7 => some d7
  | 8 => some d8
  | 9 => some d9
  | 10 => some d10
  | 11 => some d11
  | 12 => some d12
  | 13 => some d13
  | 14 => some d14
  | 15 => some d15
  | 16 => some d16
  | 17 => some d17
  | 18 => some d18
  | 19 => some d19
  | 21 => some d21
  | 22 => some d22
  | 23 => some d23
  | 24 => some d24
  | 25 => some d25
  | 26 => some d26
  | 27 => some d27
  | 28 => some d28
  | 30 => some d30
  | 31 => some d31
  | 32 => some d32
  | 33 => some d33
  | 34 => some d34
  | 35 => some d35
  | 36 => some d36
  | 37 => some d37
  | 40 => some d40
  | 41 => some d41
  | 42 => some d42
  | 43 => some d43
  | 50 => some d50
  | 51 => some d51
  | 52 => some d52
  | 53 => some d53
  | 54 => some d54
  | 55 => some d55
  | 56 => some d56
  | 59 => some d59
  | 60 => some d60
  | 61 => some d61
  | 62 => some d62
  | 63 => some d63
  | 64 => some d64
  | 76 => some d76
  | 77 => some d77
  | 78 => some d78
  | 79 => some d79
  | 81 => some d81
  | 82 => some d82
  | 88 => some d88
  | 89 => some d89
  | 92 => some d92
  | 97 => some d97
  | 99 => some d99
  | 102 => some d102
  | 112 => some d112
  | 113 => some d113
  | 114 => some d114
  | 115 => some d115
  | 125 => some d125
  | 126 => some d126
  | 127 => some d127
  | 153 => some d153
  | 154 => some d154
  | 156 => some d156
  | 157 => some d157
  | 158 => some d158
  | 159 => some d159
  | 163 => some d163
  | 164 => some d164
  | 171 => some d171
  | 172 => some d172
  | 173 => some d173
  | 197 => some d197
  | 198 => some d198
  | 200 => some d200
  | 201 => some d201
  | 212 => some d212
  | 214 => some d214
  | 224 => some d224
  | 225 => some d225
  | 227 => some d227
  | 228 => some d228
  | 229 => some d229
  | 231 => some d231
  | 232 => some d232
  | 233 => some d233
  | 235 => some d235
  | 265 => some d265
  | 272 => some d272
  | 273 => some d273
  | 274 => some d274
  | 295 => some d295
  | 303 => some d303
  | 304 => some d304
  | 305 => some d305
  | 328 => some d328
  | 344 => some d344
  | 345 => some d345
  | 346 => some d346
  | 359 => some d359
  | 374 => some d374
  | 382 => some d382
  | 394 => some d394
  | 395 => some d395
  | 397 => some d397
  | 398 => some d398
  | 399 => some d399
  | 400 => some d400
  | 401 => some d401
  | 403 => some d403
  | 404 => some d404
  | 405 => some d405
  | 406 => some d406
  | 407 => some d407
  | _ => none

theorem τ_ok : ∀ t d, τ t = some d → TyOk Tryz.prog t d := by
  intro t d h
  unfold τ at h
  split at h
  · cases h; exact ty2
  · cases h; exact ty3
  · cases h; exact ty4
  · cases h; exact ty5
  · cases h; exact ty6
  · cases h; exact ty7
  · cases h; exact ty8
  · cases h; exact ty9
  · cases h; exact ty10
  · cases h; exact ty11
  · cases h; exact ty12
  · cases h; exact ty13
  · cases h; exact ty14
  · cases h; exact ty15
  · cases h; exact ty16
  · cases h; exact ty17
  · cases h; exact ty18
  · cases h; exact ty19
  · cases h; exact ty21
  · cases h; exact ty22
  · cases h; exact ty23
  · cases h; exact ty24
  · cases h; exact ty25
  · cases h; exact ty26
  · cases h; exact ty27
  · cases h; exact ty28
  · cases h; exact ty30
  · cases h; exact ty31
  · cases h; exact ty32
  · cases h; exact ty33
  · cases h; exact ty34
  · cases h; exact ty35
  · cases h; exact ty36
  · cases h; exact ty37
  · cases h; exact ty40
  · cases h; exact ty41
  · cases h; exact ty42
  · cases h; exact ty43
  · cases h; exact ty50
  · cases h; exact ty51
  · cases h; exact ty52
  · cases h; exact ty53
  · cases h; exact ty54
  · cases h; exact ty55
  · cases h; exact ty56
  · cases h; exact ty59
  · cases h; exact ty60
  · cases h; exact ty61
  · cases h; exact ty62
  · cases h; exact ty63
  · cases h; exact ty64
  · cases h; exact ty76
  · cases h; exact ty77
  · cases h; exact ty78
  · cases h; exact ty79
  · cases h; exact ty81
  · cases h; exact ty82
  · cases h; exact ty88
  · cases h; exact ty89
  · cases h; exact ty92
  · cases h; exact ty97
  · cases h; exact ty99
  · cases h; exact ty102
  · cases h; exact ty112
  · cases h; exact ty113
  · cases h; exact ty114
  · cases h; exact ty115
  · cases h; exact ty125
  · cases h; exact ty126
  · cases h; exact ty127
  · cases h; exact ty153
  · cases h; exact ty154
  · cases h; exact ty156
  · cases h; exact ty157
  · cases h; exact ty158
  · cases h; exact ty159
  · cases h; exact ty163
  · cases h; exact ty164
  · cases h; exact ty171
  · cases h; exact ty172
  · cases h; exact ty173
  · cases h; exact ty197
  · cases h; exact ty198
  · cases h; exact ty200
  · cases h; exact ty201
  · cases h; exact ty212
  · cases h; exact ty214
  · cases h; exact ty224
  · cases h; exact ty225
  · cases h; exact ty227
  · cases h; exact ty228
  · cases h; exact ty229
  · cases h; exact ty231
  · cases h; exact ty232
  · cases h; exact ty233
  · cases h; exact ty235
  · cases h; exact ty265
  · cases h; exact ty272
  · cases h; exact ty273
  · cases h; exact ty274
  · cases h; exact ty295
  · cases h; exact ty303
  · cases h; exact ty304
  · cases h; exact ty305
  · cases h; exact ty328
  · cases h; exact ty344
  · cases h; exact ty345
  · cases h; exact ty346
  · cases h; exact ty359
  · cases h; exact ty374
  · cases h; exact ty382
  · cases h; exact ty394
  · cases h; exact ty395
  · cases h; exact ty397
  · cases h; exact ty398
  · cases h; exact ty399
  · cases h; exact ty400
  · cases h; exact ty401
  · cases h; exact ty403
  · cases h; exact ty404
  · cases h; exact ty405
  · cases h; exact ty406
  · cases h; exact ty407
  · cases h

theorem mixed : Tryz.prog.follows .mixedOrders = true := by rfl

end Go.Proofs.YtcaonpncopfeoaaGreat.V
