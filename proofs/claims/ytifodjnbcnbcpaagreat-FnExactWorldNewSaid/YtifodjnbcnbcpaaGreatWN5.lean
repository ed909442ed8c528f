/- Part 5 of what the row leans on: T, Q2. -/
import Derived.Test.YtifodjnbcnbcpaaGreatWN4
import Derived.Test.YtifodjnbcnbcpaaGreatChecked
set_option linter.unusedVariables false

set_option linter.unusedSimpArgs false

set_option maxRecDepth 100000

namespace Go.Proofs.YtifodjnbcnbcpaaGreat.V

open Go

def d2 : TD := ⟨.int .i64, 1, 8, [.sc (.int .i64 0)]⟩

theorem ty2 : TyOk Tryz.prog 2 d2 := ⟨Tryz.underlying2, ⟨_, _, Tryz.type2, rfl, rfl, rfl, rfl⟩, rfl, rfl⟩

def d3 : TD := ⟨.int .i64, 1, 8, [.sc (.int .i64 0)]⟩

theorem ty3 : TyOk Tryz.prog 3 d3 := ⟨Tryz.underlying3, ⟨_, _, Tryz.type3, rfl, rfl, rfl, rfl⟩, rfl, rfl⟩

def d4 : TD := ⟨.bool, 1, 1, [.sc (.bool false)]⟩

theorem ty4 : TyOk Tryz.prog 4 d4 := ⟨Tryz.underlying4, ⟨_, _, Tryz.type4, rfl, rfl, rfl, rfl⟩, rfl, rfl⟩

def d5 : TD := ⟨.int .u8, 1, 1, [.sc (.int .u8 0)]⟩

theorem ty5 : TyOk Tryz.prog 5 d5 := ⟨Tryz.underlying5, ⟨_, _, Tryz.type5, rfl, rfl, rfl, rfl⟩, rfl, rfl⟩

def d6 : TD := ⟨.int .u8, 1, 1, [.sc (.int .u8 0)]⟩

theorem ty6 : TyOk Tryz.prog 6 d6 := ⟨Tryz.underlying6, ⟨_, _, Tryz.type6, rfl, rfl, rfl, rfl⟩, rfl, rfl⟩

def d7 : TD := ⟨.struct [(0, 2), (1, 3), (2, 4), (3, 6)], 4, 24, [.sc (.int .i64 0), .sc (.int .i64 0), .sc (.bool false), .sc (.int .u8 0)]⟩

theorem ty7 : TyOk Tryz.prog 7 d7 := ⟨⟨_, Tryz.underlying7, rfl⟩, ⟨_, _, Tryz.type7, rfl, rfl, rfl, rfl⟩, rfl, rfl⟩

def d8 : TD := ⟨.struct [(0, 2), (1, 3), (2, 4), (3, 6)], 4, 24, [.sc (.int .i64 0), .sc (.int .i64 0), .sc (.bool false), .sc (.int .u8 0)]⟩

theorem ty8 : TyOk Tryz.prog 8 d8 := ⟨⟨_, Tryz.underlying8, rfl⟩, ⟨_, _, Tryz.type8, rfl, rfl, rfl, rfl⟩, rfl, rfl⟩

def d9 : TD := ⟨.str, 1, 16, [.sc (.string { data := #[] })]⟩

theorem ty9 : TyOk Tryz.prog 9 d9 := ⟨Tryz.underlying9, ⟨_, _, Tryz.type9, rfl, rfl, rfl, rfl⟩, rfl, rfl⟩

def d10 : TD := ⟨.str, 1, 16, [.sc (.string { data := #[] })]⟩

theorem ty10 : TyOk Tryz.prog 10 d10 := ⟨Tryz.underlying10, ⟨_, _, Tryz.type10, rfl, rfl, rfl, rfl⟩, rfl, rfl⟩

def d11 : TD := ⟨.str, 1, 16, [.sc (.string { data := #[] })]⟩

theorem ty11 : TyOk Tryz.prog 11 d11 := ⟨Tryz.underlying11, ⟨_, _, Tryz.type11, rfl, rfl, rfl, rfl⟩, rfl, rfl⟩

def d12 : TD := ⟨.int .u64, 1, 8, [.sc (.int .u64 0)]⟩

theorem ty12 : TyOk Tryz.prog 12 d12 := ⟨Tryz.underlying12, ⟨_, _, Tryz.type12, rfl, rfl, rfl, rfl⟩, rfl, rfl⟩

def d13 : TD := ⟨.struct [(0, 9), (1, 12)], 2, 24, [.sc (.string { data := #[] }), .sc (.int .u64 0)]⟩

theorem ty13 : TyOk Tryz.prog 13 d13 := ⟨⟨_, Tryz.underlying13, rfl⟩, ⟨_, _, Tryz.type13, rfl, rfl, rfl, rfl⟩, rfl, rfl⟩

def d14 : TD := ⟨.struct [(0, 9), (1, 12)], 2, 24, [.sc (.string { data := #[] }), .sc (.int .u64 0)]⟩

theorem ty14 : TyOk Tryz.prog 14 d14 := ⟨⟨_, Tryz.underlying14, rfl⟩, ⟨_, _, Tryz.type14, rfl, rfl, rfl, rfl⟩, rfl, rfl⟩

def d15 : TD := ⟨.ptr 389, 1, 8, [.sc (.pointer none)]⟩

theorem ty15 : TyOk Tryz.prog 15 d15 := ⟨Tryz.underlying15, ⟨_, _, Tryz.type15, rfl, rfl, rfl, rfl⟩, rfl, rfl⟩

def d16 : TD := ⟨.ptr 392, 1, 8, [.sc (.pointer none)]⟩

theorem ty16 : TyOk Tryz.prog 16 d16 := ⟨Tryz.underlying16, ⟨_, _, Tryz.type16, rfl, rfl, rfl, rfl⟩, rfl, rfl⟩

def d17 : TD := ⟨.ptr 401, 1, 8, [.sc (.pointer none)]⟩

theorem ty17 : TyOk Tryz.prog 17 d17 := ⟨Tryz.underlying17, ⟨_, _, Tryz.type17, rfl, rfl, rfl, rfl⟩, rfl, rfl⟩

def d18 : TD := ⟨.struct [(0, 17)], 1, 8, [.sc (.pointer none)]⟩

theorem ty18 : TyOk Tryz.prog 18 d18 := ⟨⟨_, Tryz.underlying18, rfl⟩, ⟨_, _, Tryz.type18, rfl, rfl, rfl, rfl⟩, rfl, rfl⟩

def d19 : TD := ⟨.struct [(0, 17)], 1, 8, [.sc (.pointer none)]⟩

theorem ty19 : TyOk Tryz.prog 19 d19 := ⟨⟨_, Tryz.underlying19, rfl⟩, ⟨_, _, Tryz.type19, rfl, rfl, rfl, rfl⟩, rfl, rfl⟩

def d21 : TD := ⟨.int .i32, 1, 4, [.sc (.int .i32 0)]⟩

theorem ty21 : TyOk Tryz.prog 21 d21 := ⟨Tryz.underlying21, ⟨_, _, Tryz.type21, rfl, rfl, rfl, rfl⟩, rfl, rfl⟩

def d22 : TD := ⟨.slice 229, 1, 24, [.nil 5]⟩

theorem ty22 : TyOk Tryz.prog 22 d22 := ⟨Tryz.underlying22, ⟨_, _, Tryz.type22, rfl, rfl, rfl, rfl⟩, rfl, rfl⟩

def d23 : TD := ⟨.struct [(0, 22)], 1, 24, [.nil 5]⟩

theorem ty23 : TyOk Tryz.prog 23 d23 := ⟨⟨_, Tryz.underlying23, rfl⟩, ⟨_, _, Tryz.type23, rfl, rfl, rfl, rfl⟩, rfl, rfl⟩

def d24 : TD := ⟨.struct [(0, 22)], 1, 24, [.nil 5]⟩

theorem ty24 : TyOk Tryz.prog 24 d24 := ⟨⟨_, Tryz.underlying24, rfl⟩, ⟨_, _, Tryz.type24, rfl, rfl, rfl, rfl⟩, rfl, rfl⟩

def d25 : TD := ⟨.slice 156, 1, 24, [.nil 4]⟩

theorem ty25 : TyOk Tryz.prog 25 d25 := ⟨Tryz.underlying25, ⟨_, _, Tryz.type25, rfl, rfl, rfl, rfl⟩, rfl, rfl⟩

def d26 : TD := ⟨.slice 159, 1, 24, [.nil 3]⟩

theorem ty26 : TyOk Tryz.prog 26 d26 := ⟨Tryz.underlying26, ⟨_, _, Tryz.type26, rfl, rfl, rfl, rfl⟩, rfl, rfl⟩

def d27 : TD := ⟨.struct [(0, 24), (1, 25), (2, 26)], 3, 72, [.nil 5, .nil 4, .nil 3]⟩

theorem ty27 : TyOk Tryz.prog 27 d27 := ⟨⟨_, Tryz.underlying27, rfl⟩, ⟨_, _, Tryz.type27, rfl, rfl, rfl, rfl⟩, rfl, rfl⟩

def d28 : TD := ⟨.struct [(0, 24), (1, 25), (2, 26)], 3, 72, [.nil 5, .nil 4, .nil 3]⟩

theorem ty28 : TyOk Tryz.prog 28 d28 := ⟨⟨_, Tryz.underlying28, rfl⟩, ⟨_, _, Tryz.type28, rfl, rfl, rfl, rfl⟩, rfl, rfl⟩

def d30 : TD := ⟨.slice 231, 1, 24, [.nil 5]⟩

theorem ty30 : TyOk Tryz.prog 30 d30 := ⟨Tryz.underlying30, ⟨_, _, Tryz.type30, rfl, rfl, rfl, rfl⟩, rfl, rfl⟩

def d31 : TD := ⟨.struct [(0, 30)], 1, 24, [.nil 5]⟩

theorem ty31 : TyOk Tryz.prog 31 d31 := ⟨⟨_, Tryz.underlying31, rfl⟩, ⟨_, _, Tryz.type31, rfl, rfl, rfl, rfl⟩, rfl, rfl⟩

def d32 : TD := ⟨.struct [(0, 30)], 1, 24, [.nil 5]⟩

theorem ty32 : TyOk Tryz.prog 32 d32 := ⟨⟨_, Tryz.underlying32, rfl⟩, ⟨_, _, Tryz.type32, rfl, rfl, rfl, rfl⟩, rfl, rfl⟩

def d33 : TD := ⟨.slice 164, 1, 24, [.nil 4]⟩

theorem ty33 : TyOk Tryz.prog 33 d33 := ⟨Tryz.underlying33, ⟨_, _, Tryz.type33, rfl, rfl, rfl, rfl⟩, rfl, rfl⟩

def d34 : TD := ⟨.slice 166, 1, 24, [.nil 3]⟩

theorem ty34 : TyOk Tryz.prog 34 d34 := ⟨Tryz.underlying34, ⟨_, _, Tryz.type34, rfl, rfl, rfl, rfl⟩, rfl, rfl⟩

def d35 : TD := ⟨.struct [(0, 32), (1, 33), (2, 34)], 3, 72, [.nil 5, .nil 4, .nil 3]⟩

theorem ty35 : TyOk Tryz.prog 35 d35 := ⟨⟨_, Tryz.underlying35, rfl⟩, ⟨_, _, Tryz.type35, rfl, rfl, rfl, rfl⟩, rfl, rfl⟩

def d36 : TD := ⟨.struct [(0, 32), (1, 33), (2, 34)], 3, 72, [.nil 5, .nil 4, .nil 3]⟩

theorem ty36 : TyOk Tryz.prog 36 d36 := ⟨⟨_, Tryz.underlying36, rfl⟩, ⟨_, _, Tryz.type36, rfl, rfl, rfl, rfl⟩, rfl, rfl⟩

def d37 : TD := ⟨.slice 110, 1, 24, [.nil 12]⟩

theorem ty37 : TyOk Tryz.prog 37 d37 := ⟨Tryz.underlying37, ⟨_, _, Tryz.type37, rfl, rfl, rfl, rfl⟩, rfl, rfl⟩

def d38 : TD := ⟨.slice 173, 1, 24, [.nil 5]⟩

theorem ty38 : TyOk Tryz.prog 38 d38 := ⟨Tryz.underlying38, ⟨_, _, Tryz.type38, rfl, rfl, rfl, rfl⟩, rfl, rfl⟩

def d39 : TD := ⟨.slice 179, 1, 24, [.nil 5]⟩

theorem ty39 : TyOk Tryz.prog 39 d39 := ⟨Tryz.underlying39, ⟨_, _, Tryz.type39, rfl, rfl, rfl, rfl⟩, rfl, rfl⟩

def d40 : TD := ⟨.slice 182, 1, 24, [.nil 3]⟩

theorem ty40 : TyOk Tryz.prog 40 d40 := ⟨Tryz.underlying40, ⟨_, _, Tryz.type40, rfl, rfl, rfl, rfl⟩, rfl, rfl⟩

def d41 : TD := ⟨.slice 54, 1, 24, [.nil 1]⟩

theorem ty41 : TyOk Tryz.prog 41 d41 := ⟨Tryz.underlying41, ⟨_, _, Tryz.type41, rfl, rfl, rfl, rfl⟩, rfl, rfl⟩

def d42 : TD := ⟨.struct [(0, 36), (3, 3), (4, 37), (5, 38), (6, 39), (7, 40), (8, 3), (9, 41), (10, 41)], 11, 232, [.nil 5, .nil 4, .nil 3, .sc (.int .i64 0), .nil 12, .nil 5, .nil 5, .nil 3, .sc (.int .i64 0), .nil 1, .nil 1]⟩

theorem ty42 : TyOk Tryz.prog 42 d42 := ⟨⟨_, Tryz.underlying42, rfl⟩, ⟨_, _, Tryz.type42, rfl, rfl, rfl, rfl⟩, rfl, rfl⟩

def d43 : TD := ⟨.struct [(0, 36), (3, 3), (4, 37), (5, 38), (6, 39), (7, 40), (8, 3), (9, 41), (10, 41)], 11, 232, [.nil 5, .nil 4, .nil 3, .sc (.int .i64 0), .nil 12, .nil 5, .nil 5, .nil 3, .sc (.int .i64 0), .nil 1, .nil 1]⟩

theorem ty43 : TyOk Tryz.prog 43 d43 := ⟨⟨_, Tryz.underlying43, rfl⟩, ⟨_, _, Tryz.type43, rfl, rfl, rfl, rfl⟩, rfl, rfl⟩

def d52 : TD := ⟨.struct [(0, 24), (1, 3), (2, 3), (3, 3), (4, 3), (5, 3), (6, 3), (7, 3)], 8, 80, [.nil 5, .sc (.int .i64 0), .sc (.int .i64 0), .sc (.int .i64 0), .sc (.int .i64 0), .sc (.int .i64 0), .sc (.int .i64 0), .sc (.int .i64 0)]⟩

theorem ty52 : TyOk Tryz.prog 52 d52 := ⟨⟨_, Tryz.underlying52, rfl⟩, ⟨_, _, Tryz.type52, rfl, rfl, rfl, rfl⟩, rfl, rfl⟩

def d53 : TD := ⟨.struct [(0, 24), (1, 3), (2, 3), (3, 3), (4, 3), (5, 3), (6, 3), (7, 3)], 8, 80, [.nil 5, .sc (.int .i64 0), .sc (.int .i64 0), .sc (.int .i64 0), .sc (.int .i64 0), .sc (.int .i64 0), .sc (.int .i64 0), .sc (.int .i64 0)]⟩

theorem ty53 : TyOk Tryz.prog 53 d53 := ⟨⟨_, Tryz.underlying53, rfl⟩, ⟨_, _, Tryz.type53, rfl, rfl, rfl, rfl⟩, rfl, rfl⟩

def d54 : TD := ⟨.slice 9, 1, 24, [.nil 1]⟩

theorem ty54 : TyOk Tryz.prog 54 d54 := ⟨Tryz.underlying54, ⟨_, _, Tryz.type54, rfl, rfl, rfl, rfl⟩, rfl, rfl⟩

def d55 : TD := ⟨.struct [(0, 3), (1, 53), (9, 54), (10, 54)], 11, 136, [.sc (.int .i64 0), .nil 5, .sc (.int .i64 0), .sc (.int .i64 0), .sc (.int .i64 0), .sc (.int .i64 0), .sc (.int .i64 0), .sc (.int .i64 0), .sc (.int .i64 0), .nil 1, .nil 1]⟩

theorem ty55 : TyOk Tryz.prog 55 d55 := ⟨⟨_, Tryz.underlying55, rfl⟩, ⟨_, _, Tryz.type55, rfl, rfl, rfl, rfl⟩, rfl, rfl⟩

def d56 : TD := ⟨.struct [(0, 3), (1, 53), (9, 54), (10, 54)], 11, 136, [.sc (.int .i64 0), .nil 5, .sc (.int .i64 0), .sc (.int .i64 0), .sc (.int .i64 0), .sc (.int .i64 0), .sc (.int .i64 0), .sc (.int .i64 0), .sc (.int .i64 0), .nil 1, .nil 1]⟩

theorem ty56 : TyOk Tryz.prog 56 d56 := ⟨⟨_, Tryz.underlying56, rfl⟩, ⟨_, _, Tryz.type56, rfl, rfl, rfl, rfl⟩, rfl, rfl⟩

def d58 : TD := ⟨.struct [(0, 32), (1, 3), (2, 3), (3, 3), (4, 3), (5, 3), (6, 3), (7, 3)], 8, 80, [.nil 5, .sc (.int .i64 0), .sc (.int .i64 0), .sc (.int .i64 0), .sc (.int .i64 0), .sc (.int .i64 0), .sc (.int .i64 0), .sc (.int .i64 0)]⟩

theorem ty58 : TyOk Tryz.prog 58 d58 := ⟨⟨_, Tryz.underlying58, rfl⟩, ⟨_, _, Tryz.type58, rfl, rfl, rfl, rfl⟩, rfl, rfl⟩

def d59 : TD := ⟨.struct [(0, 32), (1, 3), (2, 3), (3, 3), (4, 3), (5, 3), (6, 3), (7, 3)], 8, 80, [.nil 5, .sc (.int .i64 0), .sc (.int .i64 0), .sc (.int .i64 0), .sc (.int .i64 0), .sc (.int .i64 0), .sc (.int .i64 0), .sc (.int .i64 0)]⟩

theorem ty59 : TyOk Tryz.prog 59 d59 := ⟨⟨_, Tryz.underlying59, rfl⟩, ⟨_, _, Tryz.type59, rfl, rfl, rfl, rfl⟩, rfl, rfl⟩

def d60 : TD := ⟨.struct [(0, 3), (1, 59), (9, 54), (10, 54)], 11, 136, [.sc (.int .i64 0), .nil 5, .sc (.int .i64 0), .sc (.int .i64 0), .sc (.int .i64 0), .sc (.int .i64 0), .sc (.int .i64 0), .sc (.int .i64 0), .sc (.int .i64 0), .nil 1, .nil 1]⟩

theorem ty60 : TyOk Tryz.prog 60 d60 := ⟨⟨_, Tryz.underlying60, rfl⟩, ⟨_, _, Tryz.type60, rfl, rfl, rfl, rfl⟩, rfl, rfl⟩

def d61 : TD := ⟨.struct [(0, 3), (1, 59), (9, 54), (10, 54)], 11, 136, [.sc (.int .i64 0), .nil 5, .sc (.int .i64 0), .sc (.int .i64 0), .sc (.int .i64 0), .sc (.int .i64 0), .sc (.int .i64 0), .sc (.int .i64 0), .sc (.int .i64 0), .nil 1, .nil 1]⟩

theorem ty61 : TyOk Tryz.prog 61 d61 := ⟨⟨_, Tryz.underlying61, rfl⟩, ⟨_, _, Tryz.type61, rfl, rfl, rfl, rfl⟩, rfl, rfl⟩

def d62 : TD := ⟨.struct [(0, 3), (1, 3), (2, 9)], 3, 32, [.sc (.int .i64 0), .sc (.int .i64 0), .sc (.string { data := #[] })]⟩

theorem ty62 : TyOk Tryz.prog 62 d62 := ⟨⟨_, Tryz.underlying62, rfl⟩, ⟨_, _, Tryz.type62, rfl, rfl, rfl, rfl⟩, rfl, rfl⟩

def d63 : TD := ⟨.struct [(0, 3), (1, 3), (2, 9)], 3, 32, [.sc (.int .i64 0), .sc (.int .i64 0), .sc (.string { data := #[] })]⟩

theorem ty63 : TyOk Tryz.prog 63 d63 := ⟨⟨_, Tryz.underlying63, rfl⟩, ⟨_, _, Tryz.type63, rfl, rfl, rfl, rfl⟩, rfl, rfl⟩

def d71 : TD := ⟨.slice 202, 1, 24, [.nil 12]⟩

theorem ty71 : TyOk Tryz.prog 71 d71 := ⟨Tryz.underlying71, ⟨_, _, Tryz.type71, rfl, rfl, rfl, rfl⟩, rfl, rfl⟩

def d72 : TD := ⟨.slice 206, 1, 24, [.nil 5]⟩

theorem ty72 : TyOk Tryz.prog 72 d72 := ⟨Tryz.underlying72, ⟨_, _, Tryz.type72, rfl, rfl, rfl, rfl⟩, rfl, rfl⟩

def d73 : TD := ⟨.slice 210, 1, 24, [.nil 5]⟩

theorem ty73 : TyOk Tryz.prog 73 d73 := ⟨Tryz.underlying73, ⟨_, _, Tryz.type73, rfl, rfl, rfl, rfl⟩, rfl, rfl⟩

def d74 : TD := ⟨.slice 212, 1, 24, [.nil 3]⟩

theorem ty74 : TyOk Tryz.prog 74 d74 := ⟨Tryz.underlying74, ⟨_, _, Tryz.type74, rfl, rfl, rfl, rfl⟩, rfl, rfl⟩

def d75 : TD := ⟨.struct [(0, 28), (3, 3), (4, 71), (5, 72), (6, 73), (7, 74), (8, 3), (9, 41), (10, 41)], 11, 232, [.nil 5, .nil 4, .nil 3, .sc (.int .i64 0), .nil 12, .nil 5, .nil 5, .nil 3, .sc (.int .i64 0), .nil 1, .nil 1]⟩

theorem ty75 : TyOk Tryz.prog 75 d75 := ⟨⟨_, Tryz.underlying75, rfl⟩, ⟨_, _, Tryz.type75, rfl, rfl, rfl, rfl⟩, rfl, rfl⟩

def d76 : TD := ⟨.struct [(0, 28), (3, 3), (4, 71), (5, 72), (6, 73), (7, 74), (8, 3), (9, 41), (10, 41)], 11, 232, [.nil 5, .nil 4, .nil 3, .sc (.int .i64 0), .nil 12, .nil 5, .nil 5, .nil 3, .sc (.int .i64 0), .nil 1, .nil 1]⟩

theorem ty76 : TyOk Tryz.prog 76 d76 := ⟨⟨_, Tryz.underlying76, rfl⟩, ⟨_, _, Tryz.type76, rfl, rfl, rfl, rfl⟩, rfl, rfl⟩

def d77 : TD := ⟨.struct [(0, 3), (1, 3), (2, 3)], 3, 24, [.sc (.int .i64 0), .sc (.int .i64 0), .sc (.int .i64 0)]⟩

theorem ty77 : TyOk Tryz.prog 77 d77 := ⟨⟨_, Tryz.underlying77, rfl⟩, ⟨_, _, Tryz.type77, rfl, rfl, rfl, rfl⟩, rfl, rfl⟩

def d78 : TD := ⟨.struct [(0, 3), (1, 3), (2, 3)], 3, 24, [.sc (.int .i64 0), .sc (.int .i64 0), .sc (.int .i64 0)]⟩

theorem ty78 : TyOk Tryz.prog 78 d78 := ⟨⟨_, Tryz.underlying78, rfl⟩, ⟨_, _, Tryz.type78, rfl, rfl, rfl, rfl⟩, rfl, rfl⟩

def d83 : TD := ⟨.struct [(0, 3), (1, 3), (2, 3)], 3, 24, [.sc (.int .i64 0), .sc (.int .i64 0), .sc (.int .i64 0)]⟩

theorem ty83 : TyOk Tryz.prog 83 d83 := ⟨⟨_, Tryz.underlying83, rfl⟩, ⟨_, _, Tryz.type83, rfl, rfl, rfl, rfl⟩, rfl, rfl⟩

def d90 : TD := ⟨.slice 78, 1, 24, [.nil 3]⟩

theorem ty90 : TyOk Tryz.prog 90 d90 := ⟨Tryz.underlying90, ⟨_, _, Tryz.type90, rfl, rfl, rfl, rfl⟩, rfl, rfl⟩

def d92 : TD := ⟨.slice 3, 1, 24, [.nil 1]⟩

theorem ty92 : TyOk Tryz.prog 92 d92 := ⟨Tryz.underlying92, ⟨_, _, Tryz.type92, rfl, rfl, rfl, rfl⟩, rfl, rfl⟩

def d95 : TD := ⟨.slice 83, 1, 24, [.nil 3]⟩

theorem ty95 : TyOk Tryz.prog 95 d95 := ⟨Tryz.underlying95, ⟨_, _, Tryz.type95, rfl, rfl, rfl, rfl⟩, rfl, rfl⟩

def d109 : TD := ⟨.struct [(0, 3), (1, 61)], 12, 144, [.sc (.int .i64 0), .sc (.int .i64 0), .nil 5, .sc (.int .i64 0), .sc (.int .i64 0), .sc (.int .i64 0), .sc (.int .i64 0), .sc (.int .i64 0), .sc (.int .i64 0), .sc (.int .i64 0), .nil 1, .nil 1]⟩

theorem ty109 : TyOk Tryz.prog 109 d109 := ⟨⟨_, Tryz.underlying109, rfl⟩, ⟨_, _, Tryz.type109, rfl, rfl, rfl, rfl⟩, rfl, rfl⟩

def d110 : TD := ⟨.struct [(0, 3), (1, 61)], 12, 144, [.sc (.int .i64 0), .sc (.int .i64 0), .nil 5, .sc (.int .i64 0), .sc (.int .i64 0), .sc (.int .i64 0), .sc (.int .i64 0), .sc (.int .i64 0), .sc (.int .i64 0), .sc (.int .i64 0), .nil 1, .nil 1]⟩

theorem ty110 : TyOk Tryz.prog 110 d110 := ⟨⟨_, Tryz.underlying110, rfl⟩, ⟨_, _, Tryz.type110, rfl, rfl, rfl, rfl⟩, rfl, rfl⟩

def d155 : TD := ⟨.struct [(0, 3), (1, 3), (2, 3), (3, 9)], 4, 40, [.sc (.int .i64 0), .sc (.int .i64 0), .sc (.int .i64 0), .sc (.string { data := #[] })]⟩

theorem ty155 : TyOk Tryz.prog 155 d155 := ⟨⟨_, Tryz.underlying155, rfl⟩, ⟨_, _, Tryz.type155, rfl, rfl, rfl, rfl⟩, rfl, rfl⟩

def d156 : TD := ⟨.struct [(0, 3), (1, 3), (2, 3), (3, 9)], 4, 40, [.sc (.int .i64 0), .sc (.int .i64 0), .sc (.int .i64 0), .sc (.string { data := #[] })]⟩

theorem ty156 : TyOk Tryz.prog 156 d156 := ⟨⟨_, Tryz.underlying156, rfl⟩, ⟨_, _, Tryz.type156, rfl, rfl, rfl, rfl⟩, rfl, rfl⟩

def d158 : TD := ⟨.struct [(0, 9), (1, 3), (2, 3)], 3, 32, [.sc (.string { data := #[] }), .sc (.int .i64 0), .sc (.int .i64 0)]⟩

theorem ty158 : TyOk Tryz.prog 158 d158 := ⟨⟨_, Tryz.underlying158, rfl⟩, ⟨_, _, Tryz.type158, rfl, rfl, rfl, rfl⟩, rfl, rfl⟩

def d159 : TD := ⟨.struct [(0, 9), (1, 3), (2, 3)], 3, 32, [.sc (.string { data := #[] }), .sc (.int .i64 0), .sc (.int .i64 0)]⟩

theorem ty159 : TyOk Tryz.prog 159 d159 := ⟨⟨_, Tryz.underlying159, rfl⟩, ⟨_, _, Tryz.type159, rfl, rfl, rfl, rfl⟩, rfl, rfl⟩

def d164 : TD := ⟨.struct [(0, 3), (1, 3), (2, 3), (3, 9)], 4, 40, [.sc (.int .i64 0), .sc (.int .i64 0), .sc (.int .i64 0), .sc (.string { data := #[] })]⟩

theorem ty164 : TyOk Tryz.prog 164 d164 := ⟨⟨_, Tryz.underlying164, rfl⟩, ⟨_, _, Tryz.type164, rfl, rfl, rfl, rfl⟩, rfl, rfl⟩

def d166 : TD := ⟨.struct [(0, 9), (1, 3), (2, 3)], 3, 32, [.sc (.string { data := #[] }), .sc (.int .i64 0), .sc (.int .i64 0)]⟩

theorem ty166 : TyOk Tryz.prog 166 d166 := ⟨⟨_, Tryz.underlying166, rfl⟩, ⟨_, _, Tryz.type166, rfl, rfl, rfl, rfl⟩, rfl, rfl⟩

def d171 : TD := ⟨.slice 177, 1, 24, [.nil 2]⟩

theorem ty171 : TyOk Tryz.prog 171 d171 := ⟨Tryz.underlying171, ⟨_, _, Tryz.type171, rfl, rfl, rfl, rfl⟩, rfl, rfl⟩

def d172 : TD := ⟨.struct [(0, 3), (1, 3), (2, 54), (3, 3), (4, 171)], 5, 72, [.sc (.int .i64 0), .sc (.int .i64 0), .nil 1, .sc (.int .i64 0), .nil 2]⟩

theorem ty172 : TyOk Tryz.prog 172 d172 := ⟨⟨_, Tryz.underlying172, rfl⟩, ⟨_, _, Tryz.type172, rfl, rfl, rfl, rfl⟩, rfl, rfl⟩

def d173 : TD := ⟨.struct [(0, 3), (1, 3), (2, 54), (3, 3), (4, 171)], 5, 72, [.sc (.int .i64 0), .sc (.int .i64 0), .nil 1, .sc (.int .i64 0), .nil 2]⟩

theorem ty173 : TyOk Tryz.prog 173 d173 := ⟨⟨_, Tryz.underlying173, rfl⟩, ⟨_, _, Tryz.type173, rfl, rfl, rfl, rfl⟩, rfl, rfl⟩

def d176 : TD := ⟨.struct [(0, 3), (1, 9)], 2, 24, [.sc (.int .i64 0), .sc (.string { data := #[] })]⟩

theorem ty176 : TyOk Tryz.prog 176 d176 := ⟨⟨_, Tryz.underlying176, rfl⟩, ⟨_, _, Tryz.type176, rfl, rfl, rfl, rfl⟩, rfl, rfl⟩

def d177 : TD := ⟨.struct [(0, 3), (1, 9)], 2, 24, [.sc (.int .i64 0), .sc (.string { data := #[] })]⟩

theorem ty177 : TyOk Tryz.prog 177 d177 := ⟨⟨_, Tryz.underlying177, rfl⟩, ⟨_, _, Tryz.type177, rfl, rfl, rfl, rfl⟩, rfl, rfl⟩

def d178 : TD := ⟨.struct [(0, 3), (1, 3), (2, 3), (3, 177)], 5, 48, [.sc (.int .i64 0), .sc (.int .i64 0), .sc (.int .i64 0), .sc (.int .i64 0), .sc (.string { data := #[] })]⟩

theorem ty178 : TyOk Tryz.prog 178 d178 := ⟨⟨_, Tryz.underlying178, rfl⟩, ⟨_, _, Tryz.type178, rfl, rfl, rfl, rfl⟩, rfl, rfl⟩

def d179 : TD := ⟨.struct [(0, 3), (1, 3), (2, 3), (3, 177)], 5, 48, [.sc (.int .i64 0), .sc (.int .i64 0), .sc (.int .i64 0), .sc (.int .i64 0), .sc (.string { data := #[] })]⟩

theorem ty179 : TyOk Tryz.prog 179 d179 := ⟨⟨_, Tryz.underlying179, rfl⟩, ⟨_, _, Tryz.type179, rfl, rfl, rfl, rfl⟩, rfl, rfl⟩

def d181 : TD := ⟨.struct [(0, 3), (1, 3), (2, 9)], 3, 32, [.sc (.int .i64 0), .sc (.int .i64 0), .sc (.string { data := #[] })]⟩

theorem ty181 : TyOk Tryz.prog 181 d181 := ⟨⟨_, Tryz.underlying181, rfl⟩, ⟨_, _, Tryz.type181, rfl, rfl, rfl, rfl⟩, rfl, rfl⟩

def d182 : TD := ⟨.struct [(0, 3), (1, 3), (2, 9)], 3, 32, [.sc (.int .i64 0), .sc (.int .i64 0), .sc (.string { data := #[] })]⟩

theorem ty182 : TyOk Tryz.prog 182 d182 := ⟨⟨_, Tryz.underlying182, rfl⟩, ⟨_, _, Tryz.type182, rfl, rfl, rfl, rfl⟩, rfl, rfl⟩

def d201 : TD := ⟨.struct [(0, 3), (1, 56)], 12, 144, [.sc (.int .i64 0), .sc (.int .i64 0), .nil 5, .sc (.int .i64 0), .sc (.int .i64 0), .sc (.int .i64 0), .sc (.int .i64 0), .sc (.int .i64 0), .sc (.int .i64 0), .sc (.int .i64 0), .nil 1, .nil 1]⟩

theorem ty201 : TyOk Tryz.prog 201 d201 := ⟨⟨_, Tryz.underlying201, rfl⟩, ⟨_, _, Tryz.type201, rfl, rfl, rfl, rfl⟩, rfl, rfl⟩

def d202 : TD := ⟨.struct [(0, 3), (1, 56)], 12, 144, [.sc (.int .i64 0), .sc (.int .i64 0), .nil 5, .sc (.int .i64 0), .sc (.int .i64 0), .sc (.int .i64 0), .sc (.int .i64 0), .sc (.int .i64 0), .sc (.int .i64 0), .sc (.int .i64 0), .nil 1, .nil 1]⟩

theorem ty202 : TyOk Tryz.prog 202 d202 := ⟨⟨_, Tryz.underlying202, rfl⟩, ⟨_, _, Tryz.type202, rfl, rfl, rfl, rfl⟩, rfl, rfl⟩

def d204 : TD := ⟨.slice 208, 1, 24, [.nil 2]⟩

theorem ty204 : TyOk Tryz.prog 204 d204 := ⟨Tryz.underlying204, ⟨_, _, Tryz.type204, rfl, rfl, rfl, rfl⟩, rfl, rfl⟩

def d205 : TD := ⟨.struct [(0, 3), (1, 3), (2, 54), (3, 3), (4, 204)], 5, 72, [.sc (.int .i64 0), .sc (.int .i64 0), .nil 1, .sc (.int .i64 0), .nil 2]⟩

theorem ty205 : TyOk Tryz.prog 205 d205 := ⟨⟨_, Tryz.underlying205, rfl⟩, ⟨_, _, Tryz.type205, rfl, rfl, rfl, rfl⟩, rfl, rfl⟩

def d206 : TD := ⟨.struct [(0, 3), (1, 3), (2, 54), (3, 3), (4, 204)], 5, 72, [.sc (.int .i64 0), .sc (.int .i64 0), .nil 1, .sc (.int .i64 0), .nil 2]⟩

theorem ty206 : TyOk Tryz.prog 206 d206 := ⟨⟨_, Tryz.underlying206, rfl⟩, ⟨_, _, Tryz.type206, rfl, rfl, rfl, rfl⟩, rfl, rfl⟩

def d208 : TD := ⟨.struct [(0, 3), (1, 9)], 2, 24, [.sc (.int .i64 0), .sc (.string { data := #[] })]⟩

theorem ty208 : TyOk Tryz.prog 208 d208 := ⟨⟨_, Tryz.underlying208, rfl⟩, ⟨_, _, Tryz.type208, rfl, rfl, rfl, rfl⟩, rfl, rfl⟩

def d209 : TD := ⟨.struct [(0, 3), (1, 3), (2, 3), (3, 208)], 5, 48, [.sc (.int .i64 0), .sc (.int .i64 0), .sc (.int .i64 0), .sc (.int .i64 0), .sc (.string { data := #[] })]⟩

theorem ty209 : TyOk Tryz.prog 209 d209 := ⟨⟨_, Tryz.underlying209, rfl⟩, ⟨_, _, Tryz.type209, rfl, rfl, rfl, rfl⟩, rfl, rfl⟩

def d210 : TD := ⟨.struct [(0, 3), (1, 3), (2, 3), (3, 208)], 5, 48, [.sc (.int .i64 0), .sc (.int .i64 0), .sc (.int .i64 0), .sc (.int .i64 0), .sc (.string { data := #[] })]⟩

theorem ty210 : TyOk Tryz.prog 210 d210 := ⟨⟨_, Tryz.underlying210, rfl⟩, ⟨_, _, Tryz.type210, rfl, rfl, rfl, rfl⟩, rfl, rfl⟩

def d212 : TD := ⟨.struct [(0, 3), (1, 3), (2, 9)], 3, 32, [.sc (.int .i64 0), .sc (.int .i64 0), .sc (.string { data := #[] })]⟩

theorem ty212 : TyOk Tryz.prog 212 d212 := ⟨⟨_, Tryz.underlying212, rfl⟩, ⟨_, _, Tryz.type212, rfl, rfl, rfl, rfl⟩, rfl, rfl⟩

def d224 : TD := ⟨.ptr 43, 1, 8, [.sc (.pointer none)]⟩

theorem ty224 : TyOk Tryz.prog 224 d224 := ⟨Tryz.underlying224, ⟨_, _, Tryz.type224, rfl, rfl, rfl, rfl⟩, rfl, rfl⟩

def d228 : TD := ⟨.struct [(0, 3), (1, 3), (2, 9), (3, 3), (4, 3)], 5, 48, [.sc (.int .i64 0), .sc (.int .i64 0), .sc (.string { data := #[] }), .sc (.int .i64 0), .sc (.int .i64 0)]⟩

theorem ty228 : TyOk Tryz.prog 228 d228 := ⟨⟨_, Tryz.underlying228, rfl⟩, ⟨_, _, Tryz.type228, rfl, rfl, rfl, rfl⟩, rfl, rfl⟩

def d229 : TD := ⟨.struct [(0, 3), (1, 3), (2, 9), (3, 3), (4, 3)], 5, 48, [.sc (.int .i64 0), .sc (.int .i64 0), .sc (.string { data := #[] }), .sc (.int .i64 0), .sc (.int .i64 0)]⟩

theorem ty229 : TyOk Tryz.prog 229 d229 := ⟨⟨_, Tryz.underlying229, rfl⟩, ⟨_, _, Tryz.type229, rfl, rfl, rfl, rfl⟩, rfl, rfl⟩

def d231 : TD := ⟨.struct [(0, 3), (1, 3), (2, 9), (3, 3), (4, 3)], 5, 48, [.sc (.int .i64 0), .sc (.int .i64 0), .sc (.string { data := #[] }), .sc (.int .i64 0), .sc (.int .i64 0)]⟩

theorem ty231 : TyOk Tryz.prog 231 d231 := ⟨⟨_, Tryz.underlying231, rfl⟩, ⟨_, _, Tryz.type231, rfl, rfl, rfl, rfl⟩, rfl, rfl⟩

def d238 : TD := ⟨.slice 5, 1, 24, [.nil 1]⟩

theorem ty238 : TyOk Tryz.prog 238 d238 := ⟨Tryz.underlying238, ⟨_, _, Tryz.type238, rfl, rfl, rfl, rfl⟩, rfl, rfl⟩

def d241 : TD := ⟨.ptr 243, 1, 8, [.sc (.pointer none)]⟩

theorem ty241 : TyOk Tryz.prog 241 d241 := ⟨Tryz.underlying241, ⟨_, _, Tryz.type241, rfl, rfl, rfl, rfl⟩, rfl, rfl⟩

def d242 : TD := ⟨.struct [(0, 238), (1, 3), (2, 4)], 3, 40, [.nil 1, .sc (.int .i64 0), .sc (.bool false)]⟩

theorem ty242 : TyOk Tryz.prog 242 d242 := ⟨⟨_, Tryz.underlying242, rfl⟩, ⟨_, _, Tryz.type242, rfl, rfl, rfl, rfl⟩, rfl, rfl⟩

def d243 : TD := ⟨.struct [(0, 238), (1, 3), (2, 4)], 3, 40, [.nil 1, .sc (.int .i64 0), .sc (.bool false)]⟩

theorem ty243 : TyOk Tryz.prog 243 d243 := ⟨⟨_, Tryz.underlying243, rfl⟩, ⟨_, _, Tryz.type243, rfl, rfl, rfl, rfl⟩, rfl, rfl⟩

def d248 : TD := ⟨.ptr 59, 1, 8, [.sc (.pointer none)]⟩

theorem ty248 : TyOk Tryz.prog 248 d248 := ⟨Tryz.underlying248, ⟨_, _, Tryz.type248, rfl, rfl, rfl, rfl⟩, rfl, rfl⟩

def d258 : TD := ⟨.ptr 260, 1, 8, [.sc (.pointer none)]⟩

theorem ty258 : TyOk Tryz.prog 258 d258 := ⟨Tryz.underlying258, ⟨_, _, Tryz.type258, rfl, rfl, rfl, rfl⟩, rfl, rfl⟩

def d259 : TD := ⟨.struct [(0, 59), (8, 36)], 11, 152, [.nil 5, .sc (.int .i64 0), .sc (.int .i64 0), .sc (.int .i64 0), .sc (.int .i64 0), .sc (.int .i64 0), .sc (.int .i64 0), .sc (.int .i64 0), .nil 5, .nil 4, .nil 3]⟩

theorem ty259 : TyOk Tryz.prog 259 d259 := ⟨⟨_, Tryz.underlying259, rfl⟩, ⟨_, _, Tryz.type259, rfl, rfl, rfl, rfl⟩, rfl, rfl⟩

def d260 : TD := ⟨.struct [(0, 59), (8, 36)], 11, 152, [.nil 5, .sc (.int .i64 0), .sc (.int .i64 0), .sc (.int .i64 0), .sc (.int .i64 0), .sc (.int .i64 0), .sc (.int .i64 0), .sc (.int .i64 0), .nil 5, .nil 4, .nil 3]⟩

theorem ty260 : TyOk Tryz.prog 260 d260 := ⟨⟨_, Tryz.underlying260, rfl⟩, ⟨_, _, Tryz.type260, rfl, rfl, rfl, rfl⟩, rfl, rfl⟩

def d297 : TD := ⟨.ptr 32, 1, 8, [.sc (.pointer none)]⟩

theorem ty297 : TyOk Tryz.prog 297 d297 := ⟨Tryz.underlying297, ⟨_, _, Tryz.type297, rfl, rfl, rfl, rfl⟩, rfl, rfl⟩

def d307 : TD := ⟨.ptr 309, 1, 8, [.sc (.pointer none)]⟩

theorem ty307 : TyOk Tryz.prog 307 d307 := ⟨Tryz.underlying307, ⟨_, _, Tryz.type307, rfl, rfl, rfl, rfl⟩, rfl, rfl⟩

def d308 : TD := ⟨.struct [(0, 238), (1, 3), (2, 4)], 3, 40, [.nil 1, .sc (.int .i64 0), .sc (.bool false)]⟩

theorem ty308 : TyOk Tryz.prog 308 d308 := ⟨⟨_, Tryz.underlying308, rfl⟩, ⟨_, _, Tryz.type308, rfl, rfl, rfl, rfl⟩, rfl, rfl⟩

def d309 : TD := ⟨.struct [(0, 238), (1, 3), (2, 4)], 3, 40, [.nil 1, .sc (.int .i64 0), .sc (.bool false)]⟩

theorem ty309 : TyOk Tryz.prog 309 d309 := ⟨⟨_, Tryz.underlying309, rfl⟩, ⟨_, _, Tryz.type309, rfl, rfl, rfl, rfl⟩, rfl, rfl⟩

def d318 : TD := ⟨.ptr 320, 1, 8, [.sc (.pointer none)]⟩

theorem ty318 : TyOk Tryz.prog 318 d318 := ⟨Tryz.underlying318, ⟨_, _, Tryz.type318, rfl, rfl, rfl, rfl⟩, rfl, rfl⟩

def d319 : TD := ⟨.struct [(0, 32), (1, 238)], 2, 48, [.nil 5, .nil 1]⟩

theorem ty319 : TyOk Tryz.prog 319 d319 := ⟨⟨_, Tryz.underlying319, rfl⟩, ⟨_, _, Tryz.type319, rfl, rfl, rfl, rfl⟩, rfl, rfl⟩

def d320 : TD := ⟨.struct [(0, 32), (1, 238)], 2, 48, [.nil 5, .nil 1]⟩

theorem ty320 : TyOk Tryz.prog 320 d320 := ⟨⟨_, Tryz.underlying320, rfl⟩, ⟨_, _, Tryz.type320, rfl, rfl, rfl, rfl⟩, rfl, rfl⟩

def d341 : TD := ⟨.slice 4, 1, 24, [.nil 1]⟩

theorem ty341 : TyOk Tryz.prog 341 d341 := ⟨Tryz.underlying341, ⟨_, _, Tryz.type341, rfl, rfl, rfl, rfl⟩, rfl, rfl⟩

def d364 : TD := ⟨.int .u64, 1, 8, [.sc (.int .u64 0)]⟩

theorem ty364 : TyOk Tryz.prog 364 d364 := ⟨Tryz.underlying364, ⟨_, _, Tryz.type364, rfl, rfl, rfl, rfl⟩, rfl, rfl⟩

def d375 : TD := ⟨.slice 238, 1, 24, [.nil 1]⟩

theorem ty375 : TyOk Tryz.prog 375 d375 := ⟨Tryz.underlying375, ⟨_, _, Tryz.type375, rfl, rfl, rfl, rfl⟩, rfl, rfl⟩

def d388 : TD := ⟨.struct [(0, 17), (1, 17), (2, 17), (3, 9)], 4, 40, [.sc (.pointer none), .sc (.pointer none), .sc (.pointer none), .sc (.string { data := #[] })]⟩

theorem ty388 : TyOk Tryz.prog 388 d388 := ⟨⟨_, Tryz.underlying388, rfl⟩, ⟨_, _, Tryz.type388, rfl, rfl, rfl, rfl⟩, rfl, rfl⟩

def d389 : TD := ⟨.struct [(0, 17), (1, 17), (2, 17), (3, 9)], 4, 40, [.sc (.pointer none), .sc (.pointer none), .sc (.pointer none), .sc (.string { data := #[] })]⟩

theorem ty389 : TyOk Tryz.prog 389 d389 := ⟨⟨_, Tryz.underlying389, rfl⟩, ⟨_, _, Tryz.type389, rfl, rfl, rfl, rfl⟩, rfl, rfl⟩

def d391 : TD := ⟨.struct [(0, 390)], 0, 0, []⟩

theorem ty391 : TyOk Tryz.prog 391 d391 := ⟨⟨_, Tryz.underlying391, rfl⟩, ⟨_, _, Tryz.type391, rfl, rfl, rfl, rfl⟩, rfl, rfl⟩

def d392 : TD := ⟨.struct [(0, 390)], 0, 0, []⟩

theorem ty392 : TyOk Tryz.prog 392 d392 := ⟨⟨_, Tryz.underlying392, rfl⟩, ⟨_, _, Tryz.type392, rfl, rfl, rfl, rfl⟩, rfl, rfl⟩

def d393 : TD := ⟨.int .u32, 1, 4, [.sc (.int .u32 0)]⟩

theorem ty393 : TyOk Tryz.prog 393 d393 := ⟨Tryz.underlying393, ⟨_, _, Tryz.type393, rfl, rfl, rfl, rfl⟩, rfl, rfl⟩

def d394 : TD := ⟨.int .u8, 1, 1, [.sc (.int .u8 0)]⟩

theorem ty394 : TyOk Tryz.prog 394 d394 := ⟨Tryz.underlying394, ⟨_, _, Tryz.type394, rfl, rfl, rfl, rfl⟩, rfl, rfl⟩

def d395 : TD := ⟨.int .u8, 1, 1, [.sc (.int .u8 0)]⟩

theorem ty395 : TyOk Tryz.prog 395 d395 := ⟨Tryz.underlying395, ⟨_, _, Tryz.type395, rfl, rfl, rfl, rfl⟩, rfl, rfl⟩

def d397 : TD := ⟨.ptr 5, 1, 8, [.sc (.pointer none)]⟩

theorem ty397 : TyOk Tryz.prog 397 d397 := ⟨Tryz.underlying397, ⟨_, _, Tryz.type397, rfl, rfl, rfl, rfl⟩, rfl, rfl⟩

def d398 : TD := ⟨.int .i32, 1, 4, [.sc (.int .i32 0)]⟩

theorem ty398 : TyOk Tryz.prog 398 d398 := ⟨Tryz.underlying398, ⟨_, _, Tryz.type398, rfl, rfl, rfl, rfl⟩, rfl, rfl⟩

def d399 : TD := ⟨.int .i32, 1, 4, [.sc (.int .i32 0)]⟩

theorem ty399 : TyOk Tryz.prog 399 d399 := ⟨Tryz.underlying399, ⟨_, _, Tryz.type399, rfl, rfl, rfl, rfl⟩, rfl, rfl⟩

def d400 : TD := ⟨.struct [(0, 12), (1, 12), (2, 393), (3, 394), (4, 5), (5, 5), (6, 395), (7, 396), (8, 397), (9, 398), (10, 399)], 11, 48, [.sc (.int .u64 0), .sc (.int .u64 0), .sc (.int .u32 0), .sc (.int .u8 0), .sc (.int .u8 0), .sc (.int .u8 0), .sc (.int .u8 0), .sc (.nilFunc), .sc (.pointer none), .sc (.int .i32 0), .sc (.int .i32 0)]⟩

theorem ty400 : TyOk Tryz.prog 400 d400 := ⟨⟨_, Tryz.underlying400, rfl⟩, ⟨_, _, Tryz.type400, rfl, rfl, rfl, rfl⟩, rfl, rfl⟩

def d401 : TD := ⟨.struct [(0, 12), (1, 12), (2, 393), (3, 394), (4, 5), (5, 5), (6, 395), (7, 396), (8, 397), (9, 398), (10, 399)], 11, 48, [.sc (.int .u64 0), .sc (.int .u64 0), .sc (.int .u32 0), .sc (.int .u8 0), .sc (.int .u8 0), .sc (.int .u8 0), .sc (.int .u8 0), .sc (.nilFunc), .sc (.pointer none), .sc (.int .i32 0), .sc (.int .i32 0)]⟩

theorem ty401 : TyOk Tryz.prog 401 d401 := ⟨⟨_, Tryz.underlying401, rfl⟩, ⟨_, _, Tryz.type401, rfl, rfl, rfl, rfl⟩, rfl, rfl⟩

def τ (t : Nat) : Option TD :=
  match t with
  | 2 => some d2
  | 3 => some d3
  | 4 => some d4
  | 5 => some d5
  | 6 => some d6
  | 7 => some d7
  | 8 => some d8
  | 9 => some d9
  | 10 => some d10
  | 11 => some d11
  | 12 => some d12
  | 13 => some d13
  | 14 => some d14
  | 15 => some d15
  | 16 => some d16
  | 17 => some d17
  | 18 => some d18
  | 19 => some d19
  | 21 => some d21
  | 22 => some d22
  | 23 => some d23
  | 24 => some d24
  | 25 => some d25
  | 26 => some d26
  | 27 => some d27
  | 28 => some d28
  | 30 => some d30
  | 31 => some d31
  | 32 => some d32
  | 33 => some d33
  | 34 => some d34
  | 35 => some d35
  | 36 => some d36
  | 37 => some d37
  | 38 => some d38
  | 39 => some d39
  | 40 => some d40
  | 41 => some d41
  | 42 => some d42
  | 43 => some d43
  | 52 => some d52
  | 53 => some d53
  | 54 => some d54
  | 55 => some d55
  | 56 => some d56
  | 58 => some d58
  | 59 => some d59
  | 60 => some d60
  | 61 => some d61
  | 62 => some d62
  | 63 => some d63
  | 71 => some d71
  | 72 => some d72
  | 73 => some d73
  | 74 => some d74
  | 75 => some d75
  | 76 => some d76
  | 77 => some d77
  | 78 => some d78
  | 83 => some d83
  | 90 => some d90
  | 92 => some d92
  | 95 => some d95
  | 109 => some d109
  | 110 => some d110
  | 155 => some d155
  | 156 => some d156
  | 158 => some d158
  | 159 => some d159
  | 164 => some d164
  | 166 => some d166
  | 171 => some d171
  | 172 => some d172
  | 173 => some d173
  | 176 => some d176
  | 177 => some d177
  | 178 => some d178
  | 179 => some d179
  | 181 => some d181
  | 182 => some d182
  | 201 => some d201
  | 202 => some d202
  | 204 => some d204
  | 205 => some d205
  | 206 => some d206
  | 208 => some d208
  | 209 => some d209
  | 210 => some d210
  | 212 => some d212
  | 224 => some d224
  | 228 => some d228
  | 229 => some d229
  | 231 => some d231
  | 238 => some d238
  | 241 => some d241
  | 242 => some d242
  | 243 => some d243
  | 248 => some d248
  | 258 => some d258
  | 259 => some d259
  | 260 => some d260
  | 297 => some d297
  | 307 => some d307
  | 308 => some d308
  | 309 => some d309
  | 318 => some d318
  | 319 => some d319
  | 320 => some d320
  | 341 => some d341
  | 364 => some d364
  | 375 => some d375
  | 388 => some d388
  | 389 => some d389
  | 391 => some d391
  | 392 => some d392
  | 393 => some d393
  | 394 => some d394
  | 395 => some d395
  | 397 => some d397
  | 398 => some d398
  | 399 => some d399
  | 400 => some d400
  | 401 => some d401
  | _ => none

theorem τ_ok : ∀ t d, τ t = some d → TyOk Tryz.prog t d := by
  intro t d h
  unfold τ at h
  split at h
  · cases h; exact ty2
  · cases h; exact ty3
  · cases h; exact ty4
  · cases h; exact ty5
  · cases h; exact ty6
  · cases h; exact ty7
  · cases h; exact ty8
  · cases h; exact ty9
  · cases h; exact ty10
  · cases h; exact ty11
  · cases h; exact ty12
  · cases h; exact ty13
  · cases h; exact ty14
  · cases h; exact ty15
  · cases h; exact ty16
  · cases h; exact ty17
  · cases h; exact ty18
  · cases h; exact ty19
  · cases h; exact ty21
  · cases h; exact ty22
  · cases h; exact ty23
  · cases h; exact ty24
  · cases h; exact ty25
  · cases h; exact ty26
  · cases h; exact ty27
  · cases h; exact ty28
  · cases h; exact ty30
  · cases h; exact ty31
  · cases h; exact ty32
  · cases h; exact ty33
  · cases h; exact ty34
  · cases h; exact ty35
  · cases h; exact ty36
  · cases h; exact ty37
  · cases h; exact ty38
  · cases h; exact ty39
  · cases h; exact ty40
  · cases h; exact ty41
  · cases h; exact ty42
  · cases h; exact ty43
  · cases h; exact ty52
  · cases h; exact ty53
  · cases h; exact ty54
  · cases h; exact ty55
  · cases h; exact ty56
  · cases h; exact ty58
  · cases h; exact ty59
  · cases h; exact ty60
  · cases h; exact ty61
  · cases h; exact ty62
  · cases h; exact ty63
  · cases h; exact ty71
  · cases h; exact ty72
  · cases h; exact ty73
  · cases h; exact ty74
  · cases h; exact ty75
  · cases h; exact ty76
  · cases h; exact ty77
  · cases h; exact ty78
  · cases h; exact ty83
  · cases h; exact ty90
  · cases h; exact ty92
  · cases h; exact ty95
  · cases h; exact ty109
  · cases h; exact ty110
  · cases h; exact ty155
  · cases h; exact ty156
  · cases h; exact ty158
  · cases h; exact ty159
  · cases h; exact ty164
  · cases h; exact ty166
  · cases h; exact ty171
  · cases h; exact ty172
  · cases h; exact ty173
  · cases h; exact ty176
  · cases h; exact ty177
  · cases h; exact ty178
  · cases h; exact ty179
  · cases h; exact ty181
  · cases h; exact ty182
  · cases h; exact ty201
  · cases h; exact ty202
  · cases h; exact ty204
  · cases h; exact ty205
  · cases h; exact ty206
  · cases h; exact ty208
  · cases h; exact ty209
  · cases h; exact ty210
  · cases h; exact ty212
  · cases h; exact ty224
  · cases h; exact ty228
  · cases h; exact ty229
  · cases h; exact ty231
  · cases h; exact ty238
  · cases h; exact ty241
  · cases h; exact ty242
  · cases h; exact ty243
  · cases h; exact ty248
  · cases h; exact ty258
  · cases h; exact ty259
  · cases h; exact ty260
  · cases h; exact ty297
  · cases h; exact ty307
  · cases h; exact ty308
  · cases h; exact ty309
  · cases h; exact ty318
  · cases h; exact ty319
  · cases h; exact ty320
  · cases h; exact ty341
  · cases h; exact ty364
  · cases h; exact ty375
  · cases h; exact ty388
  · cases h; exact ty389
  · cases h; exact ty391
  · cases h; exact ty392
  · cases h; exact ty393
  · cases h; exact ty394
  · cases h; exact ty395
  · cases h; exact ty397
  · cases h; exact ty398
  · cases h; exact ty399
  · cases h; exact ty400
  · cases h; exact ty401
  · cases h

theorem mixed : Tryz.prog.follows .mixedOrders = true := by rfl

end Go.Proofs.YtifodjnbcnbcpaaGreat.V

set_option linter.unusedVariables false

set_option linter.unusedSimpArgs false

namespace Go.Proofs.YtifodjnbcnbcpaaGreat.V

open Go

@[reducible] def ssC (ss : List ByteArray) : List (List C) := ss.map fun s => [.sc (.string s)]

@[reducible] def sssC (l : List (List ByteArray)) : List (List C) := l.map fun ss => [.sl true 1 (ssC ss)]

def szL {α : Type} (f : α → Int) : List α → Int
  | [] => 0
  | x :: r => f x + szL f r

def szB (s : ByteArray) : Int := s.size

def szS (l : List ByteArray) : Int := l.length + szL szB l

def szSS (l : List (List ByteArray)) : Int := l.length + szL szS l

theorem szL_nonneg {α : Type} {f : α → Int} (h : ∀ x, 0 ≤ f x) (l : List α) : 0 ≤ szL f l := by
  induction l with
  | nil => exact Int.le_refl 0
  | cons x r ih => have := h x; simp only [szL]; omega

theorem szB_nonneg (s : ByteArray) : 0 ≤ szB s := by unfold szB; omega

theorem szS_nonneg (l : List ByteArray) : 0 ≤ szS l := by have := szL_nonneg szB_nonneg l; unfold szS; omega

theorem szSS_nonneg (l : List (List ByteArray)) : 0 ≤ szSS l := by have := szL_nonneg szS_nonneg l; unfold szSS; omega

theorem szS_len (l : List ByteArray) : (l.length : Int) ≤ szS l := by have := szL_nonneg szB_nonneg l; unfold szS; omega

theorem szL_app {α : Type} {f : α → Int} (a b : List α) : szL f (a ++ b) = szL f a + szL f b := by
  induction a with
  | nil => simp [szL]
  | cons x r ih => simp only [List.cons_append, szL, ih]; omega

theorem szL_take {α : Type} {f : α → Int} (h : ∀ x, 0 ≤ f x) (l : List α) (k : Nat) : szL f (l.take k) ≤ szL f l := by
  have e := szL_app (f := f) (l.take k) (l.drop k)
  rw [List.take_append_drop] at e
  have := szL_nonneg h (l.drop k)
  omega

theorem szL_succ {α : Type} {f : α → Int} {l : List α} {k : Nat} {x : α} (h : l[k]? = some x) : szL f (l.take (k + 1)) = szL f (l.take k) + f x := by
  rw [List.take_add_one, h, szL_app]
  simp [szL]

theorem szL_mem {α : Type} {f : α → Int} (h : ∀ x, 0 ≤ f x) {l : List α} {x : α} (hx : x ∈ l) : f x ≤ szL f l := by
  induction l with
  | nil => cases hx
  | cons y r ih =>
    have h1 := h y
    have h2 := szL_nonneg h r
    simp only [szL]
    cases hx with
    | head => omega
    | tail _ hx => have := ih hx; omega

def szR (n left : Int) : Int := if left < n then -1 else left - n

theorem szR_neg {n left : Int} (h : left < n) : szR n left = -1 := by unfold szR; rw [if_pos h]

theorem szR_pos {n left : Int} (h : n ≤ left) : szR n left = left - n := by unfold szR; rw [if_neg (by omega)]

theorem szR_lt {n left : Int} (hn : 0 ≤ left) : szR n left < 0 ↔ left < n := by unfold szR; split <;> omega

structure DNode where
  xKind : Int
  xN : Int
  xS : ByteArray
  xA : Int
  xB : Int

@[reducible] def DNode.c (a : DNode) : List C := [.sc (.int .i64 a.xKind), .sc (.int .i64 a.xN), .sc (.string a.xS), .sc (.int .i64 a.xA), .sc (.int .i64 a.xB)]

@[reducible] def DNode.r (a : DNode) : RV := ⟨true, [.rd (.sc (.int .i64 a.xKind)), .rd (.sc (.int .i64 a.xN)), .rd (.sc (.string a.xS)), .rd (.sc (.int .i64 a.xA)), .rd (.sc (.int .i64 a.xB))]⟩

@[reducible] def DNode.x (a : DNode) : List X := [.sc (.int .i64 a.xKind), .sc (.int .i64 a.xN), .sc (.string a.xS), .sc (.int .i64 a.xA), .sc (.int .i64 a.xB)]

def DNode.sz (a : DNode) : Int := (a.xS.size : Int)

def DNode.ok (a : DNode) : Prop := (-9223372036854775808 ≤ a.xKind ∧ a.xKind ≤ 9223372036854775807) ∧ (-9223372036854775808 ≤ a.xN ∧ a.xN ≤ 9223372036854775807) ∧ a.xS.size ≤ 9223372036854775807 ∧ (-9223372036854775808 ≤ a.xA ∧ a.xA ≤ 9223372036854775807) ∧ (-9223372036854775808 ≤ a.xB ∧ a.xB ≤ 9223372036854775807)

theorem DNode.sz_nonneg (a : DNode) : 0 ≤ a.sz := by
  unfold DNode.sz
  omega

structure DPool where
  xNodes : List DNode

@[reducible] def DPool.c (a : DPool) : List C := [.sl true 5 (a.xNodes.map DNode.c)]

@[reducible] def DPool.r (a : DPool) : RV := ⟨true, [.own true 5 (a.xNodes.map DNode.c)]⟩

@[reducible] def DPool.x (a : DPool) : List X := [.rd none 5 (a.xNodes.map DNode.c)]

def DPool.sz (a : DPool) : Int := ((a.xNodes.length : Int) + szL DNode.sz a.xNodes)

def DPool.ok (a : DPool) : Prop := (a.xNodes.length ≤ 9223372036854775807 ∧ ∀ y ∈ a.xNodes, y.ok)

theorem DPool.sz_nonneg (a : DPool) : 0 ≤ a.sz := by
  have := szL_nonneg DNode.sz_nonneg a.xNodes
  unfold DPool.sz
  omega

structure DInstr where
  xOp : Int
  xN : Int
  xI : Int
  xS : ByteArray

@[reducible] def DInstr.c (a : DInstr) : List C := [.sc (.int .i64 a.xOp), .sc (.int .i64 a.xN), .sc (.int .i64 a.xI), .sc (.string a.xS)]

@[reducible] def DInstr.r (a : DInstr) : RV := ⟨true, [.rd (.sc (.int .i64 a.xOp)), .rd (.sc (.int .i64 a.xN)), .rd (.sc (.int .i64 a.xI)), .rd (.sc (.string a.xS))]⟩

@[reducible] def DInstr.x (a : DInstr) : List X := [.sc (.int .i64 a.xOp), .sc (.int .i64 a.xN), .sc (.int .i64 a.xI), .sc (.string a.xS)]

def DInstr.sz (a : DInstr) : Int := (a.xS.size : Int)

def DInstr.ok (a : DInstr) : Prop := (-9223372036854775808 ≤ a.xOp ∧ a.xOp ≤ 9223372036854775807) ∧ (-9223372036854775808 ≤ a.xN ∧ a.xN ≤ 9223372036854775807) ∧ (-9223372036854775808 ≤ a.xI ∧ a.xI ≤ 9223372036854775807) ∧ a.xS.size ≤ 9223372036854775807

theorem DInstr.sz_nonneg (a : DInstr) : 0 ≤ a.sz := by
  unfold DInstr.sz
  omega

structure DDef where
  xName : ByteArray
  xAt : Int
  xArgs : Int

@[reducible] def DDef.c (a : DDef) : List C := [.sc (.string a.xName), .sc (.int .i64 a.xAt), .sc (.int .i64 a.xArgs)]

@[reducible] def DDef.r (a : DDef) : RV := ⟨true, [.rd (.sc (.string a.xName)), .rd (.sc (.int .i64 a.xAt)), .rd (.sc (.int .i64 a.xArgs))]⟩

@[reducible] def DDef.x (a : DDef) : List X := [.sc (.string a.xName), .sc (.int .i64 a.xAt), .sc (.int .i64 a.xArgs)]

def DDef.sz (a : DDef) : Int := (a.xName.size : Int)

def DDef.ok (a : DDef) : Prop := a.xName.size ≤ 9223372036854775807 ∧ (-9223372036854775808 ≤ a.xAt ∧ a.xAt ≤ 9223372036854775807) ∧ (-9223372036854775808 ≤ a.xArgs ∧ a.xArgs ≤ 9223372036854775807)

theorem DDef.sz_nonneg (a : DDef) : 0 ≤ a.sz := by
  unfold DDef.sz
  omega

structure DCode where
  xPool : DPool
  xList : List DInstr
  xDefs : List DDef

@[reducible] def DCode.c (a : DCode) : List C := [.sl true 5 (a.xPool.xNodes.map DNode.c), .sl true 4 (a.xList.map DInstr.c), .sl true 3 (a.xDefs.map DDef.c)]

@[reducible] def DCode.r (a : DCode) : RV := ⟨true, [.own true 5 (a.xPool.xNodes.map DNode.c), .own true 4 (a.xList.map DInstr.c), .own true 3 (a.xDefs.map DDef.c)]⟩

@[reducible] def DCode.x (a : DCode) : List X := [.rd none 5 (a.xPool.xNodes.map DNode.c), .rd none 4 (a.xList.map DInstr.c), .rd none 3 (a.xDefs.map DDef.c)]

def DCode.sz (a : DCode) : Int := a.xPool.sz + ((a.xList.length : Int) + szL DInstr.sz a.xList) + ((a.xDefs.length : Int) + szL DDef.sz a.xDefs)

def DCode.ok (a : DCode) : Prop := a.xPool.ok ∧ (a.xList.length ≤ 9223372036854775807 ∧ ∀ y ∈ a.xList, y.ok) ∧ (a.xDefs.length ≤ 9223372036854775807 ∧ ∀ y ∈ a.xDefs, y.ok)

theorem DCode.sz_nonneg (a : DCode) : 0 ≤ a.sz := by
  have := a.xPool.sz_nonneg
  have := szL_nonneg DInstr.sz_nonneg a.xList
  have := szL_nonneg DDef.sz_nonneg a.xDefs
  unfold DCode.sz
  omega

structure DMachine where
  xPool : DPool
  xAt : Int
  xS : Int
  xE : Int
  xD : Int
  xState : Int
  xAsk : Int
  xArg : Int

@[reducible] def DMachine.c (a : DMachine) : List C := [.sl true 5 (a.xPool.xNodes.map DNode.c), .sc (.int .i64 a.xAt), .sc (.int .i64 a.xS), .sc (.int .i64 a.xE), .sc (.int .i64 a.xD), .sc (.int .i64 a.xState), .sc (.int .i64 a.xAsk), .sc (.int .i64 a.xArg)]

@[reducible] def DMachine.r (a : DMachine) : RV := ⟨true, [.own true 5 (a.xPool.xNodes.map DNode.c), .rd (.sc (.int .i64 a.xAt)), .rd (.sc (.int .i64 a.xS)), .rd (.sc (.int .i64 a.xE)), .rd (.sc (.int .i64 a.xD)), .rd (.sc (.int .i64 a.xState)), .rd (.sc (.int .i64 a.xAsk)), .rd (.sc (.int .i64 a.xArg))]⟩

@[reducible] def DMachine.x (a : DMachine) : List X := [.rd none 5 (a.xPool.xNodes.map DNode.c), .sc (.int .i64 a.xAt), .sc (.int .i64 a.xS), .sc (.int .i64 a.xE), .sc (.int .i64 a.xD), .sc (.int .i64 a.xState), .sc (.int .i64 a.xAsk), .sc (.int .i64 a.xArg)]

def DMachine.sz (a : DMachine) : Int := a.xPool.sz

def DMachine.ok (a : DMachine) : Prop := a.xPool.ok ∧ (-9223372036854775808 ≤ a.xAt ∧ a.xAt ≤ 9223372036854775807) ∧ (-9223372036854775808 ≤ a.xS ∧ a.xS ≤ 9223372036854775807) ∧ (-9223372036854775808 ≤ a.xE ∧ a.xE ≤ 9223372036854775807) ∧ (-9223372036854775808 ≤ a.xD ∧ a.xD ≤ 9223372036854775807) ∧ (-9223372036854775808 ≤ a.xState ∧ a.xState ≤ 9223372036854775807) ∧ (-9223372036854775808 ≤ a.xAsk ∧ a.xAsk ≤ 9223372036854775807) ∧ (-9223372036854775808 ≤ a.xArg ∧ a.xArg ≤ 9223372036854775807)

theorem DMachine.sz_nonneg (a : DMachine) : 0 ≤ a.sz := by
  have := a.xPool.sz_nonneg
  unfold DMachine.sz
  omega

structure DPiece where
  xNo : Int
  xText : ByteArray

@[reducible] def DPiece.c (a : DPiece) : List C := [.sc (.int .i64 a.xNo), .sc (.string a.xText)]

@[reducible] def DPiece.r (a : DPiece) : RV := ⟨true, [.rd (.sc (.int .i64 a.xNo)), .rd (.sc (.string a.xText))]⟩

@[reducible] def DPiece.x (a : DPiece) : List X := [.sc (.int .i64 a.xNo), .sc (.string a.xText)]

def DPiece.sz (a : DPiece) : Int := (a.xText.size : Int)

def DPiece.ok (a : DPiece) : Prop := (-9223372036854775808 ≤ a.xNo ∧ a.xNo ≤ 9223372036854775807) ∧ a.xText.size ≤ 9223372036854775807

theorem DPiece.sz_nonneg (a : DPiece) : 0 ≤ a.sz := by
  unfold DPiece.sz
  omega

structure DLink where
  xSent : Int
  xAcked : Int
  xQueue : List ByteArray
  xGot : Int
  xHeld : List DPiece

@[reducible] def DLink.c (a : DLink) : List C := [.sc (.int .i64 a.xSent), .sc (.int .i64 a.xAcked), .sl true 1 (ssC a.xQueue), .sc (.int .i64 a.xGot), .sl true 2 (a.xHeld.map DPiece.c)]

@[reducible] def DLink.r (a : DLink) : RV := ⟨true, [.rd (.sc (.int .i64 a.xSent)), .rd (.sc (.int .i64 a.xAcked)), .own true 1 (ssC a.xQueue), .rd (.sc (.int .i64 a.xGot)), .own true 2 (a.xHeld.map DPiece.c)]⟩

@[reducible] def DLink.x (a : DLink) : List X := [.sc (.int .i64 a.xSent), .sc (.int .i64 a.xAcked), .rd none 1 (ssC a.xQueue), .sc (.int .i64 a.xGot), .rd none 2 (a.xHeld.map DPiece.c)]

def DLink.sz (a : DLink) : Int := szS a.xQueue + ((a.xHeld.length : Int) + szL DPiece.sz a.xHeld)

def DLink.ok (a : DLink) : Prop := (-9223372036854775808 ≤ a.xSent ∧ a.xSent ≤ 9223372036854775807) ∧ (-9223372036854775808 ≤ a.xAcked ∧ a.xAcked ≤ 9223372036854775807) ∧ (a.xQueue.length ≤ 9223372036854775807 ∧ ∀ y ∈ a.xQueue, y.size ≤ 9223372036854775807) ∧ (-9223372036854775808 ≤ a.xGot ∧ a.xGot ≤ 9223372036854775807) ∧ (a.xHeld.length ≤ 9223372036854775807 ∧ ∀ y ∈ a.xHeld, y.ok)

theorem DLink.sz_nonneg (a : DLink) : 0 ≤ a.sz := by
  have := szS_nonneg a.xQueue
  have := szL_nonneg DPiece.sz_nonneg a.xHeld
  unfold DLink.sz
  omega

structure DProc where
  xPid : Int
  xM : DMachine
  xBox : List ByteArray
  xOut : List ByteArray

@[reducible] def DProc.c (a : DProc) : List C := [.sc (.int .i64 a.xPid), .sl true 5 (a.xM.xPool.xNodes.map DNode.c), .sc (.int .i64 a.xM.xAt), .sc (.int .i64 a.xM.xS), .sc (.int .i64 a.xM.xE), .sc (.int .i64 a.xM.xD), .sc (.int .i64 a.xM.xState), .sc (.int .i64 a.xM.xAsk), .sc (.int .i64 a.xM.xArg), .sl true 1 (ssC a.xBox), .sl true 1 (ssC a.xOut)]

@[reducible] def DProc.r (a : DProc) : RV := ⟨true, [.rd (.sc (.int .i64 a.xPid)), .own true 5 (a.xM.xPool.xNodes.map DNode.c), .rd (.sc (.int .i64 a.xM.xAt)), .rd (.sc (.int .i64 a.xM.xS)), .rd (.sc (.int .i64 a.xM.xE)), .rd (.sc (.int .i64 a.xM.xD)), .rd (.sc (.int .i64 a.xM.xState)), .rd (.sc (.int .i64 a.xM.xAsk)), .rd (.sc (.int .i64 a.xM.xArg)), .own true 1 (ssC a.xBox), .own true 1 (ssC a.xOut)]⟩

@[reducible] def DProc.x (a : DProc) : List X := [.sc (.int .i64 a.xPid), .rd none 5 (a.xM.xPool.xNodes.map DNode.c), .sc (.int .i64 a.xM.xAt), .sc (.int .i64 a.xM.xS), .sc (.int .i64 a.xM.xE), .sc (.int .i64 a.xM.xD), .sc (.int .i64 a.xM.xState), .sc (.int .i64 a.xM.xAsk), .sc (.int .i64 a.xM.xArg), .rd none 1 (ssC a.xBox), .rd none 1 (ssC a.xOut)]

def DProc.sz (a : DProc) : Int := a.xM.sz + szS a.xBox + szS a.xOut

def DProc.ok (a : DProc) : Prop := (-9223372036854775808 ≤ a.xPid ∧ a.xPid ≤ 9223372036854775807) ∧ a.xM.ok ∧ (a.xBox.length ≤ 9223372036854775807 ∧ ∀ y ∈ a.xBox, y.size ≤ 9223372036854775807) ∧ (a.xOut.length ≤ 9223372036854775807 ∧ ∀ y ∈ a.xOut, y.size ≤ 9223372036854775807)

theorem DProc.sz_nonneg (a : DProc) : 0 ≤ a.sz := by
  have := a.xM.sz_nonneg
  have := szS_nonneg a.xBox
  have := szS_nonneg a.xOut
  unfold DProc.sz
  omega

structure DHome where
  xAt : Int
  xP : DProc

@[reducible] def DHome.c (a : DHome) : List C := [.sc (.int .i64 a.xAt), .sc (.int .i64 a.xP.xPid), .sl true 5 (a.xP.xM.xPool.xNodes.map DNode.c), .sc (.int .i64 a.xP.xM.xAt), .sc (.int .i64 a.xP.xM.xS), .sc (.int .i64 a.xP.xM.xE), .sc (.int .i64 a.xP.xM.xD), .sc (.int .i64 a.xP.xM.xState), .sc (.int .i64 a.xP.xM.xAsk), .sc (.int .i64 a.xP.xM.xArg), .sl true 1 (ssC a.xP.xBox), .sl true 1 (ssC a.xP.xOut)]

@[reducible] def DHome.r (a : DHome) : RV := ⟨true, [.rd (.sc (.int .i64 a.xAt)), .rd (.sc (.int .i64 a.xP.xPid)), .own true 5 (a.xP.xM.xPool.xNodes.map DNode.c), .rd (.sc (.int .i64 a.xP.xM.xAt)), .rd (.sc (.int .i64 a.xP.xM.xS)), .rd (.sc (.int .i64 a.xP.xM.xE)), .rd (.sc (.int .i64 a.xP.xM.xD)), .rd (.sc (.int .i64 a.xP.xM.xState)), .rd (.sc (.int .i64 a.xP.xM.xAsk)), .rd (.sc (.int .i64 a.xP.xM.xArg)), .own true 1 (ssC a.xP.xBox), .own true 1 (ssC a.xP.xOut)]⟩

@[reducible] def DHome.x (a : DHome) : List X := [.sc (.int .i64 a.xAt), .sc (.int .i64 a.xP.xPid), .rd none 5 (a.xP.xM.xPool.xNodes.map DNode.c), .sc (.int .i64 a.xP.xM.xAt), .sc (.int .i64 a.xP.xM.xS), .sc (.int .i64 a.xP.xM.xE), .sc (.int .i64 a.xP.xM.xD), .sc (.int .i64 a.xP.xM.xState), .sc (.int .i64 a.xP.xM.xAsk), .sc (.int .i64 a.xP.xM.xArg), .rd none 1 (ssC a.xP.xBox), .rd none 1 (ssC a.xP.xOut)]

def DHome.sz (a : DHome) : Int := a.xP.sz

def DHome.ok (a : DHome) : Prop := (-9223372036854775808 ≤ a.xAt ∧ a.xAt ≤ 9223372036854775807) ∧ a.xP.ok

theorem DHome.sz_nonneg (a : DHome) : 0 ≤ a.sz := by
  have := a.xP.sz_nonneg
  unfold DHome.sz
  omega

structure DGram where
  xKind : Int
  xFrom : Int
  xTo : Int
  xP : DPiece

@[reducible] def DGram.c (a : DGram) : List C := [.sc (.int .i64 a.xKind), .sc (.int .i64 a.xFrom), .sc (.int .i64 a.xTo), .sc (.int .i64 a.xP.xNo), .sc (.string a.xP.xText)]

@[reducible] def DGram.r (a : DGram) : RV := ⟨true, [.rd (.sc (.int .i64 a.xKind)), .rd (.sc (.int .i64 a.xFrom)), .rd (.sc (.int .i64 a.xTo)), .rd (.sc (.int .i64 a.xP.xNo)), .rd (.sc (.string a.xP.xText))]⟩

@[reducible] def DGram.x (a : DGram) : List X := [.sc (.int .i64 a.xKind), .sc (.int .i64 a.xFrom), .sc (.int .i64 a.xTo), .sc (.int .i64 a.xP.xNo), .sc (.string a.xP.xText)]

def DGram.sz (a : DGram) : Int := a.xP.sz

def DGram.ok (a : DGram) : Prop := (-9223372036854775808 ≤ a.xKind ∧ a.xKind ≤ 9223372036854775807) ∧ (-9223372036854775808 ≤ a.xFrom ∧ a.xFrom ≤ 9223372036854775807) ∧ (-9223372036854775808 ≤ a.xTo ∧ a.xTo ≤ 9223372036854775807) ∧ a.xP.ok

theorem DGram.sz_nonneg (a : DGram) : 0 ≤ a.sz := by
  have := a.xP.sz_nonneg
  unfold DGram.sz
  omega

structure DParked where
  xAt : Int
  xTo : Int
  xText : ByteArray

@[reducible] def DParked.c (a : DParked) : List C := [.sc (.int .i64 a.xAt), .sc (.int .i64 a.xTo), .sc (.string a.xText)]

@[reducible] def DParked.r (a : DParked) : RV := ⟨true, [.rd (.sc (.int .i64 a.xAt)), .rd (.sc (.int .i64 a.xTo)), .rd (.sc (.string a.xText))]⟩

@[reducible] def DParked.x (a : DParked) : List X := [.sc (.int .i64 a.xAt), .sc (.int .i64 a.xTo), .sc (.string a.xText)]

def DParked.sz (a : DParked) : Int := (a.xText.size : Int)

def DParked.ok (a : DParked) : Prop := (-9223372036854775808 ≤ a.xAt ∧ a.xAt ≤ 9223372036854775807) ∧ (-9223372036854775808 ≤ a.xTo ∧ a.xTo ≤ 9223372036854775807) ∧ a.xText.size ≤ 9223372036854775807

theorem DParked.sz_nonneg (a : DParked) : 0 ≤ a.sz := by
  unfold DParked.sz
  omega

structure DWorld where
  xCode : DCode
  xPlaces : Int
  xHomes : List DHome
  xLinks : List DLink
  xGrams : List DGram
  xParked : List DParked
  xNext : Int
  xGave : List (List ByteArray)
  xTook : List (List ByteArray)

@[reducible] def DWorld.c (a : DWorld) : List C := [.sl true 5 (a.xCode.xPool.xNodes.map DNode.c), .sl true 4 (a.xCode.xList.map DInstr.c), .sl true 3 (a.xCode.xDefs.map DDef.c), .sc (.int .i64 a.xPlaces), .sl true 12 (a.xHomes.map DHome.c), .sl true 5 (a.xLinks.map DLink.c), .sl true 5 (a.xGrams.map DGram.c), .sl true 3 (a.xParked.map DParked.c), .sc (.int .i64 a.xNext), .sl true 1 (sssC a.xGave), .sl true 1 (sssC a.xTook)]

@[reducible] def DWorld.r (a : DWorld) : RV := ⟨true, [.own true 5 (a.xCode.xPool.xNodes.map DNode.c), .own true 4 (a.xCode.xList.map DInstr.c), .own true 3 (a.xCode.xDefs.map DDef.c), .rd (.sc (.int .i64 a.xPlaces)), .own true 12 (a.xHomes.map DHome.c), .own true 5 (a.xLinks.map DLink.c), .own true 5 (a.xGrams.map DGram.c), .own true 3 (a.xParked.map DParked.c), .rd (.sc (.int .i64 a.xNext)), .own true 1 (sssC a.xGave), .own true 1 (sssC a.xTook)]⟩

@[reducible] def DWorld.x (a : DWorld) : List X := [.rd none 5 (a.xCode.xPool.xNodes.map DNode.c), .rd none 4 (a.xCode.xList.map DInstr.c), .rd none 3 (a.xCode.xDefs.map DDef.c), .sc (.int .i64 a.xPlaces), .rd none 12 (a.xHomes.map DHome.c), .rd none 5 (a.xLinks.map DLink.c), .rd none 5 (a.xGrams.map DGram.c), .rd none 3 (a.xParked.map DParked.c), .sc (.int .i64 a.xNext), .rd none 1 (sssC a.xGave), .rd none 1 (sssC a.xTook)]

def DWorld.sz (a : DWorld) : Int := a.xCode.sz + ((a.xHomes.length : Int) + szL DHome.sz a.xHomes) + ((a.xLinks.length : Int) + szL DLink.sz a.xLinks) + ((a.xGrams.length : Int) + szL DGram.sz a.xGrams) + ((a.xParked.length : Int) + szL DParked.sz a.xParked) + szSS a.xGave + szSS a.xTook

def DWorld.ok (a : DWorld) : Prop := a.xCode.ok ∧ (-9223372036854775808 ≤ a.xPlaces ∧ a.xPlaces ≤ 9223372036854775807) ∧ (a.xHomes.length ≤ 9223372036854775807 ∧ ∀ y ∈ a.xHomes, y.ok) ∧ (a.xLinks.length ≤ 9223372036854775807 ∧ ∀ y ∈ a.xLinks, y.ok) ∧ (a.xGrams.length ≤ 9223372036854775807 ∧ ∀ y ∈ a.xGrams, y.ok) ∧ (a.xParked.length ≤ 9223372036854775807 ∧ ∀ y ∈ a.xParked, y.ok) ∧ (-9223372036854775808 ≤ a.xNext ∧ a.xNext ≤ 9223372036854775807) ∧ (a.xGave.length ≤ 9223372036854775807 ∧ ∀ l ∈ a.xGave, l.length ≤ 9223372036854775807 ∧ ∀ y ∈ l, y.size ≤ 9223372036854775807) ∧ (a.xTook.length ≤ 9223372036854775807 ∧ ∀ l ∈ a.xTook, l.length ≤ 9223372036854775807 ∧ ∀ y ∈ l, y.size ≤ 9223372036854775807)

theorem DWorld.sz_nonneg (a : DWorld) : 0 ≤ a.sz := by
  have := a.xCode.sz_nonneg
  have := szL_nonneg DHome.sz_nonneg a.xHomes
  have := szL_nonneg DLink.sz_nonneg a.xLinks
  have := szL_nonneg DGram.sz_nonneg a.xGrams
  have := szL_nonneg DParked.sz_nonneg a.xParked
  have := szSS_nonneg a.xGave
  have := szSS_nonneg a.xTook
  unfold DWorld.sz
  omega

end Go.Proofs.YtifodjnbcnbcpaaGreat.V

set_option linter.unusedVariables false

set_option linter.unusedSimpArgs false

namespace Go.Proofs.YtifodjnbcnbcpaaGreat.V

open Go

def Mdsz (f : Nat) : List Mode :=
  match f with
  | 9 => [.rd, .rd]
  | 18 => [.rd, .rd]
  | 26 => [.rd, .rd]
  | 44 => [.rd, .rd]
  | 45 => [.rd, .rd]
  | 46 => [.rd, .rd]
  | 78 => [.rd, .rd]
  | 79 => [.rd, .rd]
  | 92 => [.rd, .rd]
  | 93 => [.rd, .rd]
  | 94 => [.rd, .rd]
  | 95 => [.rd, .rd]
  | 96 => [.rd, .rd]
  | 113 => [.rd, .rd]
  | 114 => [.rd, .rd]
  | 115 => [.rd, .rd]
  | 159 => [.rd, .rd]
  | 160 => [.rd, .rd]
  | 161 => [.rd, .rd]
  | 162 => [.rd, .rd]
  | 187 => [.rd, .rd]
  | 229 => [.rd, .rd]
  | 230 => [.rd, .rd]
  | _ => []

def Ensz : Env := ⟨τ, Mdsz⟩

set_option maxRecDepth 100000 in
theorem szNode_ok (a : DNode) (left : Int) (h0 : 0 ≤ left) (h1 : left ≤ 1048576) (ho : a.ok) : FnV Tryz.prog 187 [.rdv true a.c, iV left] fun rs outs => rs = [iR (szR a.sz left)] ∧ outs = [] := by
  refine fn_ok (E := Ensz) τ_ok mixed Tryz.func187 (by rfl) (by rfl) false (by simp [Tryz.f187]) ?_
  obtain ⟨oKind, oN, oS, oA, oB⟩ := ho
  unfold DNode.sz
  conv => whnf
  have e0 : wrp .i64 (left - ((a.xS.size : Nat) : Int)) = left - (a.xS.size : Int) := wrp_i64 (by omega) (by omega)
  rw [e0]
  refine br_if (fun h => ?_) (fun h => ?_) <;> (try rw [h]) <;> (conv => whnf)
  · rw [ltI_t] at h
    rw [szR_neg (by omega)]
    exact ⟨rfl, rfl⟩
  rw [ltI_f] at h
  try rw [szR_pos (by omega)]
  have eL : (left - (a.xS.size : Int)) = left - ((a.xS.size : Int)) := by omega
  rw [eL]
  exact ⟨rfl, rfl⟩

set_option maxRecDepth 100000 in
theorem szNodeS_ok (xs : List DNode) (left : Int) (h0 : 0 ≤ left) (h1 : left ≤ 1048576) (hl : xs.length ≤ 9223372036854775807) (ho : ∀ y ∈ xs, y.ok) :
    FnV Tryz.prog 113 [.rdv false [.sl true 5 (xs.map DNode.c)], iV left] fun rs outs => rs = [iR (szR (((xs.length : Int) + szL DNode.sz xs)) left)] ∧ outs = [] := by
  refine fn_ok (E := Ensz) τ_ok mixed Tryz.func113 (by rfl) (by rfl) false (by simp [Tryz.f113]) ?_
  have hn := szL_nonneg DNode.sz_nonneg xs
  conv => whnf
  rw [List.length_map]
  have e0 : wrp .i64 (left - ((xs.length : Nat) : Int)) = left - xs.length := wrp_i64 (by omega) (by omega)
  rw [e0]
  refine br_if (fun h => ?_) (fun h => ?_) <;> (try rw [h]) <;> (conv => whnf)
  · rw [ltI_t] at h
    rw [szR_neg (by omega)]
    exact ⟨rfl, rfl⟩
  rw [ltI_f] at h
  refine ⟨fun m s => ∃ (k L : Int), s = ⟨[(0, .vals false [.rd none 5 (xs.map DNode.c)]), (1, .vals false [.sc (.int .i64 L)]), (5, .vals false [.sc (.int .i64 k)])], [], []⟩ ∧ m = xs.length - k.toNat ∧ 0 ≤ k ∧ k ≤ xs.length ∧ 0 ≤ L ∧ L ≤ 1048576 ∧ L + xs.length + szL DNode.sz (xs.take k.toNat) = left,
    ⟨_, _, norm_wk (keep := [0, 1, 5]) (kb := []) (ρ := []) rfl, ⟨0, _, rfl, rfl, by omega, by omega, h, by omega, by simp [szL]⟩⟩, ?_⟩
  rintro m _ ⟨k, L, rfl, rfl, k0, k1, L0, L1, hL⟩
  conv => whnf
  refine br_if (fun h => ?_) (fun h => ?_) <;> (try rw [h]) <;> (conv => whnf)
  · rw [ltI_t, List.length_map] at h
    obtain ⟨x, hx⟩ : ∃ x, xs[k.toNat]? = some x := ⟨_, List.getElem?_eq_getElem (by omega)⟩
    have hxo := ho x (List.mem_of_getElem? hx)
    have hs := szL_succ (f := DNode.sz) hx
    have ht := szL_take DNode.sz_nonneg xs (k.toNat + 1)
    have hxn := DNode.sz_nonneg x
    refine ⟨by omega, _, by rw [List.getElem?_map, hx]; rfl, ?_⟩
    conv => whnf
    have ek : wrp .i64 (k + 1) = k + 1 := wrp_i64 (by omega) (by omega)
    have ek2 : (k + 1).toNat = k.toNat + 1 := by omega
    refine (szNode_ok x L L0 L1 hxo).mono ?_
    rintro _ _ ⟨rfl, rfl⟩
    conv => whnf
    refine br_if (fun h2 => ?_) (fun h2 => ?_) <;> (try rw [h2]) <;> (conv => whnf)
    · rw [ltI_t, szR_lt L0] at h2
      rw [szR_neg (by omega)]
      exact ⟨rfl, rfl⟩
    · rw [ltI_f, ← Int.not_lt, szR_lt L0, Int.not_lt] at h2
      rw [ek, szR_pos h2]
      exact ⟨xs.length - (k + 1).toNat, _, by omega, norm_wk (keep := [0, 1, 5]) (kb := []) (ρ := []) rfl, ⟨k + 1, _, rfl, rfl, by omega, by omega, by omega, by omega, by rw [ek2, hs]; omega⟩⟩
  · rw [ltI_f, List.length_map] at h
    have hk : xs.take k.toNat = xs := List.take_of_length_le (by omega)
    rw [hk] at hL
    rw [szR_pos (by omega)]
    have eL : L = left - ((xs.length : Int) + szL DNode.sz xs) := by omega
    rw [eL]
    exact ⟨rfl, rfl⟩

set_option maxRecDepth 100000 in
theorem szPool_ok (a : DPool) (left : Int) (h0 : 0 ≤ left) (h1 : left ≤ 1048576) (ho : a.ok) : FnV Tryz.prog 44 [.rdv true a.c, iV left] fun rs outs => rs = [iR (szR a.sz left)] ∧ outs = [] := by
  refine fn_ok (E := Ensz) τ_ok mixed Tryz.func44 (by rfl) (by rfl) false (by simp [Tryz.f44]) ?_
  have oNodes := ho
  have nNodes := szL_nonneg DNode.sz_nonneg a.xNodes
  unfold DPool.sz
  conv => whnf
  refine (szNodeS_ok a.xNodes left (by omega) (by omega) oNodes.1 oNodes.2).mono ?_
  rintro _ _ ⟨rfl, rfl⟩
  conv => whnf
  refine br_if (fun h => ?_) (fun h => ?_) <;> (try rw [h]) <;> (conv => whnf)
  · rw [ltI_t, szR_lt (by omega)] at h
    rw [szR_neg (by omega)]
    exact ⟨rfl, rfl⟩
  rw [ltI_f, ← Int.not_lt, szR_lt (by omega), Int.not_lt] at h
  rw [szR_pos h]
  try rw [szR_pos (by omega)]
  have eL : (left - ((a.xNodes.length : Int) + szL DNode.sz a.xNodes)) = left - (((a.xNodes.length : Int) + szL DNode.sz a.xNodes)) := by omega
  rw [eL]
  exact ⟨rfl, rfl⟩

set_option maxRecDepth 100000 in
theorem szInstr_ok (a : DInstr) (left : Int) (h0 : 0 ≤ left) (h1 : left ≤ 1048576) (ho : a.ok) : FnV Tryz.prog 114 [.rdv true a.c, iV left] fun rs outs => rs = [iR (szR a.sz left)] ∧ outs = [] := by
  refine fn_ok (E := Ensz) τ_ok mixed Tryz.func114 (by rfl) (by rfl) false (by simp [Tryz.f114]) ?_
  obtain ⟨oOp, oN, oI, oS⟩ := ho
  unfold DInstr.sz
  conv => whnf
  have e0 : wrp .i64 (left - ((a.xS.size : Nat) : Int)) = left - (a.xS.size : Int) := wrp_i64 (by omega) (by omega)
  rw [e0]
  refine br_if (fun h => ?_) (fun h => ?_) <;> (try rw [h]) <;> (conv => whnf)
  · rw [ltI_t] at h
    rw [szR_neg (by omega)]
    exact ⟨rfl, rfl⟩
  rw [ltI_f] at h
  try rw [szR_pos (by omega)]
  have eL : (left - (a.xS.size : Int)) = left - ((a.xS.size : Int)) := by omega
  rw [eL]
  exact ⟨rfl, rfl⟩

set_option maxRecDepth 100000 in
theorem szDef_ok (a : DDef) (left : Int) (h0 : 0 ≤ left) (h1 : left ≤ 1048576) (ho : a.ok) : FnV Tryz.prog 115 [.rdv true a.c, iV left] fun rs outs => rs = [iR (szR a.sz left)] ∧ outs = [] := by
  refine fn_ok (E := Ensz) τ_ok mixed Tryz.func115 (by rfl) (by rfl) false (by simp [Tryz.f115]) ?_
  obtain ⟨oName, oAt, oArgs⟩ := ho
  unfold DDef.sz
  conv => whnf
  have e0 : wrp .i64 (left - ((a.xName.size : Nat) : Int)) = left - (a.xName.size : Int) := wrp_i64 (by omega) (by omega)
  rw [e0]
  refine br_if (fun h => ?_) (fun h => ?_) <;> (try rw [h]) <;> (conv => whnf)
  · rw [ltI_t] at h
    rw [szR_neg (by omega)]
    exact ⟨rfl, rfl⟩
  rw [ltI_f] at h
  try rw [szR_pos (by omega)]
  have eL : (left - (a.xName.size : Int)) = left - ((a.xName.size : Int)) := by omega
  rw [eL]
  exact ⟨rfl, rfl⟩

set_option maxRecDepth 100000 in
theorem szInstrS_ok (xs : List DInstr) (left : Int) (h0 : 0 ≤ left) (h1 : left ≤ 1048576) (hl : xs.length ≤ 9223372036854775807) (ho : ∀ y ∈ xs, y.ok) :
    FnV Tryz.prog 45 [.rdv false [.sl true 4 (xs.map DInstr.c)], iV left] fun rs outs => rs = [iR (szR (((xs.length : Int) + szL DInstr.sz xs)) left)] ∧ outs = [] := by
  refine fn_ok (E := Ensz) τ_ok mixed Tryz.func45 (by rfl) (by rfl) false (by simp [Tryz.f45]) ?_
  have hn := szL_nonneg DInstr.sz_nonneg xs
  conv => whnf
  rw [List.length_map]
  have e0 : wrp .i64 (left - ((xs.length : Nat) : Int)) = left - xs.length := wrp_i64 (by omega) (by omega)
  rw [e0]
  refine br_if (fun h => ?_) (fun h => ?_) <;> (try rw [h]) <;> (conv => whnf)
  · rw [ltI_t] at h
    rw [szR_neg (by omega)]
    exact ⟨rfl, rfl⟩
  rw [ltI_f] at h
  refine ⟨fun m s => ∃ (k L : Int), s = ⟨[(0, .vals false [.rd none 4 (xs.map DInstr.c)]), (1, .vals false [.sc (.int .i64 L)]), (5, .vals false [.sc (.int .i64 k)])], [], []⟩ ∧ m = xs.length - k.toNat ∧ 0 ≤ k ∧ k ≤ xs.length ∧ 0 ≤ L ∧ L ≤ 1048576 ∧ L + xs.length + szL DInstr.sz (xs.take k.toNat) = left,
    ⟨_, _, norm_wk (keep := [0, 1, 5]) (kb := []) (ρ := []) rfl, ⟨0, _, rfl, rfl, by omega, by omega, h, by omega, by simp [szL]⟩⟩, ?_⟩
  rintro m _ ⟨k, L, rfl, rfl, k0, k1, L0, L1, hL⟩
  conv => whnf
  refine br_if (fun h => ?_) (fun h => ?_) <;> (try rw [h]) <;> (conv => whnf)
  · rw [ltI_t, List.length_map] at h
    obtain ⟨x, hx⟩ : ∃ x, xs[k.toNat]? = some x := ⟨_, List.getElem?_eq_getElem (by omega)⟩
    have hxo := ho x (List.mem_of_getElem? hx)
    have hs := szL_succ (f := DInstr.sz) hx
    have ht := szL_take DInstr.sz_nonneg xs (k.toNat + 1)
    have hxn := DInstr.sz_nonneg x
    refine ⟨by omega, _, by rw [List.getElem?_map, hx]; rfl, ?_⟩
    conv => whnf
    have ek : wrp .i64 (k + 1) = k + 1 := wrp_i64 (by omega) (by omega)
    have ek2 : (k + 1).toNat = k.toNat + 1 := by omega
    refine (szInstr_ok x L L0 L1 hxo).mono ?_
    rintro _ _ ⟨rfl, rfl⟩
    conv => whnf
    refine br_if (fun h2 => ?_) (fun h2 => ?_) <;> (try rw [h2]) <;> (conv => whnf)
    · rw [ltI_t, szR_lt L0] at h2
      rw [szR_neg (by omega)]
      exact ⟨rfl, rfl⟩
    · rw [ltI_f, ← Int.not_lt, szR_lt L0, Int.not_lt] at h2
      rw [ek, szR_pos h2]
      exact ⟨xs.length - (k + 1).toNat, _, by omega, norm_wk (keep := [0, 1, 5]) (kb := []) (ρ := []) rfl, ⟨k + 1, _, rfl, rfl, by omega, by omega, by omega, by omega, by rw [ek2, hs]; omega⟩⟩
  · rw [ltI_f, List.length_map] at h
    have hk : xs.take k.toNat = xs := List.take_of_length_le (by omega)
    rw [hk] at hL
    rw [szR_pos (by omega)]
    have eL : L = left - ((xs.length : Int) + szL DInstr.sz xs) := by omega
    rw [eL]
    exact ⟨rfl, rfl⟩

set_option maxRecDepth 100000 in
theorem szDefS_ok (xs : List DDef) (left : Int) (h0 : 0 ≤ left) (h1 : left ≤ 1048576) (hl : xs.length ≤ 9223372036854775807) (ho : ∀ y ∈ xs, y.ok) :
    FnV Tryz.prog 46 [.rdv false [.sl true 3 (xs.map DDef.c)], iV left] fun rs outs => rs = [iR (szR (((xs.length : Int) + szL DDef.sz xs)) left)] ∧ outs = [] := by
  refine fn_ok (E := Ensz) τ_ok mixed Tryz.func46 (by rfl) (by rfl) false (by simp [Tryz.f46]) ?_
  have hn := szL_nonneg DDef.sz_nonneg xs
  conv => whnf
  rw [List.length_map]
  have e0 : wrp .i64 (left - ((xs.length : Nat) : Int)) = left - xs.length := wrp_i64 (by omega) (by omega)
  rw [e0]
  refine br_if (fun h => ?_) (fun h => ?_) <;> (try rw [h]) <;> (conv => whnf)
  · rw [ltI_t] at h
    rw [szR_neg (by omega)]
    exact ⟨rfl, rfl⟩
  rw [ltI_f] at h
  refine ⟨fun m s => ∃ (k L : Int), s = ⟨[(0, .vals false [.rd none 3 (xs.map DDef.c)]), (1, .vals false [.sc (.int .i64 L)]), (5, .vals false [.sc (.int .i64 k)])], [], []⟩ ∧ m = xs.length - k.toNat ∧ 0 ≤ k ∧ k ≤ xs.length ∧ 0 ≤ L ∧ L ≤ 1048576 ∧ L + xs.length + szL DDef.sz (xs.take k.toNat) = left,
    ⟨_, _, norm_wk (keep := [0, 1, 5]) (kb := []) (ρ := []) rfl, ⟨0, _, rfl, rfl, by omega, by omega, h, by omega, by simp [szL]⟩⟩, ?_⟩
  rintro m _ ⟨k, L, rfl, rfl, k0, k1, L0, L1, hL⟩
  conv => whnf
  refine br_if (fun h => ?_) (fun h => ?_) <;> (try rw [h]) <;> (conv => whnf)
  · rw [ltI_t, List.length_map] at h
    obtain ⟨x, hx⟩ : ∃ x, xs[k.toNat]? = some x := ⟨_, List.getElem?_eq_getElem (by omega)⟩
    have hxo := ho x (List.mem_of_getElem? hx)
    have hs := szL_succ (f := DDef.sz) hx
    have ht := szL_take DDef.sz_nonneg xs (k.toNat + 1)
    have hxn := DDef.sz_nonneg x
    refine ⟨by omega, _, by rw [List.getElem?_map, hx]; rfl, ?_⟩
    conv => whnf
    have ek : wrp .i64 (k + 1) = k + 1 := wrp_i64 (by omega) (by omega)
    have ek2 : (k + 1).toNat = k.toNat + 1 := by omega
    refine (szDef_ok x L L0 L1 hxo).mono ?_
    rintro _ _ ⟨rfl, rfl⟩
    conv => whnf
    refine br_if (fun h2 => ?_) (fun h2 => ?_) <;> (try rw [h2]) <;> (conv => whnf)
    · rw [ltI_t, szR_lt L0] at h2
      rw [szR_neg (by omega)]
      exact ⟨rfl, rfl⟩
    · rw [ltI_f, ← Int.not_lt, szR_lt L0, Int.not_lt] at h2
      rw [ek, szR_pos h2]
      exact ⟨xs.length - (k + 1).toNat, _, by omega, norm_wk (keep := [0, 1, 5]) (kb := []) (ρ := []) rfl, ⟨k + 1, _, rfl, rfl, by omega, by omega, by omega, by omega, by rw [ek2, hs]; omega⟩⟩
  · rw [ltI_f, List.length_map] at h
    have hk : xs.take k.toNat = xs := List.take_of_length_le (by omega)
    rw [hk] at hL
    rw [szR_pos (by omega)]
    have eL : L = left - ((xs.length : Int) + szL DDef.sz xs) := by omega
    rw [eL]
    exact ⟨rfl, rfl⟩

set_option maxRecDepth 100000 in
theorem szCode_ok (a : DCode) (left : Int) (h0 : 0 ≤ left) (h1 : left ≤ 1048576) (ho : a.ok) : FnV Tryz.prog 9 [.rdv true a.c, iV left] fun rs outs => rs = [iR (szR a.sz left)] ∧ outs = [] := by
  refine fn_ok (E := Ensz) τ_ok mixed Tryz.func9 (by rfl) (by rfl) false (by simp [Tryz.f9]) ?_
  obtain ⟨oPool, oList, oDefs⟩ := ho
  have nPool := a.xPool.sz_nonneg
  have nList := szL_nonneg DInstr.sz_nonneg a.xList
  have nDefs := szL_nonneg DDef.sz_nonneg a.xDefs
  unfold DCode.sz
  conv => whnf
  refine (szPool_ok a.xPool left (by omega) (by omega) oPool).mono ?_
  rintro _ _ ⟨rfl, rfl⟩
  conv => whnf
  refine br_if (fun h => ?_) (fun h => ?_) <;> (try rw [h]) <;> (conv => whnf)
  · rw [ltI_t, szR_lt (by omega)] at h
    rw [szR_neg (by omega)]
    exact ⟨rfl, rfl⟩
  rw [ltI_f, ← Int.not_lt, szR_lt (by omega), Int.not_lt] at h
  rw [szR_pos h]
  refine (szInstrS_ok a.xList (left - a.xPool.sz) (by omega) (by omega) oList.1 oList.2).mono ?_
  rintro _ _ ⟨rfl, rfl⟩
  conv => whnf
  refine br_if (fun h => ?_) (fun h => ?_) <;> (try rw [h]) <;> (conv => whnf)
  · rw [ltI_t, szR_lt (by omega)] at h
    rw [szR_neg (by omega)]
    exact ⟨rfl, rfl⟩
  rw [ltI_f, ← Int.not_lt, szR_lt (by omega), Int.not_lt] at h
  rw [szR_pos h]
  refine (szDefS_ok a.xDefs ((left - a.xPool.sz) - ((a.xList.length : Int) + szL DInstr.sz a.xList)) (by omega) (by omega) oDefs.1 oDefs.2).mono ?_
  rintro _ _ ⟨rfl, rfl⟩
  conv => whnf
  refine br_if (fun h => ?_) (fun h => ?_) <;> (try rw [h]) <;> (conv => whnf)
  · rw [ltI_t, szR_lt (by omega)] at h
    rw [szR_neg (by omega)]
    exact ⟨rfl, rfl⟩
  rw [ltI_f, ← Int.not_lt, szR_lt (by omega), Int.not_lt] at h
  rw [szR_pos h]
  try rw [szR_pos (by omega)]
  have eL : (((left - a.xPool.sz) - ((a.xList.length : Int) + szL DInstr.sz a.xList)) - ((a.xDefs.length : Int) + szL DDef.sz a.xDefs)) = left - (a.xPool.sz + ((a.xList.length : Int) + szL DInstr.sz a.xList) + ((a.xDefs.length : Int) + szL DDef.sz a.xDefs)) := by omega
  rw [eL]
  exact ⟨rfl, rfl⟩

end Go.Proofs.YtifodjnbcnbcpaaGreat.V

set_option linter.unusedVariables false

set_option linter.unusedSimpArgs false

namespace Go.Proofs.YtifodjnbcnbcpaaGreat.V

open Go

theorem lay_at {α : Type} {l : List α} {z v : α} {m : Nat} : (l ++ List.replicate (m + 1) z).set l.length v = l ++ [v] ++ List.replicate m z := by
  rw [List.set_append_right _ _ (Nat.le_refl _)]
  simp [List.replicate_succ]

theorem lay_get {α : Type} {l : List α} {z : α} {m : Nat} : (l ++ List.replicate (m + 1) z)[l.length]? = some z := by simp

theorem map_take_succ {α β : Type} (f : α → β) {l : List α} {k : Nat} {x : α} (h : l[k]? = some x) : (l.take (k + 1)).map f = (l.take k).map f ++ [f x] := by
  rw [List.take_add_one, h]
  simp

def Mdto (f : Nat) : List Mode :=
  match f with
  | 11 => [.rd]
  | 20 => [.rd]
  | 28 => [.rd]
  | 50 => [.rd]
  | 51 => [.rd]
  | 52 => [.rd]
  | 82 => [.rd]
  | 83 => [.rd]
  | 101 => [.rd]
  | 102 => [.rd]
  | 103 => [.rd]
  | 104 => [.rd]
  | 105 => [.rd]
  | 118 => [.rd]
  | 119 => [.rd]
  | 120 => [.rd]
  | 172 => [.rd]
  | 173 => [.rd]
  | 174 => [.rd]
  | 175 => [.rd]
  | 189 => [.rd]
  | 242 => [.rd]
  | 243 => [.rd]
  | _ => []

def Ento : Env := ⟨τ, Mdto⟩

set_option maxRecDepth 100000 in
theorem toNode_ok (a : DNode) : FnV Tryz.prog 189 [.rdv true a.c] fun rs outs => rs = [a.r] ∧ outs = [] := by
  refine fn_ok (E := Ento) τ_ok mixed Tryz.func189 (by rfl) (by rfl) false (by simp [Tryz.f189]) ?_
  conv => whnf
  exact ⟨rfl, rfl⟩

set_option maxRecDepth 100000 in
theorem toNodeS_ok (xs : List DNode) (hl : xs.length ≤ 1048576) (ho : ∀ y ∈ xs, y.sz ≤ 1048576) :
    FnV Tryz.prog 118 [.rdv false [.sl true 5 (xs.map DNode.c)]] fun rs outs => rs = [⟨false, [.own true 5 (xs.map DNode.c)]⟩] ∧ outs = [] := by
  refine fn_ok (E := Ento) τ_ok mixed Tryz.func118 (by rfl) (by rfl) false (by simp [Tryz.f118]) ?_
  conv => whnf
  rw [List.length_map]
  refine ⟨by omega, rfl, by simp only [d231]; omega, by omega, ?_⟩
  conv => whnf
  refine ⟨fun m s => ∃ (k : Int) (es : List (List C)), s = ⟨[(0, .vals false [.rd none 5 (xs.map DNode.c)]), (3, .vals false [.ref 100 0]), (4, .vals false [.sc (.int .i64 k)])], [], [(100, ⟨true, 0, 0, true, 5, es⟩)]⟩ ∧ m = xs.length - k.toNat ∧ 0 ≤ k ∧ k ≤ xs.length ∧ es = (xs.take k.toNat).map DNode.c ++ List.replicate (xs.length - k.toNat) (List.map zC d231.zero),
    ⟨_, _, norm_wk (keep := [0, 3, 4]) (kb := []) (ρ := [(7, some 100)]) rfl, ⟨0, _, rfl, rfl, by omega, by omega, by simp⟩⟩, ?_⟩
  rintro m _ ⟨k, es, rfl, rfl, k0, k1, he⟩
  have hel : (es.length : Int) = xs.length := by rw [he]; simp; omega
  conv => whnf
  refine br_if (fun h => ?_) (fun h => ?_) <;> (try rw [h]) <;> (conv => whnf)
  · rw [ltI_t, List.length_map] at h
    obtain ⟨x, hx⟩ : ∃ x, xs[k.toNat]? = some x := ⟨_, List.getElem?_eq_getElem (by omega)⟩
    have hm := List.mem_of_getElem? hx
    have hlt : (xs.take k.toNat).length = k.toNat := by rw [List.length_take]; omega
    obtain ⟨r, hr⟩ : ∃ r, xs.length - k.toNat = r + 1 := ⟨xs.length - k.toNat - 1, by omega⟩
    rw [hr] at he
    have hget : es[k.toNat]? = some (List.map zC d231.zero) := by
      rw [he]
      have := lay_get (l := (xs.take k.toNat).map DNode.c) (z := (List.map zC d231.zero)) (m := r)
      rw [List.length_map, hlt] at this
      exact this
    have hset : es.set k.toNat x.c = (xs.take (k.toNat + 1)).map DNode.c ++ List.replicate r (List.map zC d231.zero) := by
      rw [he, map_take_succ DNode.c hx]
      have := lay_at (l := (xs.take k.toNat).map DNode.c) (z := (List.map zC d231.zero)) (v := x.c) (m := r)
      rw [List.length_map, hlt] at this
      exact this
    refine ⟨by omega, _, by rw [List.getElem?_map, hx]; rfl, ?_⟩
    conv => whnf
    refine (toNode_ok x).mono ?_
    rintro _ _ ⟨rfl, rfl⟩
    conv => whnf
    refine ⟨by omega, by show k < (es.length : Int); omega, ?_⟩
    conv => whnf
    refine ⟨_, hget, ?_⟩
    conv => whnf
    rw [wrp_i64 (x := k + 1) (by omega) (by omega)]
    exact ⟨xs.length - (k + 1).toNat, _, by omega, norm_wk (keep := [0, 3, 4]) (kb := []) (ρ := [(100, some 100)]) rfl, ⟨k + 1, _, rfl, rfl, by omega, by omega, by
      have e2 : (k + 1).toNat = k.toNat + 1 := by omega
      have e3 : xs.length - (k.toNat + 1) = r := by omega
      rw [e2, e3]
      exact hset⟩⟩
  · rw [ltI_f, List.length_map] at h
    have hk : xs.take k.toNat = xs := List.take_of_length_le (by omega)
    have hz : xs.length - k.toNat = 0 := by omega
    rw [hk, hz, List.replicate_zero, List.append_nil] at he
    rw [he]
    exact ⟨rfl, rfl⟩

set_option maxRecDepth 100000 in
theorem toPool_ok (a : DPool) (hs : a.sz ≤ 1048576) : FnV Tryz.prog 50 [.rdv true a.c] fun rs outs => rs = [a.r] ∧ outs = [] := by
  refine fn_ok (E := Ento) τ_ok mixed Tryz.func50 (by rfl) (by rfl) false (by simp [Tryz.f50]) ?_
  conv => whnf
  have nNodes := szL_nonneg DNode.sz_nonneg a.xNodes
  unfold DPool.sz at hs
  refine (toNodeS_ok a.xNodes (by omega) (fun y hy => by have := szL_mem DNode.sz_nonneg hy; omega)).mono ?_
  rintro _ _ ⟨rfl, rfl⟩
  conv => whnf
  exact ⟨rfl, rfl⟩

set_option maxRecDepth 100000 in
theorem toInstr_ok (a : DInstr) : FnV Tryz.prog 119 [.rdv true a.c] fun rs outs => rs = [a.r] ∧ outs = [] := by
  refine fn_ok (E := Ento) τ_ok mixed Tryz.func119 (by rfl) (by rfl) false (by simp [Tryz.f119]) ?_
  conv => whnf
  exact ⟨rfl, rfl⟩

set_option maxRecDepth 100000 in
theorem toDef_ok (a : DDef) : FnV Tryz.prog 120 [.rdv true a.c] fun rs outs => rs = [a.r] ∧ outs = [] := by
  refine fn_ok (E := Ento) τ_ok mixed Tryz.func120 (by rfl) (by rfl) false (by simp [Tryz.f120]) ?_
  conv => whnf
  exact ⟨rfl, rfl⟩

set_option maxRecDepth 100000 in
theorem toInstrS_ok (xs : List DInstr) (hl : xs.length ≤ 1048576) (ho : ∀ y ∈ xs, y.sz ≤ 1048576) :
    FnV Tryz.prog 51 [.rdv false [.sl true 4 (xs.map DInstr.c)]] fun rs outs => rs = [⟨false, [.own true 4 (xs.map DInstr.c)]⟩] ∧ outs = [] := by
  refine fn_ok (E := Ento) τ_ok mixed Tryz.func51 (by rfl) (by rfl) false (by simp [Tryz.f51]) ?_
  conv => whnf
  rw [List.length_map]
  refine ⟨by omega, rfl, by simp only [d164]; omega, by omega, ?_⟩
  conv => whnf
  refine ⟨fun m s => ∃ (k : Int) (es : List (List C)), s = ⟨[(0, .vals false [.rd none 4 (xs.map DInstr.c)]), (3, .vals false [.ref 100 0]), (4, .vals false [.sc (.int .i64 k)])], [], [(100, ⟨true, 0, 0, true, 4, es⟩)]⟩ ∧ m = xs.length - k.toNat ∧ 0 ≤ k ∧ k ≤ xs.length ∧ es = (xs.take k.toNat).map DInstr.c ++ List.replicate (xs.length - k.toNat) (List.map zC d164.zero),
    ⟨_, _, norm_wk (keep := [0, 3, 4]) (kb := []) (ρ := [(7, some 100)]) rfl, ⟨0, _, rfl, rfl, by omega, by omega, by simp⟩⟩, ?_⟩
  rintro m _ ⟨k, es, rfl, rfl, k0, k1, he⟩
  have hel : (es.length : Int) = xs.length := by rw [he]; simp; omega
  conv => whnf
  refine br_if (fun h => ?_) (fun h => ?_) <;> (try rw [h]) <;> (conv => whnf)
  · rw [ltI_t, List.length_map] at h
    obtain ⟨x, hx⟩ : ∃ x, xs[k.toNat]? = some x := ⟨_, List.getElem?_eq_getElem (by omega)⟩
    have hm := List.mem_of_getElem? hx
    have hlt : (xs.take k.toNat).length = k.toNat := by rw [List.length_take]; omega
    obtain ⟨r, hr⟩ : ∃ r, xs.length - k.toNat = r + 1 := ⟨xs.length - k.toNat - 1, by omega⟩
    rw [hr] at he
    have hget : es[k.toNat]? = some (List.map zC d164.zero) := by
      rw [he]
      have := lay_get (l := (xs.take k.toNat).map DInstr.c) (z := (List.map zC d164.zero)) (m := r)
      rw [List.length_map, hlt] at this
      exact this
    have hset : es.set k.toNat x.c = (xs.take (k.toNat + 1)).map DInstr.c ++ List.replicate r (List.map zC d164.zero) := by
      rw [he, map_take_succ DInstr.c hx]
      have := lay_at (l := (xs.take k.toNat).map DInstr.c) (z := (List.map zC d164.zero)) (v := x.c) (m := r)
      rw [List.length_map, hlt] at this
      exact this
    refine ⟨by omega, _, by rw [List.getElem?_map, hx]; rfl, ?_⟩
    conv => whnf
    refine (toInstr_ok x).mono ?_
    rintro _ _ ⟨rfl, rfl⟩
    conv => whnf
    refine ⟨by omega, by show k < (es.length : Int); omega, ?_⟩
    conv => whnf
    refine ⟨_, hget, ?_⟩
    conv => whnf
    rw [wrp_i64 (x := k + 1) (by omega) (by omega)]
    exact ⟨xs.length - (k + 1).toNat, _, by omega, norm_wk (keep := [0, 3, 4]) (kb := []) (ρ := [(100, some 100)]) rfl, ⟨k + 1, _, rfl, rfl, by omega, by omega, by
      have e2 : (k + 1).toNat = k.toNat + 1 := by omega
      have e3 : xs.length - (k.toNat + 1) = r := by omega
      rw [e2, e3]
      exact hset⟩⟩
  · rw [ltI_f, List.length_map] at h
    have hk : xs.take k.toNat = xs := List.take_of_length_le (by omega)
    have hz : xs.length - k.toNat = 0 := by omega
    rw [hk, hz, List.replicate_zero, List.append_nil] at he
    rw [he]
    exact ⟨rfl, rfl⟩

set_option maxRecDepth 100000 in
theorem toDefS_ok (xs : List DDef) (hl : xs.length ≤ 1048576) (ho : ∀ y ∈ xs, y.sz ≤ 1048576) :
    FnV Tryz.prog 52 [.rdv false [.sl true 3 (xs.map DDef.c)]] fun rs outs => rs = [⟨false, [.own true 3 (xs.map DDef.c)]⟩] ∧ outs = [] := by
  refine fn_ok (E := Ento) τ_ok mixed Tryz.func52 (by rfl) (by rfl) false (by simp [Tryz.f52]) ?_
  conv => whnf
  rw [List.length_map]
  refine ⟨by omega, rfl, by simp only [d166]; omega, by omega, ?_⟩
  conv => whnf
  refine ⟨fun m s => ∃ (k : Int) (es : List (List C)), s = ⟨[(0, .vals false [.rd none 3 (xs.map DDef.c)]), (3, .vals false [.ref 100 0]), (4, .vals false [.sc (.int .i64 k)])], [], [(100, ⟨true, 0, 0, true, 3, es⟩)]⟩ ∧ m = xs.length - k.toNat ∧ 0 ≤ k ∧ k ≤ xs.length ∧ es = (xs.take k.toNat).map DDef.c ++ List.replicate (xs.length - k.toNat) (List.map zC d166.zero),
    ⟨_, _, norm_wk (keep := [0, 3, 4]) (kb := []) (ρ := [(7, some 100)]) rfl, ⟨0, _, rfl, rfl, by omega, by omega, by simp⟩⟩, ?_⟩
  rintro m _ ⟨k, es, rfl, rfl, k0, k1, he⟩
  have hel : (es.length : Int) = xs.length := by rw [he]; simp; omega
  conv => whnf
  refine br_if (fun h => ?_) (fun h => ?_) <;> (try rw [h]) <;> (conv => whnf)
  · rw [ltI_t, List.length_map] at h
    obtain ⟨x, hx⟩ : ∃ x, xs[k.toNat]? = some x := ⟨_, List.getElem?_eq_getElem (by omega)⟩
    have hm := List.mem_of_getElem? hx
    have hlt : (xs.take k.toNat).length = k.toNat := by rw [List.length_take]; omega
    obtain ⟨r, hr⟩ : ∃ r, xs.length - k.toNat = r + 1 := ⟨xs.length - k.toNat - 1, by omega⟩
    rw [hr] at he
    have hget : es[k.toNat]? = some (List.map zC d166.zero) := by
      rw [he]
      have := lay_get (l := (xs.take k.toNat).map DDef.c) (z := (List.map zC d166.zero)) (m := r)
      rw [List.length_map, hlt] at this
      exact this
    have hset : es.set k.toNat x.c = (xs.take (k.toNat + 1)).map DDef.c ++ List.replicate r (List.map zC d166.zero) := by
      rw [he, map_take_succ DDef.c hx]
      have := lay_at (l := (xs.take k.toNat).map DDef.c) (z := (List.map zC d166.zero)) (v := x.c) (m := r)
      rw [List.length_map, hlt] at this
      exact this
    refine ⟨by omega, _, by rw [List.getElem?_map, hx]; rfl, ?_⟩
    conv => whnf
    refine (toDef_ok x).mono ?_
    rintro _ _ ⟨rfl, rfl⟩
    conv => whnf
    refine ⟨by omega, by show k < (es.length : Int); omega, ?_⟩
    conv => whnf
    refine ⟨_, hget, ?_⟩
    conv => whnf
    rw [wrp_i64 (x := k + 1) (by omega) (by omega)]
    exact ⟨xs.length - (k + 1).toNat, _, by omega, norm_wk (keep := [0, 3, 4]) (kb := []) (ρ := [(100, some 100)]) rfl, ⟨k + 1, _, rfl, rfl, by omega, by omega, by
      have e2 : (k + 1).toNat = k.toNat + 1 := by omega
      have e3 : xs.length - (k.toNat + 1) = r := by omega
      rw [e2, e3]
      exact hset⟩⟩
  · rw [ltI_f, List.length_map] at h
    have hk : xs.take k.toNat = xs := List.take_of_length_le (by omega)
    have hz : xs.length - k.toNat = 0 := by omega
    rw [hk, hz, List.replicate_zero, List.append_nil] at he
    rw [he]
    exact ⟨rfl, rfl⟩

set_option maxRecDepth 100000 in
theorem toCode_ok (a : DCode) (hs : a.sz ≤ 1048576) : FnV Tryz.prog 11 [.rdv true a.c] fun rs outs => rs = [a.r] ∧ outs = [] := by
  refine fn_ok (E := Ento) τ_ok mixed Tryz.func11 (by rfl) (by rfl) false (by simp [Tryz.f11]) ?_
  conv => whnf
  have nPool := a.xPool.sz_nonneg
  have nList := szL_nonneg DInstr.sz_nonneg a.xList
  have nDefs := szL_nonneg DDef.sz_nonneg a.xDefs
  unfold DCode.sz at hs
  refine (toPool_ok a.xPool (by omega)).mono ?_
  rintro _ _ ⟨rfl, rfl⟩
  conv => whnf
  refine (toInstrS_ok a.xList (by omega) (fun y hy => by have := szL_mem DInstr.sz_nonneg hy; omega)).mono ?_
  rintro _ _ ⟨rfl, rfl⟩
  conv => whnf
  refine (toDefS_ok a.xDefs (by omega) (fun y hy => by have := szL_mem DDef.sz_nonneg hy; omega)).mono ?_
  rintro _ _ ⟨rfl, rfl⟩
  conv => whnf
  exact ⟨rfl, rfl⟩

end Go.Proofs.YtifodjnbcnbcpaaGreat.V

set_option linter.unusedVariables false

set_option linter.unusedSimpArgs false

namespace Go.Proofs.YtifodjnbcnbcpaaGreat.V

open Go

def Mdeq (f : Nat) : List Mode :=
  match f with
  | 13 => [.rd, .rd]
  | 14 => [.rd, .rd]
  | 22 => [.rd, .rd]
  | 56 => [.rd, .rd]
  | 57 => [.rd, .rd]
  | 58 => [.rd, .rd]
  | 59 => [.rd, .rd]
  | 60 => [.rd, .rd]
  | 61 => [.rd, .rd]
  | 62 => [.rd, .rd]
  | 63 => [.rd, .rd]
  | 86 => [.rd, .rd]
  | 87 => [.rd, .rd]
  | 130 => [.rd, .rd]
  | 131 => [.rd, .rd]
  | 132 => [.rd, .rd]
  | 133 => [.rd, .rd]
  | 134 => [.rd, .rd]
  | 135 => [.rd, .rd]
  | 136 => [.rd, .rd]
  | 195 => [.rd, .rd]
  | 196 => [.rd, .rd]
  | 197 => [.rd, .rd]
  | _ => []

def Eneq : Env := ⟨τ, Mdeq⟩

theorem q0 : notB true = false := notB_f.2 rfl

set_option maxRecDepth 100000 in
theorem eqNode_ok (a : DNode) (ho : a.ok) : FnV Tryz.prog 197 [.rdv true a.c, .rdv true a.c] fun rs outs => rs = [bR true] ∧ outs = [] := by
  refine fn_ok (E := Eneq) τ_ok mixed Tryz.func197 (by rfl) (by rfl) false (by simp [Tryz.f197]) ?_
  obtain ⟨oKind, oN, oS, oA, oB⟩ := ho
  conv => whnf
  rw [eqI_self, q0]
  conv => whnf
  rw [eqI_self, q0]
  conv => whnf
  rw [eqStr_self, q0]
  conv => whnf
  rw [eqI_self, q0]
  conv => whnf
  rw [eqI_self, q0]
  conv => whnf
  exact ⟨rfl, rfl⟩

set_option maxRecDepth 100000 in
theorem eqNodeS_ok (xs : List DNode) (hl : xs.length ≤ 9223372036854775807) (ho : ∀ y ∈ xs, y.ok) :
    FnV Tryz.prog 134 [.rdv false [.sl true 5 (xs.map DNode.c)], .rdv false [.sl true 5 (xs.map DNode.c)]] fun rs outs => rs = [bR true] ∧ outs = [] := by
  refine fn_ok (E := Eneq) τ_ok mixed Tryz.func134 (by rfl) (by rfl) false (by simp [Tryz.f134]) ?_
  conv => whnf
  rw [eqI_self, q0]
  conv => whnf
  refine ⟨fun m s => ∃ (k : Int), s = ⟨[(0, .vals false [.rd none 5 (xs.map DNode.c)]), (1, .vals false [.rd none 5 (xs.map DNode.c)]), (4, .vals false [.sc (.bool false)]), (5, .vals false [.sc (.int .i64 k)])], [], []⟩ ∧ m = xs.length - k.toNat ∧ 0 ≤ k ∧ k ≤ xs.length,
    ⟨_, _, norm_wk (keep := [0, 1, 4, 5]) (kb := []) (ρ := []) rfl, ⟨0, rfl, rfl, by omega, by omega⟩⟩, ?_⟩
  rintro m _ ⟨k, rfl, rfl, k0, k1⟩
  conv => whnf
  refine br_if (fun h => ?_) (fun h => ?_) <;> (try rw [h]) <;> (conv => whnf)
  · rw [ltI_t, List.length_map] at h
    obtain ⟨x, hx⟩ : ∃ x, xs[k.toNat]? = some x := ⟨_, List.getElem?_eq_getElem (by omega)⟩
    have hm := List.mem_of_getElem? hx
    have hg : (xs.map DNode.c)[k.toNat]? = some x.c := by
      rw [List.getElem?_map, hx]
      rfl
    refine ⟨.take 0 (.take 1 (.take 2 (.take 4 (.take 5 (.take 6 (.or 3 (.or 7 (.or 8 (.take 9 .done) .nil) .nil) (.or 7 (.or 3 (.or 8 (.take 9 .done) .nil) .nil) .nil))))))), by rfl, ?_⟩
    apply Exists.intro
    refine ⟨?_, ?_⟩
    · conv => whnf
      refine ⟨by omega, _, hg, ?_⟩
      conv => whnf
      refine ⟨by omega, _, hg, ?_⟩
      conv => whnf
      refine ⟨?_, ?_⟩
      · conv => whnf
        refine (eqNode_ok x (ho x hm)).mono ?_
        rintro _ _ ⟨rfl, rfl⟩
        conv => whnf
        exact norm_wk (keep := [0, 1, 4, 5, 26]) (kb := []) (ρ := []) rfl
      · conv => whnf
        refine (eqNode_ok x (ho x hm)).mono ?_
        rintro _ _ ⟨rfl, rfl⟩
        conv => whnf
        exact norm_wk (keep := [0, 1, 4, 5, 26]) (kb := []) (ρ := []) rfl
    conv => whnf
    rw [q0]
    conv => whnf
    rw [wrp_i64 (x := k + 1) (by omega) (by omega)]
    exact ⟨xs.length - (k + 1).toNat, _, by omega, norm_wk (keep := [0, 1, 4, 5]) (kb := []) (ρ := []) rfl, ⟨k + 1, rfl, rfl, by omega, by omega⟩⟩
  · exact ⟨rfl, rfl⟩

set_option maxRecDepth 100000 in
theorem eqPool_ok (a : DPool) (ho : a.ok) : FnV Tryz.prog 61 [.rdv true a.c, .rdv true a.c] fun rs outs => rs = [bR true] ∧ outs = [] := by
  refine fn_ok (E := Eneq) τ_ok mixed Tryz.func61 (by rfl) (by rfl) false (by simp [Tryz.f61]) ?_
  have oNodes : (a.xNodes.length ≤ 9223372036854775807 ∧ ∀ y ∈ a.xNodes, y.ok) := ho
  conv => whnf
  refine (eqNodeS_ok a.xNodes oNodes.1 oNodes.2).mono ?_
  rintro _ _ ⟨rfl, rfl⟩
  conv => whnf
  rw [q0]
  conv => whnf
  exact ⟨rfl, rfl⟩

set_option maxRecDepth 100000 in
theorem eqInstr_ok (a : DInstr) (ho : a.ok) : FnV Tryz.prog 135 [.rdv true a.c, .rdv true a.c] fun rs outs => rs = [bR true] ∧ outs = [] := by
  refine fn_ok (E := Eneq) τ_ok mixed Tryz.func135 (by rfl) (by rfl) false (by simp [Tryz.f135]) ?_
  obtain ⟨oOp, oN, oI, oS⟩ := ho
  conv => whnf
  rw [eqI_self, q0]
  conv => whnf
  rw [eqI_self, q0]
  conv => whnf
  rw [eqI_self, q0]
  conv => whnf
  rw [eqStr_self, q0]
  conv => whnf
  exact ⟨rfl, rfl⟩

set_option maxRecDepth 100000 in
theorem eqDef_ok (a : DDef) (ho : a.ok) : FnV Tryz.prog 136 [.rdv true a.c, .rdv true a.c] fun rs outs => rs = [bR true] ∧ outs = [] := by
  refine fn_ok (E := Eneq) τ_ok mixed Tryz.func136 (by rfl) (by rfl) false (by simp [Tryz.f136]) ?_
  obtain ⟨oName, oAt, oArgs⟩ := ho
  conv => whnf
  rw [eqStr_self, q0]
  conv => whnf
  rw [eqI_self, q0]
  conv => whnf
  rw [eqI_self, q0]
  conv => whnf
  exact ⟨rfl, rfl⟩

set_option maxRecDepth 100000 in
theorem eqInstrS_ok (xs : List DInstr) (hl : xs.length ≤ 9223372036854775807) (ho : ∀ y ∈ xs, y.ok) :
    FnV Tryz.prog 62 [.rdv false [.sl true 4 (xs.map DInstr.c)], .rdv false [.sl true 4 (xs.map DInstr.c)]] fun rs outs => rs = [bR true] ∧ outs = [] := by
  refine fn_ok (E := Eneq) τ_ok mixed Tryz.func62 (by rfl) (by rfl) false (by simp [Tryz.f62]) ?_
  conv => whnf
  rw [eqI_self, q0]
  conv => whnf
  refine ⟨fun m s => ∃ (k : Int), s = ⟨[(0, .vals false [.rd none 4 (xs.map DInstr.c)]), (1, .vals false [.rd none 4 (xs.map DInstr.c)]), (4, .vals false [.sc (.bool false)]), (5, .vals false [.sc (.int .i64 k)])], [], []⟩ ∧ m = xs.length - k.toNat ∧ 0 ≤ k ∧ k ≤ xs.length,
    ⟨_, _, norm_wk (keep := [0, 1, 4, 5]) (kb := []) (ρ := []) rfl, ⟨0, rfl, rfl, by omega, by omega⟩⟩, ?_⟩
  rintro m _ ⟨k, rfl, rfl, k0, k1⟩
  conv => whnf
  refine br_if (fun h => ?_) (fun h => ?_) <;> (try rw [h]) <;> (conv => whnf)
  · rw [ltI_t, List.length_map] at h
    obtain ⟨x, hx⟩ : ∃ x, xs[k.toNat]? = some x := ⟨_, List.getElem?_eq_getElem (by omega)⟩
    have hm := List.mem_of_getElem? hx
    have hg : (xs.map DInstr.c)[k.toNat]? = some x.c := by
      rw [List.getElem?_map, hx]
      rfl
    refine ⟨.take 0 (.take 1 (.take 2 (.take 4 (.take 5 (.take 6 (.or 3 (.or 7 (.or 8 (.take 9 .done) .nil) .nil) (.or 7 (.or 3 (.or 8 (.take 9 .done) .nil) .nil) .nil))))))), by rfl, ?_⟩
    apply Exists.intro
    refine ⟨?_, ?_⟩
    · conv => whnf
      refine ⟨by omega, _, hg, ?_⟩
      conv => whnf
      refine ⟨by omega, _, hg, ?_⟩
      conv => whnf
      refine ⟨?_, ?_⟩
      · conv => whnf
        refine (eqInstr_ok x (ho x hm)).mono ?_
        rintro _ _ ⟨rfl, rfl⟩
        conv => whnf
        exact norm_wk (keep := [0, 1, 4, 5, 26]) (kb := []) (ρ := []) rfl
      · conv => whnf
        refine (eqInstr_ok x (ho x hm)).mono ?_
        rintro _ _ ⟨rfl, rfl⟩
        conv => whnf
        exact norm_wk (keep := [0, 1, 4, 5, 26]) (kb := []) (ρ := []) rfl
    conv => whnf
    rw [q0]
    conv => whnf
    rw [wrp_i64 (x := k + 1) (by omega) (by omega)]
    exact ⟨xs.length - (k + 1).toNat, _, by omega, norm_wk (keep := [0, 1, 4, 5]) (kb := []) (ρ := []) rfl, ⟨k + 1, rfl, rfl, by omega, by omega⟩⟩
  · exact ⟨rfl, rfl⟩

set_option maxRecDepth 100000 in
theorem eqDefS_ok (xs : List DDef) (hl : xs.length ≤ 9223372036854775807) (ho : ∀ y ∈ xs, y.ok) :
    FnV Tryz.prog 63 [.rdv false [.sl true 3 (xs.map DDef.c)], .rdv false [.sl true 3 (xs.map DDef.c)]] fun rs outs => rs = [bR true] ∧ outs = [] := by
  refine fn_ok (E := Eneq) τ_ok mixed Tryz.func63 (by rfl) (by rfl) false (by simp [Tryz.f63]) ?_
  conv => whnf
  rw [eqI_self, q0]
  conv => whnf
  refine ⟨fun m s => ∃ (k : Int), s = ⟨[(0, .vals false [.rd none 3 (xs.map DDef.c)]), (1, .vals false [.rd none 3 (xs.map DDef.c)]), (4, .vals false [.sc (.bool false)]), (5, .vals false [.sc (.int .i64 k)])], [], []⟩ ∧ m = xs.length - k.toNat ∧ 0 ≤ k ∧ k ≤ xs.length,
    ⟨_, _, norm_wk (keep := [0, 1, 4, 5]) (kb := []) (ρ := []) rfl, ⟨0, rfl, rfl, by omega, by omega⟩⟩, ?_⟩
  rintro m _ ⟨k, rfl, rfl, k0, k1⟩
  conv => whnf
  refine br_if (fun h => ?_) (fun h => ?_) <;> (try rw [h]) <;> (conv => whnf)
  · rw [ltI_t, List.length_map] at h
    obtain ⟨x, hx⟩ : ∃ x, xs[k.toNat]? = some x := ⟨_, List.getElem?_eq_getElem (by omega)⟩
    have hm := List.mem_of_getElem? hx
    have hg : (xs.map DDef.c)[k.toNat]? = some x.c := by
      rw [List.getElem?_map, hx]
      rfl
    refine ⟨.take 0 (.take 1 (.take 2 (.take 4 (.take 5 (.take 6 (.or 3 (.or 7 (.or 8 (.take 9 .done) .nil) .nil) (.or 7 (.or 3 (.or 8 (.take 9 .done) .nil) .nil) .nil))))))), by rfl, ?_⟩
    apply Exists.intro
    refine ⟨?_, ?_⟩
    · conv => whnf
      refine ⟨by omega, _, hg, ?_⟩
      conv => whnf
      refine ⟨by omega, _, hg, ?_⟩
      conv => whnf
      refine ⟨?_, ?_⟩
      · conv => whnf
        refine (eqDef_ok x (ho x hm)).mono ?_
        rintro _ _ ⟨rfl, rfl⟩
        conv => whnf
        exact norm_wk (keep := [0, 1, 4, 5, 26]) (kb := []) (ρ := []) rfl
      · conv => whnf
        refine (eqDef_ok x (ho x hm)).mono ?_
        rintro _ _ ⟨rfl, rfl⟩
        conv => whnf
        exact norm_wk (keep := [0, 1, 4, 5, 26]) (kb := []) (ρ := []) rfl
    conv => whnf
    rw [q0]
    conv => whnf
    rw [wrp_i64 (x := k + 1) (by omega) (by omega)]
    exact ⟨xs.length - (k + 1).toNat, _, by omega, norm_wk (keep := [0, 1, 4, 5]) (kb := []) (ρ := []) rfl, ⟨k + 1, rfl, rfl, by omega, by omega⟩⟩
  · exact ⟨rfl, rfl⟩

set_option maxRecDepth 100000 in
theorem eqCode_ok (a : DCode) (ho : a.ok) : FnV Tryz.prog 14 [.rdv true a.c, .rdv true a.c] fun rs outs => rs = [bR true] ∧ outs = [] := by
  refine fn_ok (E := Eneq) τ_ok mixed Tryz.func14 (by rfl) (by rfl) false (by simp [Tryz.f14]) ?_
  obtain ⟨oPool, oList, oDefs⟩ := ho
  conv => whnf
  refine (eqPool_ok a.xPool oPool).mono ?_
  rintro _ _ ⟨rfl, rfl⟩
  conv => whnf
  rw [q0]
  conv => whnf
  refine (eqInstrS_ok a.xList oList.1 oList.2).mono ?_
  rintro _ _ ⟨rfl, rfl⟩
  conv => whnf
  rw [q0]
  conv => whnf
  refine (eqDefS_ok a.xDefs oDefs.1 oDefs.2).mono ?_
  rintro _ _ ⟨rfl, rfl⟩
  conv => whnf
  rw [q0]
  conv => whnf
  exact ⟨rfl, rfl⟩

set_option maxRecDepth 100000 in
theorem eqMachine_ok (a : DMachine) (ho : a.ok) : FnV Tryz.prog 86 [.rdv true a.c, .rdv true a.c] fun rs outs => rs = [bR true] ∧ outs = [] := by
  refine fn_ok (E := Eneq) τ_ok mixed Tryz.func86 (by rfl) (by rfl) false (by simp [Tryz.f86]) ?_
  obtain ⟨oPool, oAt, oS, oE, oD, oState, oAsk, oArg⟩ := ho
  conv => whnf
  refine (eqPool_ok a.xPool oPool).mono ?_
  rintro _ _ ⟨rfl, rfl⟩
  conv => whnf
  rw [q0]
  conv => whnf
  rw [eqI_self, q0]
  conv => whnf
  rw [eqI_self, q0]
  conv => whnf
  rw [eqI_self, q0]
  conv => whnf
  rw [eqI_self, q0]
  conv => whnf
  rw [eqI_self, q0]
  conv => whnf
  rw [eqI_self, q0]
  conv => whnf
  rw [eqI_self, q0]
  conv => whnf
  exact ⟨rfl, rfl⟩

set_option maxRecDepth 100000 in
theorem eqPiece_ok (a : DPiece) (ho : a.ok) : FnV Tryz.prog 196 [.rdv true a.c, .rdv true a.c] fun rs outs => rs = [bR true] ∧ outs = [] := by
  refine fn_ok (E := Eneq) τ_ok mixed Tryz.func196 (by rfl) (by rfl) false (by simp [Tryz.f196]) ?_
  obtain ⟨oNo, oText⟩ := ho
  conv => whnf
  rw [eqI_self, q0]
  conv => whnf
  rw [eqStr_self, q0]
  conv => whnf
  exact ⟨rfl, rfl⟩

set_option maxRecDepth 100000 in
theorem eqStringS_ok (xs : List ByteArray) (hl : xs.length ≤ 9223372036854775807) :
    FnV Tryz.prog 87 [.rdv false [.sl true 1 (ssC xs)], .rdv false [.sl true 1 (ssC xs)]] fun rs outs => rs = [bR true] ∧ outs = [] := by
  refine fn_ok (E := Eneq) τ_ok mixed Tryz.func87 (by rfl) (by rfl) false (by simp [Tryz.f87]) ?_
  conv => whnf
  rw [eqI_self, q0]
  conv => whnf
  refine ⟨fun m s => ∃ (k : Int), s = ⟨[(0, .vals false [.rd none 1 (ssC xs)]), (1, .vals false [.rd none 1 (ssC xs)]), (4, .vals false [.sc (.bool false)]), (5, .vals false [.sc (.int .i64 k)])], [], []⟩ ∧ m = xs.length - k.toNat ∧ 0 ≤ k ∧ k ≤ xs.length,
    ⟨_, _, norm_wk (keep := [0, 1, 4, 5]) (kb := []) (ρ := []) rfl, ⟨0, rfl, rfl, by omega, by omega⟩⟩, ?_⟩
  rintro m _ ⟨k, rfl, rfl, k0, k1⟩
  conv => whnf
  refine br_if (fun h => ?_) (fun h => ?_) <;> (try rw [h]) <;> (conv => whnf)
  · rw [ltI_t, List.length_map] at h
    obtain ⟨x, hx⟩ : ∃ x, xs[k.toNat]? = some x := ⟨_, List.getElem?_eq_getElem (by omega)⟩
    have hm := List.mem_of_getElem? hx
    have hg : (ssC xs)[k.toNat]? = some [.sc (.string x)] := by
      rw [List.getElem?_map, hx]
      rfl
    refine ⟨.calm 0 (.calm 1 (.calm 2 (.calm 3 (.calm 4 (.calm 5 (.calm 6 (.calm 7 (.calm 8 .done)))))))), by rfl, ?_⟩
    apply Exists.intro
    refine ⟨?_, ?_⟩
    · conv => whnf
      refine ⟨by omega, _, hg, ?_⟩
      conv => whnf
      refine ⟨by omega, _, hg, ?_⟩
      conv => whnf
      exact norm_wk (keep := [0, 1, 4, 5, 25]) (kb := []) (ρ := []) rfl
    conv => whnf
    rw [eqStr_self, q0]
    conv => whnf
    rw [wrp_i64 (x := k + 1) (by omega) (by omega)]
    exact ⟨xs.length - (k + 1).toNat, _, by omega, norm_wk (keep := [0, 1, 4, 5]) (kb := []) (ρ := []) rfl, ⟨k + 1, rfl, rfl, by omega, by omega⟩⟩
  · exact ⟨rfl, rfl⟩

set_option maxRecDepth 100000 in
theorem eqPieceS_ok (xs : List DPiece) (hl : xs.length ≤ 9223372036854775807) (ho : ∀ y ∈ xs, y.ok) :
    FnV Tryz.prog 195 [.rdv false [.sl true 2 (xs.map DPiece.c)], .rdv false [.sl true 2 (xs.map DPiece.c)]] fun rs outs => rs = [bR true] ∧ outs = [] := by
  refine fn_ok (E := Eneq) τ_ok mixed Tryz.func195 (by rfl) (by rfl) false (by simp [Tryz.f195]) ?_
  conv => whnf
  rw [eqI_self, q0]
  conv => whnf
  refine ⟨fun m s => ∃ (k : Int), s = ⟨[(0, .vals false [.rd none 2 (xs.map DPiece.c)]), (1, .vals false [.rd none 2 (xs.map DPiece.c)]), (4, .vals false [.sc (.bool false)]), (5, .vals false [.sc (.int .i64 k)])], [], []⟩ ∧ m = xs.length - k.toNat ∧ 0 ≤ k ∧ k ≤ xs.length,
    ⟨_, _, norm_wk (keep := [0, 1, 4, 5]) (kb := []) (ρ := []) rfl, ⟨0, rfl, rfl, by omega, by omega⟩⟩, ?_⟩
  rintro m _ ⟨k, rfl, rfl, k0, k1⟩
  conv => whnf
  refine br_if (fun h => ?_) (fun h => ?_) <;> (try rw [h]) <;> (conv => whnf)
  · rw [ltI_t, List.length_map] at h
    obtain ⟨x, hx⟩ : ∃ x, xs[k.toNat]? = some x := ⟨_, List.getElem?_eq_getElem (by omega)⟩
    have hm := List.mem_of_getElem? hx
    have hg : (xs.map DPiece.c)[k.toNat]? = some x.c := by
      rw [List.getElem?_map, hx]
      rfl
    refine ⟨.take 0 (.take 1 (.take 2 (.take 4 (.take 5 (.take 6 (.or 3 (.or 7 (.or 8 (.take 9 .done) .nil) .nil) (.or 7 (.or 3 (.or 8 (.take 9 .done) .nil) .nil) .nil))))))), by rfl, ?_⟩
    apply Exists.intro
    refine ⟨?_, ?_⟩
    · conv => whnf
      refine ⟨by omega, _, hg, ?_⟩
      conv => whnf
      refine ⟨by omega, _, hg, ?_⟩
      conv => whnf
      refine ⟨?_, ?_⟩
      · conv => whnf
        refine (eqPiece_ok x (ho x hm)).mono ?_
        rintro _ _ ⟨rfl, rfl⟩
        conv => whnf
        exact norm_wk (keep := [0, 1, 4, 5, 26]) (kb := []) (ρ := []) rfl
      · conv => whnf
        refine (eqPiece_ok x (ho x hm)).mono ?_
        rintro _ _ ⟨rfl, rfl⟩
        conv => whnf
        exact norm_wk (keep := [0, 1, 4, 5, 26]) (kb := []) (ρ := []) rfl
    conv => whnf
    rw [q0]
    conv => whnf
    rw [wrp_i64 (x := k + 1) (by omega) (by omega)]
    exact ⟨xs.length - (k + 1).toNat, _, by omega, norm_wk (keep := [0, 1, 4, 5]) (kb := []) (ρ := []) rfl, ⟨k + 1, rfl, rfl, by omega, by omega⟩⟩
  · exact ⟨rfl, rfl⟩

set_option maxRecDepth 100000 in
theorem eqLink_ok (a : DLink) (ho : a.ok) : FnV Tryz.prog 131 [.rdv true a.c, .rdv true a.c] fun rs outs => rs = [bR true] ∧ outs = [] := by
  refine fn_ok (E := Eneq) τ_ok mixed Tryz.func131 (by rfl) (by rfl) false (by simp [Tryz.f131]) ?_
  obtain ⟨oSent, oAcked, oQueue, oGot, oHeld⟩ := ho
  conv => whnf
  rw [eqI_self, q0]
  conv => whnf
  rw [eqI_self, q0]
  conv => whnf
  refine (eqStringS_ok a.xQueue oQueue.1).mono ?_
  rintro _ _ ⟨rfl, rfl⟩
  conv => whnf
  rw [q0]
  conv => whnf
  rw [eqI_self, q0]
  conv => whnf
  refine (eqPieceS_ok a.xHeld oHeld.1 oHeld.2).mono ?_
  rintro _ _ ⟨rfl, rfl⟩
  conv => whnf
  rw [q0]
  conv => whnf
  exact ⟨rfl, rfl⟩

set_option maxRecDepth 100000 in
theorem eqProc_ok (a : DProc) (ho : a.ok) : FnV Tryz.prog 22 [.rdv true a.c, .rdv true a.c] fun rs outs => rs = [bR true] ∧ outs = [] := by
  refine fn_ok (E := Eneq) τ_ok mixed Tryz.func22 (by rfl) (by rfl) false (by simp [Tryz.f22]) ?_
  obtain ⟨oPid, oM, oBox, oOut⟩ := ho
  conv => whnf
  rw [eqI_self, q0]
  conv => whnf
  refine (eqMachine_ok a.xM oM).mono ?_
  rintro _ _ ⟨rfl, rfl⟩
  conv => whnf
  rw [q0]
  conv => whnf
  refine (eqStringS_ok a.xBox oBox.1).mono ?_
  rintro _ _ ⟨rfl, rfl⟩
  conv => whnf
  rw [q0]
  conv => whnf
  refine (eqStringS_ok a.xOut oOut.1).mono ?_
  rintro _ _ ⟨rfl, rfl⟩
  conv => whnf
  rw [q0]
  conv => whnf
  exact ⟨rfl, rfl⟩

set_option maxRecDepth 100000 in
theorem eqHome_ok (a : DHome) (ho : a.ok) : FnV Tryz.prog 130 [.rdv true a.c, .rdv true a.c] fun rs outs => rs = [bR true] ∧ outs = [] := by
  refine fn_ok (E := Eneq) τ_ok mixed Tryz.func130 (by rfl) (by rfl) false (by simp [Tryz.f130]) ?_
  obtain ⟨oAt, oP⟩ := ho
  conv => whnf
  rw [eqI_self, q0]
  conv => whnf
  refine (eqProc_ok a.xP oP).mono ?_
  rintro _ _ ⟨rfl, rfl⟩
  conv => whnf
  rw [q0]
  conv => whnf
  exact ⟨rfl, rfl⟩

set_option maxRecDepth 100000 in
theorem eqGram_ok (a : DGram) (ho : a.ok) : FnV Tryz.prog 132 [.rdv true a.c, .rdv true a.c] fun rs outs => rs = [bR true] ∧ outs = [] := by
  refine fn_ok (E := Eneq) τ_ok mixed Tryz.func132 (by rfl) (by rfl) false (by simp [Tryz.f132]) ?_
  obtain ⟨oKind, oFrom, oTo, oP⟩ := ho
  conv => whnf
  rw [eqI_self, q0]
  conv => whnf
  rw [eqI_self, q0]
  conv => whnf
  rw [eqI_self, q0]
  conv => whnf
  refine (eqPiece_ok a.xP oP).mono ?_
  rintro _ _ ⟨rfl, rfl⟩
  conv => whnf
  rw [q0]
  conv => whnf
  exact ⟨rfl, rfl⟩

set_option maxRecDepth 100000 in
theorem eqParked_ok (a : DParked) (ho : a.ok) : FnV Tryz.prog 133 [.rdv true a.c, .rdv true a.c] fun rs outs => rs = [bR true] ∧ outs = [] := by
  refine fn_ok (E := Eneq) τ_ok mixed Tryz.func133 (by rfl) (by rfl) false (by simp [Tryz.f133]) ?_
  obtain ⟨oAt, oTo, oText⟩ := ho
  conv => whnf
  rw [eqI_self, q0]
  conv => whnf
  rw [eqI_self, q0]
  conv => whnf
  rw [eqStr_self, q0]
  conv => whnf
  exact ⟨rfl, rfl⟩

set_option maxRecDepth 100000 in
theorem eqHomeS_ok (xs : List DHome) (hl : xs.length ≤ 9223372036854775807) (ho : ∀ y ∈ xs, y.ok) :
    FnV Tryz.prog 56 [.rdv false [.sl true 12 (xs.map DHome.c)], .rdv false [.sl true 12 (xs.map DHome.c)]] fun rs outs => rs = [bR true] ∧ outs = [] := by
  refine fn_ok (E := Eneq) τ_ok mixed Tryz.func56 (by rfl) (by rfl) false (by simp [Tryz.f56]) ?_
  conv => whnf
  rw [eqI_self, q0]
  conv => whnf
  refine ⟨fun m s => ∃ (k : Int), s = ⟨[(0, .vals false [.rd none 12 (xs.map DHome.c)]), (1, .vals false [.rd none 12 (xs.map DHome.c)]), (4, .vals false [.sc (.bool false)]), (5, .vals false [.sc (.int .i64 k)])], [], []⟩ ∧ m = xs.length - k.toNat ∧ 0 ≤ k ∧ k ≤ xs.length,
    ⟨_, _, norm_wk (keep := [0, 1, 4, 5]) (kb := []) (ρ := []) rfl, ⟨0, rfl, rfl, by omega, by omega⟩⟩, ?_⟩
  rintro m _ ⟨k, rfl, rfl, k0, k1⟩
  conv => whnf
  refine br_if (fun h => ?_) (fun h => ?_) <;> (try rw [h]) <;> (conv => whnf)
  · rw [ltI_t, List.length_map] at h
    obtain ⟨x, hx⟩ : ∃ x, xs[k.toNat]? = some x := ⟨_, List.getElem?_eq_getElem (by omega)⟩
    have hm := List.mem_of_getElem? hx
    have hg : (xs.map DHome.c)[k.toNat]? = some x.c := by
      rw [List.getElem?_map, hx]
      rfl
    refine ⟨.take 0 (.take 1 (.take 2 (.take 4 (.take 5 (.take 6 (.or 3 (.or 7 (.or 8 (.take 9 .done) .nil) .nil) (.or 7 (.or 3 (.or 8 (.take 9 .done) .nil) .nil) .nil))))))), by rfl, ?_⟩
    apply Exists.intro
    refine ⟨?_, ?_⟩
    · conv => whnf
      refine ⟨by omega, _, hg, ?_⟩
      conv => whnf
      refine ⟨by omega, _, hg, ?_⟩
      conv => whnf
      refine ⟨?_, ?_⟩
      · conv => whnf
        refine (eqHome_ok x (ho x hm)).mono ?_
        rintro _ _ ⟨rfl, rfl⟩
        conv => whnf
        exact norm_wk (keep := [0, 1, 4, 5, 26]) (kb := []) (ρ := []) rfl
      · conv => whnf
        refine (eqHome_ok x (ho x hm)).mono ?_
        rintro _ _ ⟨rfl, rfl⟩
        conv => whnf
        exact norm_wk (keep := [0, 1, 4, 5, 26]) (kb := []) (ρ := []) rfl
    conv => whnf
    rw [q0]
    conv => whnf
    rw [wrp_i64 (x := k + 1) (by omega) (by omega)]
    exact ⟨xs.length - (k + 1).toNat, _, by omega, norm_wk (keep := [0, 1, 4, 5]) (kb := []) (ρ := []) rfl, ⟨k + 1, rfl, rfl, by omega, by omega⟩⟩
  · exact ⟨rfl, rfl⟩

set_option maxRecDepth 100000 in
theorem eqLinkS_ok (xs : List DLink) (hl : xs.length ≤ 9223372036854775807) (ho : ∀ y ∈ xs, y.ok) :
    FnV Tryz.prog 57 [.rdv false [.sl true 5 (xs.map DLink.c)], .rdv false [.sl true 5 (xs.map DLink.c)]] fun rs outs => rs = [bR true] ∧ outs = [] := by
  refine fn_ok (E := Eneq) τ_ok mixed Tryz.func57 (by rfl) (by rfl) false (by simp [Tryz.f57]) ?_
  conv => whnf
  rw [eqI_self, q0]
  conv => whnf
  refine ⟨fun m s => ∃ (k : Int), s = ⟨[(0, .vals false [.rd none 5 (xs.map DLink.c)]), (1, .vals false [.rd none 5 (xs.map DLink.c)]), (4, .vals false [.sc (.bool false)]), (5, .vals false [.sc (.int .i64 k)])], [], []⟩ ∧ m = xs.length - k.toNat ∧ 0 ≤ k ∧ k ≤ xs.length,
    ⟨_, _, norm_wk (keep := [0, 1, 4, 5]) (kb := []) (ρ := []) rfl, ⟨0, rfl, rfl, by omega, by omega⟩⟩, ?_⟩
  rintro m _ ⟨k, rfl, rfl, k0, k1⟩
  conv => whnf
  refine br_if (fun h => ?_) (fun h => ?_) <;> (try rw [h]) <;> (conv => whnf)
  · rw [ltI_t, List.length_map] at h
    obtain ⟨x, hx⟩ : ∃ x, xs[k.toNat]? = some x := ⟨_, List.getElem?_eq_getElem (by omega)⟩
    have hm := List.mem_of_getElem? hx
    have hg : (xs.map DLink.c)[k.toNat]? = some x.c := by
      rw [List.getElem?_map, hx]
      rfl
    refine ⟨.take 0 (.take 1 (.take 2 (.take 4 (.take 5 (.take 6 (.or 3 (.or 7 (.or 8 (.take 9 .done) .nil) .nil) (.or 7 (.or 3 (.or 8 (.take 9 .done) .nil) .nil) .nil))))))), by rfl, ?_⟩
    apply Exists.intro
    refine ⟨?_, ?_⟩
    · conv => whnf
      refine ⟨by omega, _, hg, ?_⟩
      conv => whnf
      refine ⟨by omega, _, hg, ?_⟩
      conv => whnf
      refine ⟨?_, ?_⟩
      · conv => whnf
        refine (eqLink_ok x (ho x hm)).mono ?_
        rintro _ _ ⟨rfl, rfl⟩
        conv => whnf
        exact norm_wk (keep := [0, 1, 4, 5, 26]) (kb := []) (ρ := []) rfl
      · conv => whnf
        refine (eqLink_ok x (ho x hm)).mono ?_
        rintro _ _ ⟨rfl, rfl⟩
        conv => whnf
        exact norm_wk (keep := [0, 1, 4, 5, 26]) (kb := []) (ρ := []) rfl
    conv => whnf
    rw [q0]
    conv => whnf
    rw [wrp_i64 (x := k + 1) (by omega) (by omega)]
    exact ⟨xs.length - (k + 1).toNat, _, by omega, norm_wk (keep := [0, 1, 4, 5]) (kb := []) (ρ := []) rfl, ⟨k + 1, rfl, rfl, by omega, by omega⟩⟩
  · exact ⟨rfl, rfl⟩

set_option maxRecDepth 100000 in
theorem eqGramS_ok (xs : List DGram) (hl : xs.length ≤ 9223372036854775807) (ho : ∀ y ∈ xs, y.ok) :
    FnV Tryz.prog 58 [.rdv false [.sl true 5 (xs.map DGram.c)], .rdv false [.sl true 5 (xs.map DGram.c)]] fun rs outs => rs = [bR true] ∧ outs = [] := by
  refine fn_ok (E := Eneq) τ_ok mixed Tryz.func58 (by rfl) (by rfl) false (by simp [Tryz.f58]) ?_
  conv => whnf
  rw [eqI_self, q0]
  conv => whnf
  refine ⟨fun m s => ∃ (k : Int), s = ⟨[(0, .vals false [.rd none 5 (xs.map DGram.c)]), (1, .vals false [.rd none 5 (xs.map DGram.c)]), (4, .vals false [.sc (.bool false)]), (5, .vals false [.sc (.int .i64 k)])], [], []⟩ ∧ m = xs.length - k.toNat ∧ 0 ≤ k ∧ k ≤ xs.length,
    ⟨_, _, norm_wk (keep := [0, 1, 4, 5]) (kb := []) (ρ := []) rfl, ⟨0, rfl, rfl, by omega, by omega⟩⟩, ?_⟩
  rintro m _ ⟨k, rfl, rfl, k0, k1⟩
  conv => whnf
  refine br_if (fun h => ?_) (fun h => ?_) <;> (try rw [h]) <;> (conv => whnf)
  · rw [ltI_t, List.length_map] at h
    obtain ⟨x, hx⟩ : ∃ x, xs[k.toNat]? = some x := ⟨_, List.getElem?_eq_getElem (by omega)⟩
    have hm := List.mem_of_getElem? hx
    have hg : (xs.map DGram.c)[k.toNat]? = some x.c := by
      rw [List.getElem?_map, hx]
      rfl
    refine ⟨.take 0 (.take 1 (.take 2 (.take 4 (.take 5 (.take 6 (.or 3 (.or 7 (.or 8 (.take 9 .done) .nil) .nil) (.or 7 (.or 3 (.or 8 (.take 9 .done) .nil) .nil) .nil))))))), by rfl, ?_⟩
    apply Exists.intro
    refine ⟨?_, ?_⟩
    · conv => whnf
      refine ⟨by omega, _, hg, ?_⟩
      conv => whnf
      refine ⟨by omega, _, hg, ?_⟩
      conv => whnf
      refine ⟨?_, ?_⟩
      · conv => whnf
        refine (eqGram_ok x (ho x hm)).mono ?_
        rintro _ _ ⟨rfl, rfl⟩
        conv => whnf
        exact norm_wk (keep := [0, 1, 4, 5, 26]) (kb := []) (ρ := []) rfl
      · conv => whnf
        refine (eqGram_ok x (ho x hm)).mono ?_
        rintro _ _ ⟨rfl, rfl⟩
        conv => whnf
        exact norm_wk (keep := [0, 1, 4, 5, 26]) (kb := []) (ρ := []) rfl
    conv => whnf
    rw [q0]
    conv => whnf
    rw [wrp_i64 (x := k + 1) (by omega) (by omega)]
    exact ⟨xs.length - (k + 1).toNat, _, by omega, norm_wk (keep := [0, 1, 4, 5]) (kb := []) (ρ := []) rfl, ⟨k + 1, rfl, rfl, by omega, by omega⟩⟩
  · exact ⟨rfl, rfl⟩

set_option maxRecDepth 100000 in
theorem eqParkedS_ok (xs : List DParked) (hl : xs.length ≤ 9223372036854775807) (ho : ∀ y ∈ xs, y.ok) :
    FnV Tryz.prog 59 [.rdv false [.sl true 3 (xs.map DParked.c)], .rdv false [.sl true 3 (xs.map DParked.c)]] fun rs outs => rs = [bR true] ∧ outs = [] := by
  refine fn_ok (E := Eneq) τ_ok mixed Tryz.func59 (by rfl) (by rfl) false (by simp [Tryz.f59]) ?_
  conv => whnf
  rw [eqI_self, q0]
  conv => whnf
  refine ⟨fun m s => ∃ (k : Int), s = ⟨[(0, .vals false [.rd none 3 (xs.map DParked.c)]), (1, .vals false [.rd none 3 (xs.map DParked.c)]), (4, .vals false [.sc (.bool false)]), (5, .vals false [.sc (.int .i64 k)])], [], []⟩ ∧ m = xs.length - k.toNat ∧ 0 ≤ k ∧ k ≤ xs.length,
    ⟨_, _, norm_wk (keep := [0, 1, 4, 5]) (kb := []) (ρ := []) rfl, ⟨0, rfl, rfl, by omega, by omega⟩⟩, ?_⟩
  rintro m _ ⟨k, rfl, rfl, k0, k1⟩
  conv => whnf
  refine br_if (fun h => ?_) (fun h => ?_) <;> (try rw [h]) <;> (conv => whnf)
  · rw [ltI_t, List.length_map] at h
    obtain ⟨x, hx⟩ : ∃ x, xs[k.toNat]? = some x := ⟨_, List.getElem?_eq_getElem (by omega)⟩
    have hm := List.mem_of_getElem? hx
    have hg : (xs.map DParked.c)[k.toNat]? = some x.c := by
      rw [List.getElem?_map, hx]
      rfl
    refine ⟨.take 0 (.take 1 (.take 2 (.take 4 (.take 5 (.take 6 (.or 3 (.or 7 (.or 8 (.take 9 .done) .nil) .nil) (.or 7 (.or 3 (.or 8 (.take 9 .done) .nil) .nil) .nil))))))), by rfl, ?_⟩
    apply Exists.intro
    refine ⟨?_, ?_⟩
    · conv => whnf
      refine ⟨by omega, _, hg, ?_⟩
      conv => whnf
      refine ⟨by omega, _, hg, ?_⟩
      conv => whnf
      refine ⟨?_, ?_⟩
      · conv => whnf
        refine (eqParked_ok x (ho x hm)).mono ?_
        rintro _ _ ⟨rfl, rfl⟩
        conv => whnf
        exact norm_wk (keep := [0, 1, 4, 5, 26]) (kb := []) (ρ := []) rfl
      · conv => whnf
        refine (eqParked_ok x (ho x hm)).mono ?_
        rintro _ _ ⟨rfl, rfl⟩
        conv => whnf
        exact norm_wk (keep := [0, 1, 4, 5, 26]) (kb := []) (ρ := []) rfl
    conv => whnf
    rw [q0]
    conv => whnf
    rw [wrp_i64 (x := k + 1) (by omega) (by omega)]
    exact ⟨xs.length - (k + 1).toNat, _, by omega, norm_wk (keep := [0, 1, 4, 5]) (kb := []) (ρ := []) rfl, ⟨k + 1, rfl, rfl, by omega, by omega⟩⟩
  · exact ⟨rfl, rfl⟩

set_option maxRecDepth 100000 in
theorem eqStringSS_ok (xs : List (List ByteArray)) (hl : xs.length ≤ 9223372036854775807) (ho : ∀ l ∈ xs, l.length ≤ 9223372036854775807 ∧ ∀ y ∈ l, y.size ≤ 9223372036854775807) :
    FnV Tryz.prog 60 [.rdv false [.sl true 1 (sssC xs)], .rdv false [.sl true 1 (sssC xs)]] fun rs outs => rs = [bR true] ∧ outs = [] := by
  refine fn_ok (E := Eneq) τ_ok mixed Tryz.func60 (by rfl) (by rfl) false (by simp [Tryz.f60]) ?_
  conv => whnf
  rw [eqI_self, q0]
  conv => whnf
  refine ⟨fun m s => ∃ (k : Int), s = ⟨[(0, .vals false [.rd none 1 (sssC xs)]), (1, .vals false [.rd none 1 (sssC xs)]), (4, .vals false [.sc (.bool false)]), (5, .vals false [.sc (.int .i64 k)])], [], []⟩ ∧ m = xs.length - k.toNat ∧ 0 ≤ k ∧ k ≤ xs.length,
    ⟨_, _, norm_wk (keep := [0, 1, 4, 5]) (kb := []) (ρ := []) rfl, ⟨0, rfl, rfl, by omega, by omega⟩⟩, ?_⟩
  rintro m _ ⟨k, rfl, rfl, k0, k1⟩
  conv => whnf
  refine br_if (fun h => ?_) (fun h => ?_) <;> (try rw [h]) <;> (conv => whnf)
  · rw [ltI_t, List.length_map] at h
    obtain ⟨x, hx⟩ : ∃ x, xs[k.toNat]? = some x := ⟨_, List.getElem?_eq_getElem (by omega)⟩
    have hm := List.mem_of_getElem? hx
    have hg : (sssC xs)[k.toNat]? = some [.sl true 1 (ssC x)] := by
      rw [List.getElem?_map, hx]
      rfl
    refine ⟨.take 0 (.take 1 (.take 2 (.take 4 (.take 5 (.take 6 (.or 3 (.or 7 (.or 8 (.take 9 .done) .nil) .nil) (.or 7 (.or 3 (.or 8 (.take 9 .done) .nil) .nil) .nil))))))), by rfl, ?_⟩
    apply Exists.intro
    refine ⟨?_, ?_⟩
    · conv => whnf
      refine ⟨by omega, _, hg, ?_⟩
      conv => whnf
      refine ⟨by omega, _, hg, ?_⟩
      conv => whnf
      refine ⟨?_, ?_⟩
      · conv => whnf
        refine (eqStringS_ok x (ho x hm).1).mono ?_
        rintro _ _ ⟨rfl, rfl⟩
        conv => whnf
        exact norm_wk (keep := [0, 1, 4, 5, 26]) (kb := []) (ρ := []) rfl
      · conv => whnf
        refine (eqStringS_ok x (ho x hm).1).mono ?_
        rintro _ _ ⟨rfl, rfl⟩
        conv => whnf
        exact norm_wk (keep := [0, 1, 4, 5, 26]) (kb := []) (ρ := []) rfl
    conv => whnf
    rw [q0]
    conv => whnf
    rw [wrp_i64 (x := k + 1) (by omega) (by omega)]
    exact ⟨xs.length - (k + 1).toNat, _, by omega, norm_wk (keep := [0, 1, 4, 5]) (kb := []) (ρ := []) rfl, ⟨k + 1, rfl, rfl, by omega, by omega⟩⟩
  · exact ⟨rfl, rfl⟩

set_option maxRecDepth 100000 in
theorem eqWorld_ok (a : DWorld) (ho : a.ok) : FnV Tryz.prog 13 [.rdv true a.c, .rdv true a.c] fun rs outs => rs = [bR true] ∧ outs = [] := by
  refine fn_ok (E := Eneq) τ_ok mixed Tryz.func13 (by rfl) (by rfl) false (by simp [Tryz.f13]) ?_
  obtain ⟨oCode, oPlaces, oHomes, oLinks, oGrams, oParked, oNext, oGave, oTook⟩ := ho
  conv => whnf
  refine (eqCode_ok a.xCode oCode).mono ?_
  rintro _ _ ⟨rfl, rfl⟩
  conv => whnf
  rw [q0]
  conv => whnf
  rw [eqI_self, q0]
  conv => whnf
  refine (eqHomeS_ok a.xHomes oHomes.1 oHomes.2).mono ?_
  rintro _ _ ⟨rfl, rfl⟩
  conv => whnf
  rw [q0]
  conv => whnf
  refine (eqLinkS_ok a.xLinks oLinks.1 oLinks.2).mono ?_
  rintro _ _ ⟨rfl, rfl⟩
  conv => whnf
  rw [q0]
  conv => whnf
  refine (eqGramS_ok a.xGrams oGrams.1 oGrams.2).mono ?_
  rintro _ _ ⟨rfl, rfl⟩
  conv => whnf
  rw [q0]
  conv => whnf
  refine (eqParkedS_ok a.xParked oParked.1 oParked.2).mono ?_
  rintro _ _ ⟨rfl, rfl⟩
  conv => whnf
  rw [q0]
  conv => whnf
  rw [eqI_self, q0]
  conv => whnf
  refine (eqStringSS_ok a.xGave oGave.1 oGave.2).mono ?_
  rintro _ _ ⟨rfl, rfl⟩
  conv => whnf
  rw [q0]
  conv => whnf
  refine (eqStringSS_ok a.xTook oTook.1 oTook.2).mono ?_
  rintro _ _ ⟨rfl, rfl⟩
  conv => whnf
  rw [q0]
  conv => whnf
  exact ⟨rfl, rfl⟩

end Go.Proofs.YtifodjnbcnbcpaaGreat.V

set_option linter.unusedVariables false

set_option linter.unusedSimpArgs false

namespace Go.Proofs.YtifodjnbcnbcpaaGreat.V

open Go

theorem maxLen_le {n : Nat} (h : n ≤ maxLen) : n ≤ 9223372036854775807 := Nat.le_trans h (by decide)

theorem tyl_of : ∀ {row : List Sh} {r : List C}, r.length = row.length → (∀ (j : Nat) (sh : Sh) (c : C), row[j]? = some sh → r[j]? = some c → Ty sh c) → TyL row r
  | [], [], _, _ => trivial
  | _ :: _, c :: r, hl, h => ⟨h 0 _ c rfl rfl, tyl_of (by simpa using hl) fun j sh c hj hc => h (j + 1) sh c hj hc⟩
  | [], _ :: _, hl, _ => by simp at hl
  | _ :: _, [], hl, _ => by simp at hl

theorem ty_list {α : Type} (f : α → List C) (okp : α → Prop) {row : List Sh} (h : ∀ r, TyL row r → ∃ a, r = f a ∧ okp a) {c : C} (hc : Ty (.sl row) c) : ∃ xs : List α, c = .sl true row.length (xs.map f) ∧ xs.length ≤ 9223372036854775807 ∧ ∀ x ∈ xs, okp x := by
  cases hc with
  | sl _ es hl hr ht =>
    have key : ∀ es : List (List C), (∀ r ∈ es, r.length = row.length) → (∀ r ∈ es, ∀ (j : Nat) (sh : Sh) (c : C), row[j]? = some sh → r[j]? = some c → Ty sh c) → ∃ xs : List α, es = xs.map f ∧ ∀ x ∈ xs, okp x := by
      intro es
      induction es with
      | nil => exact fun _ _ => ⟨[], rfl, fun z hz => (by cases hz)⟩
      | cons r rs ih =>
        intro h1 h2
        obtain ⟨xs, e, hx⟩ := ih (fun y hy => h1 y (List.mem_cons_of_mem _ hy)) (fun y hy => h2 y (List.mem_cons_of_mem _ hy))
        obtain ⟨a, ea, ha⟩ := h r (tyl_of (h1 r (List.mem_cons_self ..)) (h2 r (List.mem_cons_self ..)))
        refine ⟨a :: xs, by rw [e, ea]; rfl, fun z hz => ?_⟩
        cases hz with
        | head => exact ha
        | tail _ hz => exact hx z hz
    obtain ⟨xs, e, hx⟩ := key es hr ht
    subst e
    refine ⟨xs, rfl, ?_, hx⟩
    rw [List.length_map] at hl
    exact maxLen_le hl

@[reducible] def rowNode : List Sh := [.int .i64, .int .i64, .str, .int .i64, .int .i64]

theorem ty_Node {Cs : List C} (h : TyL rowNode Cs) : ∃ a : DNode, Cs = a.c ∧ a.ok := by
  match Cs, h with
  | [c0, c1, c2, c3, c4], ⟨h0, h1, h2, h3, h4, _⟩ =>
    obtain ⟨n0, rfl, w0⟩ : ∃ n : Int, c0 = .sc (.int .i64 n) ∧ (-9223372036854775808 ≤ n ∧ n ≤ 9223372036854775807) := by
      cases h0 with
      | int _ n hn => exact ⟨n, rfl, wf_i64 hn⟩
    obtain ⟨n1, rfl, w1⟩ : ∃ n : Int, c1 = .sc (.int .i64 n) ∧ (-9223372036854775808 ≤ n ∧ n ≤ 9223372036854775807) := by
      cases h1 with
      | int _ n hn => exact ⟨n, rfl, wf_i64 hn⟩
    obtain ⟨n2, rfl, w2⟩ : ∃ s : ByteArray, c2 = .sc (.string s) ∧ s.size ≤ 9223372036854775807 := by
      cases h2 with
      | str s hs => exact ⟨s, rfl, maxLen_le hs⟩
    obtain ⟨n3, rfl, w3⟩ : ∃ n : Int, c3 = .sc (.int .i64 n) ∧ (-9223372036854775808 ≤ n ∧ n ≤ 9223372036854775807) := by
      cases h3 with
      | int _ n hn => exact ⟨n, rfl, wf_i64 hn⟩
    obtain ⟨n4, rfl, w4⟩ : ∃ n : Int, c4 = .sc (.int .i64 n) ∧ (-9223372036854775808 ≤ n ∧ n ≤ 9223372036854775807) := by
      cases h4 with
      | int _ n hn => exact ⟨n, rfl, wf_i64 hn⟩
    exact ⟨⟨n0, n1, n2, n3, n4⟩, rfl, ⟨w0, w1, w2, w3, w4⟩⟩

@[reducible] def rowInstr : List Sh := [.int .i64, .int .i64, .int .i64, .str]

theorem ty_Instr {Cs : List C} (h : TyL rowInstr Cs) : ∃ a : DInstr, Cs = a.c ∧ a.ok := by
  match Cs, h with
  | [c0, c1, c2, c3], ⟨h0, h1, h2, h3, _⟩ =>
    obtain ⟨n0, rfl, w0⟩ : ∃ n : Int, c0 = .sc (.int .i64 n) ∧ (-9223372036854775808 ≤ n ∧ n ≤ 9223372036854775807) := by
      cases h0 with
      | int _ n hn => exact ⟨n, rfl, wf_i64 hn⟩
    obtain ⟨n1, rfl, w1⟩ : ∃ n : Int, c1 = .sc (.int .i64 n) ∧ (-9223372036854775808 ≤ n ∧ n ≤ 9223372036854775807) := by
      cases h1 with
      | int _ n hn => exact ⟨n, rfl, wf_i64 hn⟩
    obtain ⟨n2, rfl, w2⟩ : ∃ n : Int, c2 = .sc (.int .i64 n) ∧ (-9223372036854775808 ≤ n ∧ n ≤ 9223372036854775807) := by
      cases h2 with
      | int _ n hn => exact ⟨n, rfl, wf_i64 hn⟩
    obtain ⟨n3, rfl, w3⟩ : ∃ s : ByteArray, c3 = .sc (.string s) ∧ s.size ≤ 9223372036854775807 := by
      cases h3 with
      | str s hs => exact ⟨s, rfl, maxLen_le hs⟩
    exact ⟨⟨n0, n1, n2, n3⟩, rfl, ⟨w0, w1, w2, w3⟩⟩

@[reducible] def rowDef : List Sh := [.str, .int .i64, .int .i64]

theorem ty_Def {Cs : List C} (h : TyL rowDef Cs) : ∃ a : DDef, Cs = a.c ∧ a.ok := by
  match Cs, h with
  | [c0, c1, c2], ⟨h0, h1, h2, _⟩ =>
    obtain ⟨n0, rfl, w0⟩ : ∃ s : ByteArray, c0 = .sc (.string s) ∧ s.size ≤ 9223372036854775807 := by
      cases h0 with
      | str s hs => exact ⟨s, rfl, maxLen_le hs⟩
    obtain ⟨n1, rfl, w1⟩ : ∃ n : Int, c1 = .sc (.int .i64 n) ∧ (-9223372036854775808 ≤ n ∧ n ≤ 9223372036854775807) := by
      cases h1 with
      | int _ n hn => exact ⟨n, rfl, wf_i64 hn⟩
    obtain ⟨n2, rfl, w2⟩ : ∃ n : Int, c2 = .sc (.int .i64 n) ∧ (-9223372036854775808 ≤ n ∧ n ≤ 9223372036854775807) := by
      cases h2 with
      | int _ n hn => exact ⟨n, rfl, wf_i64 hn⟩
    exact ⟨⟨n0, n1, n2⟩, rfl, ⟨w0, w1, w2⟩⟩

@[reducible] def rowCode : List Sh := [.sl rowNode, .sl rowInstr, .sl rowDef]

theorem ty_Code {Cs : List C} (h : TyL rowCode Cs) : ∃ a : DCode, Cs = a.c ∧ a.ok := by
  match Cs, h with
  | [c0, c1, c2], ⟨h0, h1, h2, _⟩ =>
    obtain ⟨n0, rfl, w0⟩ := ty_list DNode.c DNode.ok (fun r h => ty_Node h) h0
    obtain ⟨n1, rfl, w1⟩ := ty_list DInstr.c DInstr.ok (fun r h => ty_Instr h) h1
    obtain ⟨n2, rfl, w2⟩ := ty_list DDef.c DDef.ok (fun r h => ty_Def h) h2
    exact ⟨⟨⟨n0⟩, n1, n2⟩, rfl, ⟨w0, w1, w2⟩⟩

end Go.Proofs.YtifodjnbcnbcpaaGreat.V

set_option linter.unusedVariables false

set_option linter.unusedSimpArgs false

namespace Go.Proofs.YtifodjnbcnbcpaaGreat.V

open Go

def dg (n : Nat) : List Int := if n = 0 then [] else dg (n / 10) ++ [((48 + n % 10 : Nat) : Int)]
  termination_by n
  decreasing_by omega

def mkT (k : Int) : ByteArray := if k ≤ 0 then strOfNums [109, 48] else strOfNums (109 :: dg k.toNat)

def mkL {α : Type} (f : α → Int → α) (n : α → Int) : List α → Int → List α
  | [], _ => []
  | x :: r, k => f x k :: mkL f n r (k + n x)

theorem mkL_len {α : Type} (f : α → Int → α) (n : α → Int) : ∀ (l : List α) (k : Int), (mkL f n l k).length = l.length
  | [], _ => rfl
  | x :: r, k => by simp only [mkL, List.length_cons, mkL_len f n r]

theorem mkL_app {α : Type} (f : α → Int → α) (n : α → Int) : ∀ (l r : List α) (k : Int), mkL f n (l ++ r) k = mkL f n l k ++ mkL f n r (k + szL n l)
  | [], r, k => by simp [mkL, szL]
  | x :: l, r, k => by simp only [List.cons_append, mkL, mkL_app f n l r, szL, List.cons.injEq, true_and]; rw [Int.add_assoc]

theorem mkL_succ {α : Type} (f : α → Int → α) (n : α → Int) {l : List α} {i : Nat} {x : α} (h : l[i]? = some x) (k : Int) : mkL f n (l.take (i + 1)) k = mkL f n (l.take i) k ++ [f x (k + szL n (l.take i))] := by
  rw [List.take_add_one, h, mkL_app]
  rfl

theorem mkL_at {α : Type} (f : α → Int → α) (n : α → Int) {l : List α} {i : Nat} {x : α} (h : l[i]? = some x) (k : Int) : (mkL f n l k)[i]? = some (f x (k + szL n (l.take i))) := by
  have h2 : mkL f n l k = mkL f n (l.take (i + 1)) k ++ mkL f n (l.drop (i + 1)) (k + szL n (l.take (i + 1))) := by rw [← mkL_app, List.take_append_drop]
  have h1 : (mkL f n (l.take i) k).length = i := by rw [mkL_len, List.length_take]; have := (List.getElem?_eq_some_iff.1 h).1; omega
  rw [h2, mkL_succ f n h, List.append_assoc, List.getElem?_append_right (by omega), h1, Nat.sub_self]
  rfl

def mkTo {α : Type} (f : α → Int → α) (n : α → Int) (l : List α) (k : Int) (i : Nat) : List α := mkL f n (l.take i) k ++ l.drop i

theorem mkTo_zero {α : Type} (f : α → Int → α) (n : α → Int) (l : List α) (k : Int) : mkTo f n l k 0 = l := by simp [mkTo, mkL]

theorem mkTo_all {α : Type} (f : α → Int → α) (n : α → Int) (l : List α) (k : Int) {i : Nat} (h : l.length ≤ i) : mkTo f n l k i = mkL f n l k := by
  rw [mkTo, List.take_of_length_le h, List.drop_eq_nil_of_le h, List.append_nil]

theorem mkTo_len {α : Type} (f : α → Int → α) (n : α → Int) (l : List α) (k : Int) (i : Nat) : (mkTo f n l k i).length = l.length := by
  rw [mkTo, List.length_append, mkL_len, List.length_take, List.length_drop]
  omega

theorem mkTo_at {α : Type} (f : α → Int → α) (n : α → Int) {l : List α} {i : Nat} {x : α} (h : l[i]? = some x) (k : Int) : (mkTo f n l k i)[i]? = some x := by
  have hi := (List.getElem?_eq_some_iff.1 h).1
  have h1 : (mkL f n (l.take i) k).length = i := by rw [mkL_len, List.length_take]; omega
  rw [mkTo, List.getElem?_append_right (by omega), h1, Nat.sub_self, List.getElem?_drop, Nat.add_zero]
  exact h

theorem mkTo_set {α : Type} (f : α → Int → α) (n : α → Int) {l : List α} {i : Nat} {x : α} (h : l[i]? = some x) (k : Int) : (mkTo f n l k i).set i (f x (k + szL n (l.take i))) = mkTo f n l k (i + 1) := by
  have hi := (List.getElem?_eq_some_iff.1 h).1
  have h1 : (mkL f n (l.take i) k).length = i := by rw [mkL_len, List.length_take]; omega
  rw [mkTo, mkTo, List.set_append_right _ _ (by omega), h1, Nat.sub_self, mkL_succ f n h, List.drop_eq_getElem_cons hi, List.set_cons_zero, List.append_assoc]
  rfl

theorem szL_one {α : Type} (l : List α) : szL (fun _ => (1 : Int)) l = l.length := by
  induction l with
  | nil => rfl
  | cons x r ih => simp only [szL, ih, List.length_cons]; omega

def mkS (l : List ByteArray) (k : Int) : List ByteArray := mkL (fun _ k => mkT k) (fun _ => 1) l k

def mzS (l : List ByteArray) : Int := szL (fun _ => 1) l

theorem mzS_nonneg (l : List ByteArray) : 0 ≤ mzS l := by unfold mzS; rw [szL_one]; omega

def DNode.me (a : DNode) (k : Int) : DNode := ⟨(k), (k + 1), mkT (k + 2), (k + 3), (k + 4)⟩

def DNode.mz (a : DNode) : Int := 5

theorem DNode.mz_nonneg (a : DNode) : 0 ≤ a.mz := by
  unfold DNode.mz
  omega

def DInstr.me (a : DInstr) (k : Int) : DInstr := ⟨(k), (k + 1), (k + 2), mkT (k + 3)⟩

def DInstr.mz (a : DInstr) : Int := 4

theorem DInstr.mz_nonneg (a : DInstr) : 0 ≤ a.mz := by
  unfold DInstr.mz
  omega

def DDef.me (a : DDef) (k : Int) : DDef := ⟨mkT (k), (k + 1), (k + 2)⟩

def DDef.mz (a : DDef) : Int := 3

theorem DDef.mz_nonneg (a : DDef) : 0 ≤ a.mz := by
  unfold DDef.mz
  omega

def DPiece.me (a : DPiece) (k : Int) : DPiece := ⟨(k), mkT (k + 1)⟩

def DPiece.mz (a : DPiece) : Int := 2

theorem DPiece.mz_nonneg (a : DPiece) : 0 ≤ a.mz := by
  unfold DPiece.mz
  omega

def DLink.me (a : DLink) (k : Int) : DLink := ⟨(k), (k + 1), mkS a.xQueue (k + 2), (k + 2 + mzS a.xQueue), mkL DPiece.me DPiece.mz a.xHeld (k + 3 + mzS a.xQueue)⟩

def DLink.mz (a : DLink) : Int := 3 + mzS a.xQueue + szL DPiece.mz a.xHeld

theorem DLink.mz_nonneg (a : DLink) : 0 ≤ a.mz := by
  have := mzS_nonneg a.xQueue
  have := szL_nonneg DPiece.mz_nonneg a.xHeld
  unfold DLink.mz
  omega

def DHome.me (a : DHome) (k : Int) : DHome := ⟨(k), ⟨(k + 1), ⟨⟨mkL DNode.me DNode.mz a.xP.xM.xPool.xNodes (k + 2)⟩, (k + 2 + szL DNode.mz a.xP.xM.xPool.xNodes), (k + 3 + szL DNode.mz a.xP.xM.xPool.xNodes), (k + 4 + szL DNode.mz a.xP.xM.xPool.xNodes), (k + 5 + szL DNode.mz a.xP.xM.xPool.xNodes), (k + 6 + szL DNode.mz a.xP.xM.xPool.xNodes), (k + 7 + szL DNode.mz a.xP.xM.xPool.xNodes), (k + 8 + szL DNode.mz a.xP.xM.xPool.xNodes)⟩, mkS a.xP.xBox (k + 9 + szL DNode.mz a.xP.xM.xPool.xNodes), mkS a.xP.xOut (k + 9 + szL DNode.mz a.xP.xM.xPool.xNodes + mzS a.xP.xBox)⟩⟩

def DHome.mz (a : DHome) : Int := 9 + szL DNode.mz a.xP.xM.xPool.xNodes + mzS a.xP.xBox + mzS a.xP.xOut

theorem DHome.mz_nonneg (a : DHome) : 0 ≤ a.mz := by
  have := szL_nonneg DNode.mz_nonneg a.xP.xM.xPool.xNodes
  have := mzS_nonneg a.xP.xBox
  have := mzS_nonneg a.xP.xOut
  unfold DHome.mz
  omega

def DGram.me (a : DGram) (k : Int) : DGram := ⟨(k), (k + 1), (k + 2), ⟨(k + 3), mkT (k + 4)⟩⟩

def DGram.mz (a : DGram) : Int := 5

theorem DGram.mz_nonneg (a : DGram) : 0 ≤ a.mz := by
  unfold DGram.mz
  omega

def DParked.me (a : DParked) (k : Int) : DParked := ⟨(k), (k + 1), mkT (k + 2)⟩

def DParked.mz (a : DParked) : Int := 3

theorem DParked.mz_nonneg (a : DParked) : 0 ≤ a.mz := by
  unfold DParked.mz
  omega

def DPool.mw (a : DPool) (k : Int) : DPool := ⟨mkL DNode.me DNode.mz a.xNodes (k)⟩

def DPool.wz (a : DPool) : Int := szL DNode.mz a.xNodes

theorem DPool.wz_nonneg (a : DPool) : 0 ≤ a.wz := by
  have := szL_nonneg DNode.mz_nonneg a.xNodes
  unfold DPool.wz
  omega

def DMachine.mw (a : DMachine) (k : Int) : DMachine := ⟨⟨mkL DNode.me DNode.mz a.xPool.xNodes (k)⟩, a.xAt, a.xS, a.xE, a.xD, a.xState, a.xAsk, a.xArg⟩

def DMachine.wz (a : DMachine) : Int := szL DNode.mz a.xPool.xNodes

theorem DMachine.wz_nonneg (a : DMachine) : 0 ≤ a.wz := by
  have := szL_nonneg DNode.mz_nonneg a.xPool.xNodes
  unfold DMachine.wz
  omega

def DProc.mw (a : DProc) (k : Int) : DProc := ⟨a.xPid, ⟨⟨mkL DNode.me DNode.mz a.xM.xPool.xNodes (k)⟩, a.xM.xAt, a.xM.xS, a.xM.xE, a.xM.xD, a.xM.xState, a.xM.xAsk, a.xM.xArg⟩, mkS a.xBox (k + szL DNode.mz a.xM.xPool.xNodes), mkS a.xOut (k + szL DNode.mz a.xM.xPool.xNodes + mzS a.xBox)⟩

def DProc.wz (a : DProc) : Int := szL DNode.mz a.xM.xPool.xNodes + mzS a.xBox + mzS a.xOut

theorem DProc.wz_nonneg (a : DProc) : 0 ≤ a.wz := by
  have := szL_nonneg DNode.mz_nonneg a.xM.xPool.xNodes
  have := mzS_nonneg a.xBox
  have := mzS_nonneg a.xOut
  unfold DProc.wz
  omega

def DCode.mw (a : DCode) (k : Int) : DCode := ⟨⟨mkL DNode.me DNode.mz a.xPool.xNodes (k)⟩, mkL DInstr.me DInstr.mz a.xList (k + szL DNode.mz a.xPool.xNodes), mkL DDef.me DDef.mz a.xDefs (k + szL DNode.mz a.xPool.xNodes + szL DInstr.mz a.xList)⟩

def DCode.wz (a : DCode) : Int := szL DNode.mz a.xPool.xNodes + szL DInstr.mz a.xList + szL DDef.mz a.xDefs

theorem DCode.wz_nonneg (a : DCode) : 0 ≤ a.wz := by
  have := szL_nonneg DNode.mz_nonneg a.xPool.xNodes
  have := szL_nonneg DInstr.mz_nonneg a.xList
  have := szL_nonneg DDef.mz_nonneg a.xDefs
  unfold DCode.wz
  omega

def DWorld.mw (a : DWorld) (k : Int) : DWorld := ⟨⟨⟨mkL DNode.me DNode.mz a.xCode.xPool.xNodes (k)⟩, mkL DInstr.me DInstr.mz a.xCode.xList (k + szL DNode.mz a.xCode.xPool.xNodes), mkL DDef.me DDef.mz a.xCode.xDefs (k + szL DNode.mz a.xCode.xPool.xNodes + szL DInstr.mz a.xCode.xList)⟩, a.xPlaces, mkL DHome.me DHome.mz a.xHomes (k + szL DNode.mz a.xCode.xPool.xNodes + szL DInstr.mz a.xCode.xList + szL DDef.mz a.xCode.xDefs), mkL DLink.me DLink.mz a.xLinks (k + szL DNode.mz a.xCode.xPool.xNodes + szL DInstr.mz a.xCode.xList + szL DDef.mz a.xCode.xDefs + szL DHome.mz a.xHomes), mkL DGram.me DGram.mz a.xGrams (k + szL DNode.mz a.xCode.xPool.xNodes + szL DInstr.mz a.xCode.xList + szL DDef.mz a.xCode.xDefs + szL DHome.mz a.xHomes + szL DLink.mz a.xLinks), mkL DParked.me DParked.mz a.xParked (k + szL DNode.mz a.xCode.xPool.xNodes + szL DInstr.mz a.xCode.xList + szL DDef.mz a.xCode.xDefs + szL DHome.mz a.xHomes + szL DLink.mz a.xLinks + szL DGram.mz a.xGrams), a.xNext, mkL mkS mzS a.xGave (k + szL DNode.mz a.xCode.xPool.xNodes + szL DInstr.mz a.xCode.xList + szL DDef.mz a.xCode.xDefs + szL DHome.mz a.xHomes + szL DLink.mz a.xLinks + szL DGram.mz a.xGrams + szL DParked.mz a.xParked), mkL mkS mzS a.xTook (k + szL DNode.mz a.xCode.xPool.xNodes + szL DInstr.mz a.xCode.xList + szL DDef.mz a.xCode.xDefs + szL DHome.mz a.xHomes + szL DLink.mz a.xLinks + szL DGram.mz a.xGrams + szL DParked.mz a.xParked + szL mzS a.xGave)⟩

def DWorld.wz (a : DWorld) : Int := szL DNode.mz a.xCode.xPool.xNodes + szL DInstr.mz a.xCode.xList + szL DDef.mz a.xCode.xDefs + szL DHome.mz a.xHomes + szL DLink.mz a.xLinks + szL DGram.mz a.xGrams + szL DParked.mz a.xParked + szL mzS a.xGave + szL mzS a.xTook

theorem DWorld.wz_nonneg (a : DWorld) : 0 ≤ a.wz := by
  have := szL_nonneg DNode.mz_nonneg a.xCode.xPool.xNodes
  have := szL_nonneg DInstr.mz_nonneg a.xCode.xList
  have := szL_nonneg DDef.mz_nonneg a.xCode.xDefs
  have := szL_nonneg DHome.mz_nonneg a.xHomes
  have := szL_nonneg DLink.mz_nonneg a.xLinks
  have := szL_nonneg DGram.mz_nonneg a.xGrams
  have := szL_nonneg DParked.mz_nonneg a.xParked
  have := szL_nonneg mzS_nonneg a.xGave
  have := szL_nonneg mzS_nonneg a.xTook
  unfold DWorld.wz
  omega

theorem szL_le {α : Type} {f g : α → Int} {c : Int} (hc : 0 ≤ c) (h : ∀ x, f x ≤ c * (1 + g x)) : ∀ l : List α, szL f l ≤ c * ((l.length : Int) + szL g l)
  | [] => by simp [szL]
  | x :: r => by
    have h1 := h x
    have h2 := szL_le hc h r
    simp only [szL, List.length_cons]
    have e : c * (((r.length + 1 : Nat) : Int) + (g x + szL g r)) = c * (1 + g x) + c * ((r.length : Int) + szL g r) := by
      rw [← Int.mul_add]
      congr 1
      omega
    rw [e]
    omega

theorem mzS_le (l : List ByteArray) : mzS l ≤ 12 * szS l := by
  have := szS_len l
  unfold mzS
  rw [szL_one]
  omega

theorem mzSS_le (l : List (List ByteArray)) : szL mzS l ≤ 12 * szSS l := szL_le (by omega) (fun x => by have := mzS_le x; omega) l

theorem DNode.mz_le (a : DNode) : a.mz ≤ 12 * (1 + a.sz) := by
  have := a.sz_nonneg
  simp only [DNode.mz, DNode.sz] at *
  omega

theorem DInstr.mz_le (a : DInstr) : a.mz ≤ 12 * (1 + a.sz) := by
  have := a.sz_nonneg
  simp only [DInstr.mz, DInstr.sz] at *
  omega

theorem DDef.mz_le (a : DDef) : a.mz ≤ 12 * (1 + a.sz) := by
  have := a.sz_nonneg
  simp only [DDef.mz, DDef.sz] at *
  omega

theorem DPiece.mz_le (a : DPiece) : a.mz ≤ 12 * (1 + a.sz) := by
  have := a.sz_nonneg
  simp only [DPiece.mz, DPiece.sz] at *
  omega

theorem DLink.mz_le (a : DLink) : a.mz ≤ 12 * (1 + a.sz) := by
  have := mzS_le a.xQueue
  have := szL_le (c := 12) (by omega) DPiece.mz_le a.xHeld
  have := a.sz_nonneg
  simp only [DLink.mz, DLink.sz] at *
  omega

theorem DHome.mz_le (a : DHome) : a.mz ≤ 12 * (1 + a.sz) := by
  have := szL_le (c := 12) (by omega) DNode.mz_le a.xP.xM.xPool.xNodes
  have := mzS_le a.xP.xBox
  have := mzS_le a.xP.xOut
  have := a.sz_nonneg
  simp only [DHome.mz, DHome.sz, DProc.sz, DMachine.sz, DPool.sz] at *
  omega

theorem DGram.mz_le (a : DGram) : a.mz ≤ 12 * (1 + a.sz) := by
  have := a.sz_nonneg
  simp only [DGram.mz, DGram.sz, DPiece.sz] at *
  omega

theorem DParked.mz_le (a : DParked) : a.mz ≤ 12 * (1 + a.sz) := by
  have := a.sz_nonneg
  simp only [DParked.mz, DParked.sz] at *
  omega

theorem DPool.wz_le (a : DPool) : a.wz ≤ 12 * a.sz := by
  have := szL_le (c := 12) (by omega) DNode.mz_le a.xNodes
  simp only [DPool.wz, DPool.sz] at *
  omega

theorem DMachine.wz_le (a : DMachine) : a.wz ≤ 12 * a.sz := by
  have := szL_le (c := 12) (by omega) DNode.mz_le a.xPool.xNodes
  simp only [DMachine.wz, DMachine.sz, DPool.sz] at *
  omega

theorem DProc.wz_le (a : DProc) : a.wz ≤ 12 * a.sz := by
  have := szL_le (c := 12) (by omega) DNode.mz_le a.xM.xPool.xNodes
  have := mzS_le a.xBox
  have := mzS_le a.xOut
  simp only [DProc.wz, DProc.sz, DMachine.sz, DPool.sz] at *
  omega

theorem DCode.wz_le (a : DCode) : a.wz ≤ 12 * a.sz := by
  have := szL_le (c := 12) (by omega) DNode.mz_le a.xPool.xNodes
  have := szL_le (c := 12) (by omega) DInstr.mz_le a.xList
  have := szL_le (c := 12) (by omega) DDef.mz_le a.xDefs
  simp only [DCode.wz, DCode.sz, DPool.sz] at *
  omega

theorem DWorld.wz_le (a : DWorld) : a.wz ≤ 12 * a.sz := by
  have := szL_le (c := 12) (by omega) DNode.mz_le a.xCode.xPool.xNodes
  have := szL_le (c := 12) (by omega) DInstr.mz_le a.xCode.xList
  have := szL_le (c := 12) (by omega) DDef.mz_le a.xCode.xDefs
  have := szL_le (c := 12) (by omega) DHome.mz_le a.xHomes
  have := szL_le (c := 12) (by omega) DLink.mz_le a.xLinks
  have := szL_le (c := 12) (by omega) DGram.mz_le a.xGrams
  have := szL_le (c := 12) (by omega) DParked.mz_le a.xParked
  have := mzSS_le a.xGave
  have := mzSS_le a.xTook
  simp only [DWorld.wz, DWorld.sz, DCode.sz, DPool.sz] at *
  omega

end Go.Proofs.YtifodjnbcnbcpaaGreat.V

set_option linter.unusedVariables false

set_option linter.unusedSimpArgs false

namespace Go.Proofs.YtifodjnbcnbcpaaGreat.V

open Go

def numL (n : Nat) : List Int := if n ≤ 127 then [(n : Int)] else ((n % 128 + 128 : Nat) : Int) :: numL (n / 128)
  termination_by n
  decreasing_by omega

def numI (x : Int) : List Int := if x < 0 then [] else numL x.toNat

theorem numL_small {n : Nat} (h : n ≤ 127) : numL n = [(n : Int)] := by rw [numL, if_pos h]

theorem numL_big {n : Nat} (h : ¬ n ≤ 127) : numL n = ((n % 128 + 128 : Nat) : Int) :: numL (n / 128) := by rw [numL, if_neg h]

theorem numL_len : ∀ (k n : Nat), n < 128 ^ (k + 1) → (numL n).length ≤ k + 1
  | 0, n, h => by rw [numL_small (by omega)]; simp
  | k + 1, n, h => by
    by_cases hn : n ≤ 127
    · rw [numL_small hn]; simp
    · rw [numL_big hn]
      have := numL_len k (n / 128) (by
        rw [Nat.pow_succ] at h
        exact Nat.div_lt_of_lt_mul (by rw [Nat.mul_comm]; exact h))
      simp
      omega

theorem numL_len10 {n : Nat} (h : n ≤ 9223372036854775807) : (numL n).length ≤ 10 := numL_len 9 n (by
  have : (128 : Nat) ^ 10 = 1180591620717411303424 := by decide
  omega)

theorem numI_len {x : Int} (h : x ≤ 9223372036854775807) : (numI x).length ≤ 10 := by
  unfold numI
  split
  · simp
  · exact numL_len10 (by omega)

theorem put_step {x y : Int} {acc : List Int} (h0 : 0 ≤ y) (h1 : y ≤ 9223372036854775807) (h2 : acc ++ numL y.toNat = numL x.toNat) (h : 127 < y) :
    (tdivOf .i64 y 128).toNat < y.toNat ∧ 0 ≤ tdivOf .i64 y 128 ∧ tdivOf .i64 y 128 ≤ 9223372036854775807 ∧ acc ++ [wrp .u8 (wrp .i64 (tmodOf y 128 + 128))] ++ numL (tdivOf .i64 y 128).toNat = numL x.toNat := by
  rw [tdivOf_pos h0 h1 (by omega), tmodOf_pos h0, wrp_i64 (by omega) (by omega), wrp_u8 (by omega) (by omega)]
  refine ⟨by omega, by omega, by omega, ?_⟩
  rw [← h2, numL_big (n := y.toNat) (by omega)]
  have e1 : (y / 128).toNat = y.toNat / 128 := by omega
  have e2 : y % 128 + 128 = ((y.toNat % 128 + 128 : Nat) : Int) := by omega
  rw [e1, e2]
  simp

theorem put_end {x y : Int} {acc : List Int} (h0 : 0 ≤ y) (h2 : acc ++ numL y.toNat = numL x.toNat) (h : y ≤ 127) (hx : 0 ≤ x) : bts acc ++ [[C.sc (.int .u8 (wrp .u8 y))]] = bts (numI x) := by
  unfold numI
  rw [if_neg (by omega), ← h2, numL_small (by omega), bts_append, wrp_u8 h0 (by omega)]
  simp [bts]
  omega

def MdE1 (f : Nat) : List Mode :=
  match f with
  | 324 => [.rd]
  | 325 => [.rd]
  | 343 => [.rd]
  | 344 => [.rd]
  | _ => []

def E1 : Env := ⟨τ, MdE1⟩

set_option maxRecDepth 100000 in
theorem s_PutNum_ok (x : Int) (hx : x ≤ 9223372036854775807) : FnV Tryz.prog 324 [iV x] fun rs outs => rs = [oR (numI x)] ∧ outs = [] := by
  refine fn_ok (E := E1) τ_ok mixed Tryz.func324 (by rfl) (by rfl) false (by simp [Tryz.f324]) ?_
  conv => whnf
  refine br_if (fun h => ?_) (fun h => ?_) <;> (try rw [h]) <;> (conv => whnf)
  · rw [ltI_t] at h
    simp only [oR, numI, if_pos h, and_true]
    rfl
  · rw [ltI_f] at h
    refine ⟨fun n s => ∃ (y : Int) (acc : List Int), s = ⟨[(0, .vals false [.sc (.int .i64 y)]), (3, .vals false [.ref 100 0])], [], [(100, ⟨true, 0, 0, true, 1, bts acc⟩)]⟩ ∧ n = y.toNat ∧ 0 ≤ y ∧ y ≤ 9223372036854775807 ∧ acc ++ numL y.toNat = numL x.toNat, ⟨x.toNat, _, norm_wk (keep := [0, 3]) (kb := []) (ρ := [(4, some 100)]) rfl, ⟨x, [], rfl, rfl, h, hx, rfl⟩⟩, ?_⟩
    rintro n _ ⟨y, acc, rfl, rfl, h0, h1, h2⟩
    have hlen : acc.length ≤ 10 := by
      have := numL_len10 (n := x.toNat) (by omega)
      rw [← h2] at this
      simp at this
      omega
    conv => whnf
    refine br_if (fun h => ?_) (fun h => ?_) <;> (try rw [h]) <;> (conv => whnf)
    · rw [ltI_t] at h
      refine ⟨by decide, ?_⟩
      conv => whnf
      refine .inl ⟨flat1 _ _, ?_⟩
      conv => whnf
      refine ⟨by simp only [bts_len, chunk_len, d5]; omega, ?_⟩
      conv => whnf
      refine ⟨by decide, ?_⟩
      conv => whnf
      obtain ⟨q1, q2, q3, q4⟩ := put_step h0 h1 h2 h
      exact ⟨_, _, q1, norm_wk (keep := [0, 3]) (kb := []) (ρ := [(16, some 100)]) rfl, ⟨tdivOf .i64 y 128, acc ++ [wrp .u8 (wrp .i64 (tmodOf y 128 + 128))], by rw [bts_append]; rfl, rfl, q2, q3, q4⟩⟩
    · rw [ltI_f] at h
      refine .inl ⟨flat1 _ _, ?_⟩
      conv => whnf
      refine ⟨by simp only [bts_len, chunk_len, d5]; omega, ?_⟩
      conv => whnf
      refine ⟨?_, rfl⟩
      rw [oR, ← put_end h0 h2 h ‹0 ≤ x›]
      rfl

set_option maxRecDepth 100000 in
theorem i_PutNum_ok (x : Int) (hx : x ≤ 9223372036854775807) : FnV Tryz.prog 343 [iV x] fun rs outs => rs = [oR (numI x)] ∧ outs = [] := by
  refine fn_ok (E := E1) τ_ok mixed Tryz.func343 (by rfl) (by rfl) false (by simp [Tryz.f343]) ?_
  conv => whnf
  refine br_if (fun h => ?_) (fun h => ?_) <;> (try rw [h]) <;> (conv => whnf)
  · rw [ltI_t] at h
    simp only [oR, numI, if_pos h, and_true]
    rfl
  · rw [ltI_f] at h
    refine ⟨fun n s => ∃ (y : Int) (acc : List Int), s = ⟨[(0, .vals false [.sc (.int .i64 y)]), (3, .vals false [.ref 100 0])], [], [(100, ⟨true, 0, 0, true, 1, bts acc⟩)]⟩ ∧ n = y.toNat ∧ 0 ≤ y ∧ y ≤ 9223372036854775807 ∧ acc ++ numL y.toNat = numL x.toNat, ⟨x.toNat, _, norm_wk (keep := [0, 3]) (kb := []) (ρ := [(6, some 100)]) rfl, ⟨x, [], rfl, rfl, h, hx, rfl⟩⟩, ?_⟩
    rintro n _ ⟨y, acc, rfl, rfl, h0, h1, h2⟩
    have hlen : acc.length ≤ 10 := by
      have := numL_len10 (n := x.toNat) (by omega)
      rw [← h2] at this
      simp at this
      omega
    conv => whnf
    refine br_if (fun h => ?_) (fun h => ?_) <;> (try rw [h]) <;> (conv => whnf)
    · rw [ltI_t] at h
      refine ⟨by decide, ?_⟩
      conv => whnf
      refine .inl ⟨flat1 _ _, ?_⟩
      conv => whnf
      refine ⟨by simp only [bts_len, chunk_len, d5]; omega, ?_⟩
      conv => whnf
      refine ⟨by decide, ?_⟩
      conv => whnf
      obtain ⟨q1, q2, q3, q4⟩ := put_step h0 h1 h2 h
      exact ⟨_, _, q1, norm_wk (keep := [0, 3]) (kb := []) (ρ := [(15, some 100)]) rfl, ⟨tdivOf .i64 y 128, acc ++ [wrp .u8 (wrp .i64 (tmodOf y 128 + 128))], by rw [bts_append]; rfl, rfl, q2, q3, q4⟩⟩
    · rw [ltI_f] at h
      refine .inl ⟨flat1 _ _, ?_⟩
      conv => whnf
      refine ⟨by simp only [bts_len, chunk_len, d5]; omega, ?_⟩
      conv => whnf
      refine ⟨?_, rfl⟩
      rw [oR, ← put_end h0 h2 h ‹0 ≤ x›]
      rfl

theorem bR_eq {x y : Bool} (h : x = y) : [bR x] = [bR y] ∧ ([] : List (List C)) = [] := by rw [h]; exact ⟨rfl, rfl⟩

def putText (s : ByteArray) : List Int := numI s.size ++ sb s

set_option maxRecDepth 100000 in
theorem s_PutText_ok (s : ByteArray) (hs : s.size ≤ 10000000) : FnV Tryz.prog 325 [sV s] fun rs outs => rs = [oR (putText s)] ∧ outs = [] := by
  refine fn_ok (E := E1) τ_ok mixed Tryz.func325 (by rfl) (by rfl) false (by simp [Tryz.f325]) ?_
  conv => whnf
  refine (s_PutNum_ok _ (by omega)).mono ?_
  rintro _ _ ⟨rfl, rfl⟩
  have hl := numI_len (x := s.size) (by omega)
  conv => whnf
  refine ⟨by omega, ?_⟩
  conv => whnf
  refine .inl ⟨by simp only [bytesOf_sb, d5]; exact flat_bts _, ?_⟩
  conv => whnf
  refine ⟨by simp only [bts_len, bytesOf_sb, sb_len, d5]; omega, ?_⟩
  conv => whnf
  simp [oR, putText, bts_append, bytesOf_sb]

set_option maxRecDepth 100000 in
theorem i_PutText_ok (s : ByteArray) (hs : s.size ≤ 10000000) : FnV Tryz.prog 344 [sV s] fun rs outs => rs = [oR (putText s)] ∧ outs = [] := by
  refine fn_ok (E := E1) τ_ok mixed Tryz.func344 (by rfl) (by rfl) false (by simp [Tryz.f344]) ?_
  conv => whnf
  refine (i_PutNum_ok _ (by omega)).mono ?_
  rintro _ _ ⟨rfl, rfl⟩
  have hl := numI_len (x := s.size) (by omega)
  conv => whnf
  refine ⟨by simp only [bts_len, d5]; omega, ?_⟩
  conv => whnf
  simp [oR, putText, bts_append, bytesOf_sb]

end Go.Proofs.YtifodjnbcnbcpaaGreat.V

set_option linter.unusedVariables false

set_option linter.unusedSimpArgs false

namespace Go.Proofs.YtifodjnbcnbcpaaGreat.V

open Go

def MdEMk (f : Nat) : List Mode :=
  match f with
  | 138 => [.rd]
  | _ => []

def EMk : Env := ⟨τ, MdEMk⟩

theorem strOfNums_app (a b : List Int) : strOfNums (a ++ b) = strOfNums a ++ strOfNums b := by
  apply ByteArray.ext
  rw [ByteArray.data_append]
  show ((a ++ b).map fun n : Int => UInt8.ofNat n.toNat).toArray = (a.map fun n : Int => UInt8.ofNat n.toNat).toArray ++ (b.map fun n : Int => UInt8.ofNat n.toNat).toArray
  simp

theorem dg_zero : dg 0 = [] := by rw [dg, if_pos rfl]

theorem dg_pos {n : Nat} (h : n ≠ 0) : dg n = dg (n / 10) ++ [((48 + n % 10 : Nat) : Int)] := by rw [dg, if_neg h]

theorem dg_len : ∀ n : Nat, (dg n).length ≤ n := fun n => by
  induction n using Nat.strongRecOn with
  | _ n ih =>
    by_cases h : n = 0
    · subst h; rw [dg_zero]; exact Nat.le_refl _
    · rw [dg_pos h]
      have := ih (n / 10) (by omega)
      simp
      omega

theorem strOfNums_sz (l : List Int) : (strOfNums l).size = l.length := by
  show (l.map fun n : Int => UInt8.ofNat n.toNat).toArray.size = l.length
  simp

theorem szL_len {α : Type} {f : α → Int} (h : ∀ x, 1 ≤ f x) : ∀ l : List α, (l.length : Int) ≤ szL f l
  | [] => by simp [szL]
  | x :: r => by
    have h1 := h x
    have h2 := szL_len h r
    simp only [szL, List.length_cons]
    omega

set_option maxRecDepth 100000 in
theorem markText_ok (k : Int) (hk : k ≤ 1000000000) : FnV Tryz.prog 138 [iV k] fun rs outs => rs = [sR (mkT k)] ∧ outs = [] := by
  refine fn_ok (E := EMk) τ_ok mixed Tryz.func138 (by rfl) (by rfl) false (by simp [Tryz.f138]) ?_
  conv => whnf
  refine br_if (fun h => ?_) (fun h => ?_) <;> (try rw [h]) <;> (conv => whnf)
  · rw [leI_t] at h
    unfold mkT
    rw [if_pos h]
    exact ⟨rfl, rfl⟩
  rw [leI_f] at h
  refine ⟨fun m s => ∃ (y : Int) (out : ByteArray), s = ⟨[(0, .vals false [.sc (.int .i64 y)]), (2, .vals false [.sc (.string ⟨#[]⟩)]), (3, .vals false [.sc (.string out)])], [], []⟩ ∧ m = y.toNat ∧ 0 ≤ y ∧ y ≤ k ∧ strOfNums (dg y.toNat) ++ out = strOfNums (dg k.toNat),
    ⟨_, _, norm_wk (keep := [0, 2, 3]) (kb := []) (ρ := []) rfl, ⟨k, ⟨#[]⟩, rfl, rfl, by omega, by omega, by apply ByteArray.ext; simp⟩⟩, ?_⟩
  rintro m _ ⟨y, out, rfl, rfl, y0, y1, hy⟩
  have hsz : (strOfNums (dg y.toNat)).size + out.size = (strOfNums (dg k.toNat)).size := by rw [← hy, ByteArray.size_append]
  rw [strOfNums_sz, strOfNums_sz] at hsz
  have hdk := dg_len k.toNat
  conv => whnf
  refine br_if (fun h2 => ?_) (fun h2 => ?_) <;> (try rw [h2]) <;> (conv => whnf)
  · have h2' : 0 < y := by first | exact ltI_t.1 h2 | (rw [ltI_t] at h2; exact h2)
    have hd := dg_pos (n := y.toNat) (by omega)
    have e1 : tmodOf y 10 = y % 10 := tmodOf_pos y0
    have e2 : wrp .i64 (48 + y % 10) = 48 + y % 10 := wrp_i64 (by omega) (by omega)
    have e3 : wrp .u8 (48 + y % 10) = 48 + y % 10 := wrp_u8 (by omega) (by omega)
    rw [hd] at hsz hy
    simp only [List.length_append, List.length_singleton] at hsz
    refine ⟨by decide, ?_⟩
    conv => whnf
    rw [e1, e2, e3]
    refine ⟨[48 + y % 10], rfl, ?_⟩
    conv => whnf
    refine ⟨by rw [strOfNums_sz]; simp only [List.length_singleton]; show _ ≤ (9223372036854775807 : Int); omega, ?_⟩
    conv => whnf
    refine ⟨by decide, ?_⟩
    conv => whnf
    rw [tdivOf_pos y0 (by omega) (by omega)]
    refine ⟨(y / 10).toNat, _, by omega, norm_wk (keep := [0, 2, 3]) (kb := []) (ρ := []) rfl, ⟨y / 10, _, rfl, rfl, by omega, by omega, ?_⟩⟩
    rw [addStr_eq, ← ByteArray.append_assoc, show (y / 10).toNat = y.toNat / 10 by omega, ← hy, strOfNums_app]
    congr 4
    omega
  · have h2' : y ≤ 0 := by
      have : ¬ 0 < y := by first | exact ltI_f.1 h2 | (rw [ltI_f] at h2; omega)
      omega
    obtain rfl : y = 0 := by omega
    have e : out = strOfNums (dg k.toNat) := by rw [← hy]; apply ByteArray.ext; simp [dg_zero, strOfNums]
    refine ⟨?_, ?_⟩
    · show _ ≤ (9223372036854775807 : Int)
      have e2 : (⟨#[109]⟩ : ByteArray).size = 1 := rfl
      first | rw [e2] | skip
      omega
    conv => whnf
    rw [addStr_eq, e]
    unfold mkT
    rw [if_neg (by omega)]
    have e3 : strOfNums (109 :: dg k.toNat) = ⟨#[109]⟩ ++ strOfNums (dg k.toNat) := by
      have := strOfNums_app [109] (dg k.toNat)
      exact this
    rw [e3]
    exact ⟨rfl, rfl⟩

set_option maxRecDepth 100000 in
set_option maxHeartbeats 4000000 in
theorem markStringS_ok (xs : List ByteArray) (k : Int) (h0 : 0 ≤ k) (hk : k + mzS xs ≤ 1000000000) : FnV Tryz.prog 89 [.mv false [.sl true 1 (ssC xs)], iV k] fun rs outs => rs = [iR (k + mzS xs)] ∧ outs = [[.sl true 1 (ssC (mkS xs k))]] := by
  unfold mzS at hk ⊢
  unfold mkS
  have hl := szL_len (f := (fun _ => 1)) (fun _ => by omega) xs
  refine fn_ok (E := EMk) τ_ok mixed Tryz.func89 (by rfl) (by rfl) false (by simp [Tryz.f89]) ?_
  conv => whnf
  refine ⟨fun m s => ∃ (i : Int) (es : List (List C)), s = ⟨[(0, .vals false [.ref 3000000 0]), (1, .vals false [.sc (.int .i64 (k + szL (fun _ => 1) (xs.take i.toNat)))]), (4, .vals false [.sc (.int .i64 0)]), (5, .vals false [.sc (.int .i64 i)])], [], [(3000000, ⟨true, 0, 0, true, 1, es⟩)]⟩ ∧ m = xs.length - i.toNat ∧ 0 ≤ i ∧ i ≤ xs.length ∧ es = (mkTo (fun _ k => mkT k) (fun _ => 1) xs k i.toNat).map (fun s => [C.sc (.string s)]),
    ⟨_, _, norm_wk (keep := [0, 1, 4, 5]) (kb := []) (ρ := [(3000000, some 3000000)]) rfl, ⟨0, _, by simp [szL]; rfl, rfl, by omega, by omega, by simp [mkTo_zero]⟩⟩, ?_⟩
  rintro m _ ⟨i, es, rfl, rfl, i0, i1, he⟩
  have hel : es.length = xs.length := by rw [he, List.length_map, mkTo_len]
  conv => whnf
  rw [hel]
  refine br_if (fun h => ?_) (fun h => ?_) <;> (try rw [h]) <;> (conv => whnf)
  · rw [ltI_t] at h
    obtain ⟨x, hx⟩ : ∃ x, xs[i.toNat]? = some x := ⟨_, List.getElem?_eq_getElem (by omega)⟩
    have hrow : es[i.toNat]? = some ((fun s => [C.sc (.string s)]) x) := by rw [he, List.getElem?_map, mkTo_at (fun _ k => mkT k) (fun _ => 1) hx]; rfl
    have hsucc := szL_succ (f := (fun _ => 1)) hx
    have htk := szL_take (f := (fun _ => 1)) (fun _ => by omega) xs (i.toNat + 1)
    have h00 := szL_nonneg (f := (fun _ => 1)) (fun _ => by omega) (xs.take i.toNat)
    have hin : i.toNat < es.length := by omega
    generalize hK : k + szL (fun _ => 1) (xs.take i.toNat) = K
    refine (markText_ok (K) (by omega)).mono ?_
    rintro _ _ ⟨rfl, rfl⟩
    conv => whnf
    refine ⟨i0, by simp only [List.length_set]; omega, ?_⟩
    conv => whnf
    refine ⟨[.sc (.string x)], hrow, ?_⟩
    conv => whnf
    rw [show wrp .i64 (K + 1) = K + 1 from (wrp_i64 (by omega) (by omega)).trans (by omega)]
    rw [wrp_i64 (x := i + 1) (by omega) (by omega)]
    have eK : k + szL (fun _ => 1) (xs.take (i.toNat + 1)) = K + 1 := by omega
    have fin : es.set i.toNat [.sc (.string (mkT (K)))] = (mkTo (fun _ k => mkT k) (fun _ => 1) xs k (i + 1).toNat).map (fun s => [C.sc (.string s)]) := by
      rw [show (i + 1).toNat = i.toNat + 1 by omega, ← mkTo_set (fun _ k => mkT k) (fun _ => 1) hx k, List.map_set, ← he, hK]
      try rfl
    refine ⟨xs.length - (i + 1).toNat, ?_⟩
    apply Exists.intro
    refine ⟨by omega, ?_, ?_⟩
    · exact norm_wk (keep := [0, 1, 4, 5]) (kb := []) (ρ := [(3000000, some 3000000)]) rfl
    refine ⟨i + 1, es.set i.toNat [.sc (.string (mkT (K)))], ?_, rfl, by omega, by omega, fin⟩
    rw [show (i + 1).toNat = i.toNat + 1 by omega, eK]
    simp only [List.set_set]
    rfl
  · rw [ltI_f] at h
    rw [List.take_of_length_le (by omega)]
    rw [mkTo_all _ _ _ _ (by omega)] at he
    rw [he]
    exact ⟨rfl, rfl⟩

set_option maxRecDepth 100000 in
set_option maxHeartbeats 4000000 in
theorem markNodeS_ok (xs : List DNode) (k : Int) (h0 : 0 ≤ k) (hk : k + szL DNode.mz xs ≤ 1000000000) : FnV Tryz.prog 137 [.mv false [.sl true 5 (xs.map DNode.c)], iV k] fun rs outs => rs = [iR (k + szL DNode.mz xs)] ∧ outs = [[.sl true 5 ((mkL DNode.me DNode.mz xs k).map DNode.c)]] := by
  have hl := szL_len (f := DNode.mz) (fun x => by show 1 ≤ 5; omega) xs
  refine fn_ok (E := EMk) τ_ok mixed Tryz.func137 (by rfl) (by rfl) false (by simp [Tryz.f137]) ?_
  conv => whnf
  refine ⟨fun m s => ∃ (i : Int) (es : List (List C)), s = ⟨[(0, .vals false [.ref 3000000 0]), (1, .vals false [.sc (.int .i64 (k + szL DNode.mz (xs.take i.toNat)))]), (4, .vals false [.sc (.int .i64 0)]), (5, .vals false [.sc (.int .i64 i)])], [], [(3000000, ⟨true, 0, 0, true, 5, es⟩)]⟩ ∧ m = xs.length - i.toNat ∧ 0 ≤ i ∧ i ≤ xs.length ∧ es = (mkTo DNode.me DNode.mz xs k i.toNat).map DNode.c,
    ⟨_, _, norm_wk (keep := [0, 1, 4, 5]) (kb := []) (ρ := [(3000000, some 3000000)]) rfl, ⟨0, _, by simp [szL]; rfl, rfl, by omega, by omega, by simp [mkTo_zero]⟩⟩, ?_⟩
  rintro m _ ⟨i, es, rfl, rfl, i0, i1, he⟩
  have hel : es.length = xs.length := by rw [he, List.length_map, mkTo_len]
  conv => whnf
  rw [hel]
  refine br_if (fun h => ?_) (fun h => ?_) <;> (try rw [h]) <;> (conv => whnf)
  · rw [ltI_t] at h
    obtain ⟨x, hx⟩ : ∃ x, xs[i.toNat]? = some x := ⟨_, List.getElem?_eq_getElem (by omega)⟩
    have hrow : es[i.toNat]? = some (DNode.c x) := by rw [he, List.getElem?_map, mkTo_at DNode.me DNode.mz hx]; rfl
    have hsucc := szL_succ (f := DNode.mz) hx
    have htk := szL_take (f := DNode.mz) DNode.mz_nonneg xs (i.toNat + 1)
    have h00 := szL_nonneg (f := DNode.mz) DNode.mz_nonneg (xs.take i.toNat)
    have hmz : x.mz = 5 := rfl
    have hin : i.toNat < es.length := by omega
    generalize hK : k + szL DNode.mz (xs.take i.toNat) = K
    refine ⟨i0, by simp only [List.length_set]; omega, ?_⟩
    conv => whnf
    refine ⟨[.sc (.int .i64 x.xKind), .sc (.int .i64 x.xN), .sc (.string x.xS), .sc (.int .i64 x.xA), .sc (.int .i64 x.xB)], hrow, ?_⟩
    conv => whnf
    rw [show wrp .i64 (K + 1) = K + 1 from (wrp_i64 (by omega) (by omega)).trans (by omega)]
    refine ⟨i0, by simp only [List.length_set]; omega, ?_⟩
    conv => whnf
    refine ⟨[.sc (.int .i64 (K)), .sc (.int .i64 x.xN), .sc (.string x.xS), .sc (.int .i64 x.xA), .sc (.int .i64 x.xB)], List.getElem?_set_self (by simp only [List.length_set]; omega), ?_⟩
    conv => whnf
    rw [show wrp .i64 (K + 1 + 1) = K + 2 from (wrp_i64 (by omega) (by omega)).trans (by omega)]
    refine (markText_ok (K + 2) (by omega)).mono ?_
    rintro _ _ ⟨rfl, rfl⟩
    conv => whnf
    refine ⟨i0, by simp only [List.length_set]; omega, ?_⟩
    conv => whnf
    refine ⟨[.sc (.int .i64 (K)), .sc (.int .i64 (K + 1)), .sc (.string x.xS), .sc (.int .i64 x.xA), .sc (.int .i64 x.xB)], List.getElem?_set_self (by simp only [List.length_set]; omega), ?_⟩
    conv => whnf
    rw [show wrp .i64 (K + 2 + 1) = K + 3 from (wrp_i64 (by omega) (by omega)).trans (by omega)]
    refine ⟨i0, by simp only [List.length_set]; omega, ?_⟩
    conv => whnf
    refine ⟨[.sc (.int .i64 (K)), .sc (.int .i64 (K + 1)), .sc (.string (mkT (K + 2))), .sc (.int .i64 x.xA), .sc (.int .i64 x.xB)], List.getElem?_set_self (by simp only [List.length_set]; omega), ?_⟩
    conv => whnf
    rw [show wrp .i64 (K + 3 + 1) = K + 4 from (wrp_i64 (by omega) (by omega)).trans (by omega)]
    refine ⟨i0, by simp only [List.length_set]; omega, ?_⟩
    conv => whnf
    refine ⟨[.sc (.int .i64 (K)), .sc (.int .i64 (K + 1)), .sc (.string (mkT (K + 2))), .sc (.int .i64 (K + 3)), .sc (.int .i64 x.xB)], List.getElem?_set_self (by simp only [List.length_set]; omega), ?_⟩
    conv => whnf
    rw [show wrp .i64 (K + 4 + 1) = K + 5 from (wrp_i64 (by omega) (by omega)).trans (by omega)]
    rw [wrp_i64 (x := i + 1) (by omega) (by omega)]
    have eK : k + szL DNode.mz (xs.take (i.toNat + 1)) = K + 5 := by omega
    have fin : es.set i.toNat [.sc (.int .i64 (K)), .sc (.int .i64 (K + 1)), .sc (.string (mkT (K + 2))), .sc (.int .i64 (K + 3)), .sc (.int .i64 (K + 4))] = (mkTo DNode.me DNode.mz xs k (i + 1).toNat).map DNode.c := by
      rw [show (i + 1).toNat = i.toNat + 1 by omega, ← mkTo_set DNode.me DNode.mz hx k, List.map_set, ← he, hK]
      try rfl
    refine ⟨xs.length - (i + 1).toNat, ?_⟩
    apply Exists.intro
    refine ⟨by omega, ?_, ?_⟩
    · exact norm_wk (keep := [0, 1, 4, 5]) (kb := []) (ρ := [(3000000, some 3000000)]) rfl
    refine ⟨i + 1, es.set i.toNat [.sc (.int .i64 (K)), .sc (.int .i64 (K + 1)), .sc (.string (mkT (K + 2))), .sc (.int .i64 (K + 3)), .sc (.int .i64 (K + 4))], ?_, rfl, by omega, by omega, fin⟩
    rw [show (i + 1).toNat = i.toNat + 1 by omega, eK]
    simp only [List.set_set]
    rfl
  · rw [ltI_f] at h
    rw [List.take_of_length_le (by omega)]
    rw [mkTo_all _ _ _ _ (by omega)] at he
    rw [he]
    exact ⟨rfl, rfl⟩

set_option maxRecDepth 100000 in
set_option maxHeartbeats 4000000 in
theorem markInstrS_ok (xs : List DInstr) (k : Int) (h0 : 0 ≤ k) (hk : k + szL DInstr.mz xs ≤ 1000000000) : FnV Tryz.prog 65 [.mv false [.sl true 4 (xs.map DInstr.c)], iV k] fun rs outs => rs = [iR (k + szL DInstr.mz xs)] ∧ outs = [[.sl true 4 ((mkL DInstr.me DInstr.mz xs k).map DInstr.c)]] := by
  have hl := szL_len (f := DInstr.mz) (fun x => by show 1 ≤ 4; omega) xs
  refine fn_ok (E := EMk) τ_ok mixed Tryz.func65 (by rfl) (by rfl) false (by simp [Tryz.f65]) ?_
  conv => whnf
  refine ⟨fun m s => ∃ (i : Int) (es : List (List C)), s = ⟨[(0, .vals false [.ref 3000000 0]), (1, .vals false [.sc (.int .i64 (k + szL DInstr.mz (xs.take i.toNat)))]), (4, .vals false [.sc (.int .i64 0)]), (5, .vals false [.sc (.int .i64 i)])], [], [(3000000, ⟨true, 0, 0, true, 4, es⟩)]⟩ ∧ m = xs.length - i.toNat ∧ 0 ≤ i ∧ i ≤ xs.length ∧ es = (mkTo DInstr.me DInstr.mz xs k i.toNat).map DInstr.c,
    ⟨_, _, norm_wk (keep := [0, 1, 4, 5]) (kb := []) (ρ := [(3000000, some 3000000)]) rfl, ⟨0, _, by simp [szL]; rfl, rfl, by omega, by omega, by simp [mkTo_zero]⟩⟩, ?_⟩
  rintro m _ ⟨i, es, rfl, rfl, i0, i1, he⟩
  have hel : es.length = xs.length := by rw [he, List.length_map, mkTo_len]
  conv => whnf
  rw [hel]
  refine br_if (fun h => ?_) (fun h => ?_) <;> (try rw [h]) <;> (conv => whnf)
  · rw [ltI_t] at h
    obtain ⟨x, hx⟩ : ∃ x, xs[i.toNat]? = some x := ⟨_, List.getElem?_eq_getElem (by omega)⟩
    have hrow : es[i.toNat]? = some (DInstr.c x) := by rw [he, List.getElem?_map, mkTo_at DInstr.me DInstr.mz hx]; rfl
    have hsucc := szL_succ (f := DInstr.mz) hx
    have htk := szL_take (f := DInstr.mz) DInstr.mz_nonneg xs (i.toNat + 1)
    have h00 := szL_nonneg (f := DInstr.mz) DInstr.mz_nonneg (xs.take i.toNat)
    have hmz : x.mz = 4 := rfl
    have hin : i.toNat < es.length := by omega
    generalize hK : k + szL DInstr.mz (xs.take i.toNat) = K
    refine ⟨i0, by simp only [List.length_set]; omega, ?_⟩
    conv => whnf
    refine ⟨[.sc (.int .i64 x.xOp), .sc (.int .i64 x.xN), .sc (.int .i64 x.xI), .sc (.string x.xS)], hrow, ?_⟩
    conv => whnf
    rw [show wrp .i64 (K + 1) = K + 1 from (wrp_i64 (by omega) (by omega)).trans (by omega)]
    refine ⟨i0, by simp only [List.length_set]; omega, ?_⟩
    conv => whnf
    refine ⟨[.sc (.int .i64 (K)), .sc (.int .i64 x.xN), .sc (.int .i64 x.xI), .sc (.string x.xS)], List.getElem?_set_self (by simp only [List.length_set]; omega), ?_⟩
    conv => whnf
    rw [show wrp .i64 (K + 1 + 1) = K + 2 from (wrp_i64 (by omega) (by omega)).trans (by omega)]
    refine ⟨i0, by simp only [List.length_set]; omega, ?_⟩
    conv => whnf
    refine ⟨[.sc (.int .i64 (K)), .sc (.int .i64 (K + 1)), .sc (.int .i64 x.xI), .sc (.string x.xS)], List.getElem?_set_self (by simp only [List.length_set]; omega), ?_⟩
    conv => whnf
    rw [show wrp .i64 (K + 2 + 1) = K + 3 from (wrp_i64 (by omega) (by omega)).trans (by omega)]
    refine (markText_ok (K + 3) (by omega)).mono ?_
    rintro _ _ ⟨rfl, rfl⟩
    conv => whnf
    refine ⟨i0, by simp only [List.length_set]; omega, ?_⟩
    conv => whnf
    refine ⟨[.sc (.int .i64 (K)), .sc (.int .i64 (K + 1)), .sc (.int .i64 (K + 2)), .sc (.string x.xS)], List.getElem?_set_self (by simp only [List.length_set]; omega), ?_⟩
    conv => whnf
    rw [show wrp .i64 (K + 3 + 1) = K + 4 from (wrp_i64 (by omega) (by omega)).trans (by omega)]
    rw [wrp_i64 (x := i + 1) (by omega) (by omega)]
    have eK : k + szL DInstr.mz (xs.take (i.toNat + 1)) = K + 4 := by omega
    have fin : es.set i.toNat [.sc (.int .i64 (K)), .sc (.int .i64 (K + 1)), .sc (.int .i64 (K + 2)), .sc (.string (mkT (K + 3)))] = (mkTo DInstr.me DInstr.mz xs k (i + 1).toNat).map DInstr.c := by
      rw [show (i + 1).toNat = i.toNat + 1 by omega, ← mkTo_set DInstr.me DInstr.mz hx k, List.map_set, ← he, hK]
      try rfl
    refine ⟨xs.length - (i + 1).toNat, ?_⟩
    apply Exists.intro
    refine ⟨by omega, ?_, ?_⟩
    · exact norm_wk (keep := [0, 1, 4, 5]) (kb := []) (ρ := [(3000000, some 3000000)]) rfl
    refine ⟨i + 1, es.set i.toNat [.sc (.int .i64 (K)), .sc (.int .i64 (K + 1)), .sc (.int .i64 (K + 2)), .sc (.string (mkT (K + 3)))], ?_, rfl, by omega, by omega, fin⟩
    rw [show (i + 1).toNat = i.toNat + 1 by omega, eK]
    simp only [List.set_set]
    rfl
  · rw [ltI_f] at h
    rw [List.take_of_length_le (by omega)]
    rw [mkTo_all _ _ _ _ (by omega)] at he
    rw [he]
    exact ⟨rfl, rfl⟩

set_option maxRecDepth 100000 in
set_option maxHeartbeats 4000000 in
theorem markDefS_ok (xs : List DDef) (k : Int) (h0 : 0 ≤ k) (hk : k + szL DDef.mz xs ≤ 1000000000) : FnV Tryz.prog 66 [.mv false [.sl true 3 (xs.map DDef.c)], iV k] fun rs outs => rs = [iR (k + szL DDef.mz xs)] ∧ outs = [[.sl true 3 ((mkL DDef.me DDef.mz xs k).map DDef.c)]] := by
  have hl := szL_len (f := DDef.mz) (fun x => by show 1 ≤ 3; omega) xs
  refine fn_ok (E := EMk) τ_ok mixed Tryz.func66 (by rfl) (by rfl) false (by simp [Tryz.f66]) ?_
  conv => whnf
  refine ⟨fun m s => ∃ (i : Int) (es : List (List C)), s = ⟨[(0, .vals false [.ref 3000000 0]), (1, .vals false [.sc (.int .i64 (k + szL DDef.mz (xs.take i.toNat)))]), (4, .vals false [.sc (.int .i64 0)]), (5, .vals false [.sc (.int .i64 i)])], [], [(3000000, ⟨true, 0, 0, true, 3, es⟩)]⟩ ∧ m = xs.length - i.toNat ∧ 0 ≤ i ∧ i ≤ xs.length ∧ es = (mkTo DDef.me DDef.mz xs k i.toNat).map DDef.c,
    ⟨_, _, norm_wk (keep := [0, 1, 4, 5]) (kb := []) (ρ := [(3000000, some 3000000)]) rfl, ⟨0, _, by simp [szL]; rfl, rfl, by omega, by omega, by simp [mkTo_zero]⟩⟩, ?_⟩
  rintro m _ ⟨i, es, rfl, rfl, i0, i1, he⟩
  have hel : es.length = xs.length := by rw [he, List.length_map, mkTo_len]
  conv => whnf
  rw [hel]
  refine br_if (fun h => ?_) (fun h => ?_) <;> (try rw [h]) <;> (conv => whnf)
  · rw [ltI_t] at h
    obtain ⟨x, hx⟩ : ∃ x, xs[i.toNat]? = some x := ⟨_, List.getElem?_eq_getElem (by omega)⟩
    have hrow : es[i.toNat]? = some (DDef.c x) := by rw [he, List.getElem?_map, mkTo_at DDef.me DDef.mz hx]; rfl
    have hsucc := szL_succ (f := DDef.mz) hx
    have htk := szL_take (f := DDef.mz) DDef.mz_nonneg xs (i.toNat + 1)
    have h00 := szL_nonneg (f := DDef.mz) DDef.mz_nonneg (xs.take i.toNat)
    have hmz : x.mz = 3 := rfl
    have hin : i.toNat < es.length := by omega
    generalize hK : k + szL DDef.mz (xs.take i.toNat) = K
    refine (markText_ok (K) (by omega)).mono ?_
    rintro _ _ ⟨rfl, rfl⟩
    conv => whnf
    refine ⟨i0, by simp only [List.length_set]; omega, ?_⟩
    conv => whnf
    refine ⟨[.sc (.string x.xName), .sc (.int .i64 x.xAt), .sc (.int .i64 x.xArgs)], hrow, ?_⟩
    conv => whnf
    rw [show wrp .i64 (K + 1) = K + 1 from (wrp_i64 (by omega) (by omega)).trans (by omega)]
    refine ⟨i0, by simp only [List.length_set]; omega, ?_⟩
    conv => whnf
    refine ⟨[.sc (.string (mkT (K))), .sc (.int .i64 x.xAt), .sc (.int .i64 x.xArgs)], List.getElem?_set_self (by simp only [List.length_set]; omega), ?_⟩
    conv => whnf
    rw [show wrp .i64 (K + 1 + 1) = K + 2 from (wrp_i64 (by omega) (by omega)).trans (by omega)]
    refine ⟨i0, by simp only [List.length_set]; omega, ?_⟩
    conv => whnf
    refine ⟨[.sc (.string (mkT (K))), .sc (.int .i64 (K + 1)), .sc (.int .i64 x.xArgs)], List.getElem?_set_self (by simp only [List.length_set]; omega), ?_⟩
    conv => whnf
    rw [show wrp .i64 (K + 2 + 1) = K + 3 from (wrp_i64 (by omega) (by omega)).trans (by omega)]
    rw [wrp_i64 (x := i + 1) (by omega) (by omega)]
    have eK : k + szL DDef.mz (xs.take (i.toNat + 1)) = K + 3 := by omega
    have fin : es.set i.toNat [.sc (.string (mkT (K))), .sc (.int .i64 (K + 1)), .sc (.int .i64 (K + 2))] = (mkTo DDef.me DDef.mz xs k (i + 1).toNat).map DDef.c := by
      rw [show (i + 1).toNat = i.toNat + 1 by omega, ← mkTo_set DDef.me DDef.mz hx k, List.map_set, ← he, hK]
      try rfl
    refine ⟨xs.length - (i + 1).toNat, ?_⟩
    apply Exists.intro
    refine ⟨by omega, ?_, ?_⟩
    · exact norm_wk (keep := [0, 1, 4, 5]) (kb := []) (ρ := [(3000000, some 3000000)]) rfl
    refine ⟨i + 1, es.set i.toNat [.sc (.string (mkT (K))), .sc (.int .i64 (K + 1)), .sc (.int .i64 (K + 2))], ?_, rfl, by omega, by omega, fin⟩
    rw [show (i + 1).toNat = i.toNat + 1 by omega, eK]
    simp only [List.set_set]
    rfl
  · rw [ltI_f] at h
    rw [List.take_of_length_le (by omega)]
    rw [mkTo_all _ _ _ _ (by omega)] at he
    rw [he]
    exact ⟨rfl, rfl⟩

end Go.Proofs.YtifodjnbcnbcpaaGreat.V

set_option linter.unusedVariables false

set_option linter.unusedSimpArgs false

namespace Go.Proofs.YtifodjnbcnbcpaaGreat.V

open Go

def MdEHe (f : Nat) : List Mode :=
  match f with
  | 138 => [.rd]
  | _ => []

def EHe : Env := ⟨τ, MdEHe⟩

theorem neg_f {x : Int} (h : 0 ≤ x) : ltI x 0 = false := ltI_f.2 (by omega)

theorem hq0 : notB true = false := notB_f.2 rfl

set_option maxRecDepth 100000 in
set_option maxHeartbeats 4000000 in
theorem heldStringS_ok (xs : List ByteArray) (k : Int) (h0 : 0 ≤ k) (hk : k + mzS xs ≤ 1000000000) : FnV Tryz.prog 91 [.rdv false [.sl true 1 (ssC (mkS xs k))], iV k] fun rs outs => rs = [iR (k + mzS xs)] ∧ outs = [] := by
  unfold mzS at hk ⊢
  unfold mkS
  have hl := szL_len (f := (fun _ => 1)) (fun _ => by omega) xs
  obtain ⟨es, hes⟩ : ∃ es, es = (ssC (mkL (fun _ k => mkT k) (fun _ => 1) xs k)) := ⟨_, rfl⟩
  rw [← hes]
  have hel : es.length = xs.length := by rw [hes, List.length_map, mkL_len]
  refine fn_ok (E := EHe) τ_ok mixed Tryz.func91 (by rfl) (by rfl) false (by simp [Tryz.f91]) ?_
  conv => whnf
  refine ⟨fun m s => ∃ (i : Int), s = ⟨[(0, .vals false [.rd none 1 es]), (1, .vals false [.sc (.int .i64 (k + szL (fun _ => 1) (xs.take i.toNat)))]), (4, .vals false [.sc (.int .i64 0)]), (5, .vals false [.sc (.int .i64 i)])], [], []⟩ ∧ m = xs.length - i.toNat ∧ 0 ≤ i ∧ i ≤ xs.length,
    ⟨_, _, norm_wk (keep := [0, 1, 4, 5]) (kb := []) (ρ := []) rfl, ⟨0, by simp [szL], rfl, by omega, by omega⟩⟩, ?_⟩
  rintro m _ ⟨i, rfl, rfl, i0, i1⟩
  conv => whnf
  rw [hel]
  refine br_if (fun h => ?_) (fun h => ?_) <;> (try rw [h]) <;> (conv => whnf)
  · rw [ltI_t] at h
    obtain ⟨x, hx⟩ : ∃ x, xs[i.toNat]? = some x := ⟨_, List.getElem?_eq_getElem (by omega)⟩
    have hsucc := szL_succ (f := (fun _ => 1)) hx
    have htk := szL_take (f := (fun _ => 1)) (fun _ => by omega) xs (i.toNat + 1)
    have h00 := szL_nonneg (f := (fun _ => 1)) (fun _ => by omega) (xs.take i.toNat)
    generalize hK : k + szL (fun _ => 1) (xs.take i.toNat) = K
    have hrow : es[i.toNat]? = some [.sc (.string (mkT (K)))] := by rw [hes, List.getElem?_map, mkL_at (fun _ k => mkT k) (fun _ => 1) hx, hK]; rfl
    refine ⟨.one (.take 0 (.take 1 (.take 2 (.take 4 (.early 3 (.or 5 (.take 6 .done) .nil)))))), by rfl, ?_⟩
    conv => whnf
    refine ⟨i0, _, hrow, ?_⟩
    conv => whnf
    refine (markText_ok (K) (by omega)).mono ?_
    rintro _ _ ⟨rfl, rfl⟩
    conv => whnf
    refine ⟨rfl, ?_⟩
    conv => whnf
    rw [eqStr_self, hq0]
    conv => whnf
    rw [show wrp .i64 (K + 1) = K + 1 from (wrp_i64 (by omega) (by omega)).trans (by omega)]
    rw [wrp_i64 (x := i + 1) (by omega) (by omega)]
    have eK : k + szL (fun _ => 1) (xs.take (i.toNat + 1)) = K + 1 := by omega
    refine ⟨xs.length - (i + 1).toNat, _, by omega, norm_wk (keep := [0, 1, 4, 5]) (kb := []) (ρ := []) rfl, ⟨i + 1, ?_, rfl, by omega, by omega⟩⟩
    rw [show (i + 1).toNat = i.toNat + 1 by omega, eK]
    try rfl
  · rw [ltI_f] at h
    rw [List.take_of_length_le (by omega)]
    exact ⟨rfl, rfl⟩

set_option maxRecDepth 100000 in
set_option maxHeartbeats 4000000 in
theorem heldNodeS_ok (xs : List DNode) (k : Int) (h0 : 0 ≤ k) (hk : k + szL DNode.mz xs ≤ 1000000000) : FnV Tryz.prog 143 [.rdv false [.sl true 5 ((mkL DNode.me DNode.mz xs k).map DNode.c)], iV k] fun rs outs => rs = [iR (k + szL DNode.mz xs)] ∧ outs = [] := by
  have hl := szL_len (f := DNode.mz) (fun x => by show 1 ≤ 5; omega) xs
  obtain ⟨es, hes⟩ : ∃ es, es = ((mkL DNode.me DNode.mz xs k).map DNode.c) := ⟨_, rfl⟩
  rw [← hes]
  have hel : es.length = xs.length := by rw [hes, List.length_map, mkL_len]
  refine fn_ok (E := EHe) τ_ok mixed Tryz.func143 (by rfl) (by rfl) false (by simp [Tryz.f143]) ?_
  conv => whnf
  refine ⟨fun m s => ∃ (i : Int), s = ⟨[(0, .vals false [.rd none 5 es]), (1, .vals false [.sc (.int .i64 (k + szL DNode.mz (xs.take i.toNat)))]), (4, .vals false [.sc (.int .i64 0)]), (5, .vals false [.sc (.int .i64 i)])], [], []⟩ ∧ m = xs.length - i.toNat ∧ 0 ≤ i ∧ i ≤ xs.length,
    ⟨_, _, norm_wk (keep := [0, 1, 4, 5]) (kb := []) (ρ := []) rfl, ⟨0, by simp [szL], rfl, by omega, by omega⟩⟩, ?_⟩
  rintro m _ ⟨i, rfl, rfl, i0, i1⟩
  conv => whnf
  rw [hel]
  refine br_if (fun h => ?_) (fun h => ?_) <;> (try rw [h]) <;> (conv => whnf)
  · rw [ltI_t] at h
    obtain ⟨x, hx⟩ : ∃ x, xs[i.toNat]? = some x := ⟨_, List.getElem?_eq_getElem (by omega)⟩
    have hsucc := szL_succ (f := DNode.mz) hx
    have htk := szL_take (f := DNode.mz) DNode.mz_nonneg xs (i.toNat + 1)
    have h00 := szL_nonneg (f := DNode.mz) DNode.mz_nonneg (xs.take i.toNat)
    generalize hK : k + szL DNode.mz (xs.take i.toNat) = K
    have hrow : es[i.toNat]? = some [.sc (.int .i64 (K)), .sc (.int .i64 (K + 1)), .sc (.string (mkT (K + 2))), .sc (.int .i64 (K + 3)), .sc (.int .i64 (K + 4))] := by rw [hes, List.getElem?_map, mkL_at DNode.me DNode.mz hx, hK]; rfl
    have hmz : x.mz = 5 := rfl
    refine ⟨i0, _, hrow, ?_⟩
    conv => whnf
    rw [eqI_self, hq0]
    conv => whnf
    rw [show wrp .i64 (K + 1) = K + 1 from (wrp_i64 (by omega) (by omega)).trans (by omega)]
    refine ⟨i0, _, hrow, ?_⟩
    conv => whnf
    rw [eqI_self, hq0]
    conv => whnf
    rw [show wrp .i64 (K + 1 + 1) = K + 2 from (wrp_i64 (by omega) (by omega)).trans (by omega)]
    refine ⟨.one (.take 0 (.take 1 (.take 2 (.take 3 (.take 5 (.early 4 (.or 6 (.take 7 .done) .nil))))))), by rfl, ?_⟩
    conv => whnf
    refine ⟨i0, _, hrow, ?_⟩
    conv => whnf
    refine (markText_ok (K + 2) (by omega)).mono ?_
    rintro _ _ ⟨rfl, rfl⟩
    conv => whnf
    refine ⟨rfl, ?_⟩
    conv => whnf
    rw [eqStr_self, hq0]
    conv => whnf
    rw [show wrp .i64 (K + 2 + 1) = K + 3 from (wrp_i64 (by omega) (by omega)).trans (by omega)]
    refine ⟨i0, _, hrow, ?_⟩
    conv => whnf
    rw [eqI_self, hq0]
    conv => whnf
    rw [show wrp .i64 (K + 3 + 1) = K + 4 from (wrp_i64 (by omega) (by omega)).trans (by omega)]
    refine ⟨i0, _, hrow, ?_⟩
    conv => whnf
    rw [eqI_self, hq0]
    conv => whnf
    rw [show wrp .i64 (K + 4 + 1) = K + 5 from (wrp_i64 (by omega) (by omega)).trans (by omega)]
    rw [wrp_i64 (x := i + 1) (by omega) (by omega)]
    have eK : k + szL DNode.mz (xs.take (i.toNat + 1)) = K + 5 := by omega
    refine ⟨xs.length - (i + 1).toNat, _, by omega, norm_wk (keep := [0, 1, 4, 5]) (kb := []) (ρ := []) rfl, ⟨i + 1, ?_, rfl, by omega, by omega⟩⟩
    rw [show (i + 1).toNat = i.toNat + 1 by omega, eK]
    try rfl
  · rw [ltI_f] at h
    rw [List.take_of_length_le (by omega)]
    exact ⟨rfl, rfl⟩

set_option maxRecDepth 100000 in
set_option maxHeartbeats 4000000 in
theorem heldInstrS_ok (xs : List DInstr) (k : Int) (h0 : 0 ≤ k) (hk : k + szL DInstr.mz xs ≤ 1000000000) : FnV Tryz.prog 141 [.rdv false [.sl true 4 ((mkL DInstr.me DInstr.mz xs k).map DInstr.c)], iV k] fun rs outs => rs = [iR (k + szL DInstr.mz xs)] ∧ outs = [] := by
  have hl := szL_len (f := DInstr.mz) (fun x => by show 1 ≤ 4; omega) xs
  obtain ⟨es, hes⟩ : ∃ es, es = ((mkL DInstr.me DInstr.mz xs k).map DInstr.c) := ⟨_, rfl⟩
  rw [← hes]
  have hel : es.length = xs.length := by rw [hes, List.length_map, mkL_len]
  refine fn_ok (E := EHe) τ_ok mixed Tryz.func141 (by rfl) (by rfl) false (by simp [Tryz.f141]) ?_
  conv => whnf
  refine ⟨fun m s => ∃ (i : Int), s = ⟨[(0, .vals false [.rd none 4 es]), (1, .vals false [.sc (.int .i64 (k + szL DInstr.mz (xs.take i.toNat)))]), (4, .vals false [.sc (.int .i64 0)]), (5, .vals false [.sc (.int .i64 i)])], [], []⟩ ∧ m = xs.length - i.toNat ∧ 0 ≤ i ∧ i ≤ xs.length,
    ⟨_, _, norm_wk (keep := [0, 1, 4, 5]) (kb := []) (ρ := []) rfl, ⟨0, by simp [szL], rfl, by omega, by omega⟩⟩, ?_⟩
  rintro m _ ⟨i, rfl, rfl, i0, i1⟩
  conv => whnf
  rw [hel]
  refine br_if (fun h => ?_) (fun h => ?_) <;> (try rw [h]) <;> (conv => whnf)
  · rw [ltI_t] at h
    obtain ⟨x, hx⟩ : ∃ x, xs[i.toNat]? = some x := ⟨_, List.getElem?_eq_getElem (by omega)⟩
    have hsucc := szL_succ (f := DInstr.mz) hx
    have htk := szL_take (f := DInstr.mz) DInstr.mz_nonneg xs (i.toNat + 1)
    have h00 := szL_nonneg (f := DInstr.mz) DInstr.mz_nonneg (xs.take i.toNat)
    generalize hK : k + szL DInstr.mz (xs.take i.toNat) = K
    have hrow : es[i.toNat]? = some [.sc (.int .i64 (K)), .sc (.int .i64 (K + 1)), .sc (.int .i64 (K + 2)), .sc (.string (mkT (K + 3)))] := by rw [hes, List.getElem?_map, mkL_at DInstr.me DInstr.mz hx, hK]; rfl
    have hmz : x.mz = 4 := rfl
    refine ⟨i0, _, hrow, ?_⟩
    conv => whnf
    rw [eqI_self, hq0]
    conv => whnf
    rw [show wrp .i64 (K + 1) = K + 1 from (wrp_i64 (by omega) (by omega)).trans (by omega)]
    refine ⟨i0, _, hrow, ?_⟩
    conv => whnf
    rw [eqI_self, hq0]
    conv => whnf
    rw [show wrp .i64 (K + 1 + 1) = K + 2 from (wrp_i64 (by omega) (by omega)).trans (by omega)]
    refine ⟨i0, _, hrow, ?_⟩
    conv => whnf
    rw [eqI_self, hq0]
    conv => whnf
    rw [show wrp .i64 (K + 2 + 1) = K + 3 from (wrp_i64 (by omega) (by omega)).trans (by omega)]
    refine ⟨.one (.take 0 (.take 1 (.take 2 (.take 3 (.take 5 (.early 4 (.or 6 (.take 7 .done) .nil))))))), by rfl, ?_⟩
    conv => whnf
    refine ⟨i0, _, hrow, ?_⟩
    conv => whnf
    refine (markText_ok (K + 3) (by omega)).mono ?_
    rintro _ _ ⟨rfl, rfl⟩
    conv => whnf
    refine ⟨rfl, ?_⟩
    conv => whnf
    rw [eqStr_self, hq0]
    conv => whnf
    rw [show wrp .i64 (K + 3 + 1) = K + 4 from (wrp_i64 (by omega) (by omega)).trans (by omega)]
    rw [wrp_i64 (x := i + 1) (by omega) (by omega)]
    have eK : k + szL DInstr.mz (xs.take (i.toNat + 1)) = K + 4 := by omega
    refine ⟨xs.length - (i + 1).toNat, _, by omega, norm_wk (keep := [0, 1, 4, 5]) (kb := []) (ρ := []) rfl, ⟨i + 1, ?_, rfl, by omega, by omega⟩⟩
    rw [show (i + 1).toNat = i.toNat + 1 by omega, eK]
    try rfl
  · rw [ltI_f] at h
    rw [List.take_of_length_le (by omega)]
    exact ⟨rfl, rfl⟩

set_option maxRecDepth 100000 in
set_option maxHeartbeats 4000000 in
theorem heldDefS_ok (xs : List DDef) (k : Int) (h0 : 0 ≤ k) (hk : k + szL DDef.mz xs ≤ 1000000000) : FnV Tryz.prog 142 [.rdv false [.sl true 3 ((mkL DDef.me DDef.mz xs k).map DDef.c)], iV k] fun rs outs => rs = [iR (k + szL DDef.mz xs)] ∧ outs = [] := by
  have hl := szL_len (f := DDef.mz) (fun x => by show 1 ≤ 3; omega) xs
  obtain ⟨es, hes⟩ : ∃ es, es = ((mkL DDef.me DDef.mz xs k).map DDef.c) := ⟨_, rfl⟩
  rw [← hes]
  have hel : es.length = xs.length := by rw [hes, List.length_map, mkL_len]
  refine fn_ok (E := EHe) τ_ok mixed Tryz.func142 (by rfl) (by rfl) false (by simp [Tryz.f142]) ?_
  conv => whnf
  refine ⟨fun m s => ∃ (i : Int), s = ⟨[(0, .vals false [.rd none 3 es]), (1, .vals false [.sc (.int .i64 (k + szL DDef.mz (xs.take i.toNat)))]), (4, .vals false [.sc (.int .i64 0)]), (5, .vals false [.sc (.int .i64 i)])], [], []⟩ ∧ m = xs.length - i.toNat ∧ 0 ≤ i ∧ i ≤ xs.length,
    ⟨_, _, norm_wk (keep := [0, 1, 4, 5]) (kb := []) (ρ := []) rfl, ⟨0, by simp [szL], rfl, by omega, by omega⟩⟩, ?_⟩
  rintro m _ ⟨i, rfl, rfl, i0, i1⟩
  conv => whnf
  rw [hel]
  refine br_if (fun h => ?_) (fun h => ?_) <;> (try rw [h]) <;> (conv => whnf)
  · rw [ltI_t] at h
    obtain ⟨x, hx⟩ : ∃ x, xs[i.toNat]? = some x := ⟨_, List.getElem?_eq_getElem (by omega)⟩
    have hsucc := szL_succ (f := DDef.mz) hx
    have htk := szL_take (f := DDef.mz) DDef.mz_nonneg xs (i.toNat + 1)
    have h00 := szL_nonneg (f := DDef.mz) DDef.mz_nonneg (xs.take i.toNat)
    generalize hK : k + szL DDef.mz (xs.take i.toNat) = K
    have hrow : es[i.toNat]? = some [.sc (.string (mkT (K))), .sc (.int .i64 (K + 1)), .sc (.int .i64 (K + 2))] := by rw [hes, List.getElem?_map, mkL_at DDef.me DDef.mz hx, hK]; rfl
    have hmz : x.mz = 3 := rfl
    refine ⟨.one (.take 0 (.take 1 (.take 2 (.take 3 (.take 5 (.early 4 (.or 6 (.take 7 .done) .nil))))))), by rfl, ?_⟩
    conv => whnf
    refine ⟨i0, _, hrow, ?_⟩
    conv => whnf
    refine (markText_ok (K) (by omega)).mono ?_
    rintro _ _ ⟨rfl, rfl⟩
    conv => whnf
    refine ⟨rfl, ?_⟩
    conv => whnf
    rw [eqStr_self, hq0]
    conv => whnf
    rw [show wrp .i64 (K + 1) = K + 1 from (wrp_i64 (by omega) (by omega)).trans (by omega)]
    refine ⟨i0, _, hrow, ?_⟩
    conv => whnf
    rw [eqI_self, hq0]
    conv => whnf
    rw [show wrp .i64 (K + 1 + 1) = K + 2 from (wrp_i64 (by omega) (by omega)).trans (by omega)]
    refine ⟨i0, _, hrow, ?_⟩
    conv => whnf
    rw [eqI_self, hq0]
    conv => whnf
    rw [show wrp .i64 (K + 2 + 1) = K + 3 from (wrp_i64 (by omega) (by omega)).trans (by omega)]
    rw [wrp_i64 (x := i + 1) (by omega) (by omega)]
    have eK : k + szL DDef.mz (xs.take (i.toNat + 1)) = K + 3 := by omega
    refine ⟨xs.length - (i + 1).toNat, _, by omega, norm_wk (keep := [0, 1, 4, 5]) (kb := []) (ρ := []) rfl, ⟨i + 1, ?_, rfl, by omega, by omega⟩⟩
    rw [show (i + 1).toNat = i.toNat + 1 by omega, eK]
    try rfl
  · rw [ltI_f] at h
    rw [List.take_of_length_le (by omega)]
    exact ⟨rfl, rfl⟩

end Go.Proofs.YtifodjnbcnbcpaaGreat.V

set_option linter.unusedVariables false

set_option linter.unusedSimpArgs false

namespace Go.Proofs.YtifodjnbcnbcpaaGreat.V

open Go

def MdEVm (f : Nat) : List Mode :=
  match f with
  | 64 => [.mv [true], .rd]
  | 65 => [.mi, .rd]
  | 66 => [.mi, .rd]
  | 88 => [.mv [true, false, false, false, false, false, false, false], .rd]
  | 89 => [.mi, .rd]
  | 137 => [.mi, .rd]
  | _ => []

def EVm : Env := ⟨τ, MdEVm⟩

def oC (cs : List C) : List C :=
  match cs with
  | [] => []
  | .sl true n es :: r => .sl true n es :: oC r
  | _ :: r => .any :: oC r

theorem mk_eq {x y : Int} {o o' : List (List C)} (h : x = y) (h2 : o = o') : [iR x] = [iR y] ∧ o = o' := ⟨by rw [h], h2⟩

set_option maxRecDepth 100000 in
theorem markPool_ok (a : DPool) (k : Int) (h0 : 0 ≤ k) (hk : k + a.wz ≤ 1000000000) : FnV Tryz.prog 64 [.mv true a.c, iV k] fun rs outs => rs = [iR (k + a.wz)] ∧ outs = [oC (a.mw k).c] := by
  unfold DPool.wz at hk
  refine fn_ok (E := EVm) τ_ok mixed Tryz.func64 (by rfl) (by rfl) false (by simp [Tryz.f64]) ?_
  conv => whnf
  refine (markNodeS_ok a.xNodes k h0 hk).mono ?_
  rintro _ _ ⟨rfl, rfl⟩
  conv => whnf
  exact ⟨rfl, rfl⟩

set_option maxRecDepth 100000 in
theorem markCode_ok (a : DCode) (k : Int) (h0 : 0 ≤ k) (hk : k + a.wz ≤ 1000000000) : FnV Tryz.prog 15 [.mv true a.c, iV k] fun rs outs => rs = [iR (k + a.wz)] ∧ outs = [oC (a.mw k).c] := by
  have n1 := szL_nonneg DNode.mz_nonneg a.xPool.xNodes
  have n2 := szL_nonneg DInstr.mz_nonneg a.xList
  have n3 := szL_nonneg DDef.mz_nonneg a.xDefs
  have e : a.wz = szL DNode.mz a.xPool.xNodes + szL DInstr.mz a.xList + szL DDef.mz a.xDefs := rfl
  have e1 : a.xPool.wz = szL DNode.mz a.xPool.xNodes := rfl
  refine fn_ok (E := EVm) τ_ok mixed Tryz.func15 (by rfl) (by rfl) false (by simp [Tryz.f15]) ?_
  conv => whnf
  refine (markPool_ok a.xPool k h0 (by omega)).mono ?_
  rintro _ _ ⟨rfl, rfl⟩
  conv => whnf
  refine (markInstrS_ok a.xList (k + a.xPool.wz) (by omega) (by omega)).mono ?_
  rintro _ _ ⟨rfl, rfl⟩
  conv => whnf
  refine (markDefS_ok a.xDefs (k + a.xPool.wz + szL DInstr.mz a.xList) (by omega) (by omega)).mono ?_
  rintro _ _ ⟨rfl, rfl⟩
  conv => whnf
  exact mk_eq (by omega) rfl

end Go.Proofs.YtifodjnbcnbcpaaGreat.V

set_option linter.unusedVariables false

set_option linter.unusedSimpArgs false

namespace Go.Proofs.YtifodjnbcnbcpaaGreat.V

open Go

def MdEMkB (f : Nat) : List Mode :=
  match f with
  | 89 => [.mi, .rd]
  | 137 => [.mi, .rd]
  | 138 => [.rd]
  | 139 => [.mi, .rd]
  | _ => []

def EMkB : Env := ⟨τ, MdEMkB⟩

set_option maxRecDepth 100000 in
set_option maxHeartbeats 4000000 in
theorem markPieceS_ok (xs : List DPiece) (k : Int) (h0 : 0 ≤ k) (hk : k + szL DPiece.mz xs ≤ 1000000000) : FnV Tryz.prog 139 [.mv false [.sl true 2 (xs.map DPiece.c)], iV k] fun rs outs => rs = [iR (k + szL DPiece.mz xs)] ∧ outs = [[.sl true 2 ((mkL DPiece.me DPiece.mz xs k).map DPiece.c)]] := by
  have hl := szL_len (f := DPiece.mz) (fun x => by show 1 ≤ 2; omega) xs
  refine fn_ok (E := EMkB) τ_ok mixed Tryz.func139 (by rfl) (by rfl) false (by simp [Tryz.f139]) ?_
  conv => whnf
  refine ⟨fun m s => ∃ (i : Int) (es : List (List C)), s = ⟨[(0, .vals false [.ref 3000000 0]), (1, .vals false [.sc (.int .i64 (k + szL DPiece.mz (xs.take i.toNat)))]), (4, .vals false [.sc (.int .i64 0)]), (5, .vals false [.sc (.int .i64 i)])], [], [(3000000, ⟨true, 0, 0, true, 2, es⟩)]⟩ ∧ m = xs.length - i.toNat ∧ 0 ≤ i ∧ i ≤ xs.length ∧ es = (mkTo DPiece.me DPiece.mz xs k i.toNat).map DPiece.c,
    ⟨_, _, norm_wk (keep := [0, 1, 4, 5]) (kb := []) (ρ := [(3000000, some 3000000)]) rfl, ⟨0, _, by simp [szL]; rfl, rfl, by omega, by omega, by simp [mkTo_zero]⟩⟩, ?_⟩
  rintro m _ ⟨i, es, rfl, rfl, i0, i1, he⟩
  have hel : es.length = xs.length := by rw [he, List.length_map, mkTo_len]
  conv => whnf
  rw [hel]
  refine br_if (fun h => ?_) (fun h => ?_) <;> (try rw [h]) <;> (conv => whnf)
  · rw [ltI_t] at h
    obtain ⟨x, hx⟩ : ∃ x, xs[i.toNat]? = some x := ⟨_, List.getElem?_eq_getElem (by omega)⟩
    have hrow : es[i.toNat]? = some (DPiece.c x) := by rw [he, List.getElem?_map, mkTo_at DPiece.me DPiece.mz hx]; rfl
    have hsucc := szL_succ (f := DPiece.mz) hx
    have htk := szL_take (f := DPiece.mz) DPiece.mz_nonneg xs (i.toNat + 1)
    have h00 := szL_nonneg (f := DPiece.mz) DPiece.mz_nonneg (xs.take i.toNat)
    have hmz : x.mz = 2 := rfl
    have hin : i.toNat < es.length := by omega
    generalize hK : k + szL DPiece.mz (xs.take i.toNat) = K
    refine ⟨i0, by simp only [List.length_set]; omega, ?_⟩
    conv => whnf
    refine ⟨[.sc (.int .i64 x.xNo), .sc (.string x.xText)], hrow, ?_⟩
    conv => whnf
    rw [show wrp .i64 (K + 1) = K + 1 from (wrp_i64 (by omega) (by omega)).trans (by omega)]
    refine (markText_ok (K + 1) (by omega)).mono ?_
    rintro _ _ ⟨rfl, rfl⟩
    conv => whnf
    refine ⟨i0, by simp only [List.length_set]; omega, ?_⟩
    conv => whnf
    refine ⟨[.sc (.int .i64 (K)), .sc (.string x.xText)], List.getElem?_set_self (by simp only [List.length_set]; omega), ?_⟩
    conv => whnf
    rw [show wrp .i64 (K + 1 + 1) = K + 2 from (wrp_i64 (by omega) (by omega)).trans (by omega)]
    rw [wrp_i64 (x := i + 1) (by omega) (by omega)]
    have eK : k + szL DPiece.mz (xs.take (i.toNat + 1)) = K + 2 := by omega
    have fin : es.set i.toNat [.sc (.int .i64 (K)), .sc (.string (mkT (K + 1)))] = (mkTo DPiece.me DPiece.mz xs k (i + 1).toNat).map DPiece.c := by
      rw [show (i + 1).toNat = i.toNat + 1 by omega, ← mkTo_set DPiece.me DPiece.mz hx k, List.map_set, ← he, hK]
      try rfl
    refine ⟨xs.length - (i + 1).toNat, ?_⟩
    apply Exists.intro
    refine ⟨by omega, ?_, ?_⟩
    · exact norm_wk (keep := [0, 1, 4, 5]) (kb := []) (ρ := [(3000000, some 3000000)]) rfl
    refine ⟨i + 1, es.set i.toNat [.sc (.int .i64 (K)), .sc (.string (mkT (K + 1)))], ?_, rfl, by omega, by omega, fin⟩
    rw [show (i + 1).toNat = i.toNat + 1 by omega, eK]
    simp only [List.set_set]
    rfl
  · rw [ltI_f] at h
    rw [List.take_of_length_le (by omega)]
    rw [mkTo_all _ _ _ _ (by omega)] at he
    rw [he]
    exact ⟨rfl, rfl⟩

set_option maxRecDepth 100000 in
set_option maxHeartbeats 4000000 in
theorem markLinkS_ok (xs : List DLink) (k : Int) (h0 : 0 ≤ k) (hk : k + szL DLink.mz xs ≤ 1000000000) : FnV Tryz.prog 68 [.mv false [.sl true 5 (xs.map DLink.c)], iV k] fun rs outs => rs = [iR (k + szL DLink.mz xs)] ∧ outs = [[.sl true 5 ((mkL DLink.me DLink.mz xs k).map DLink.c)]] := by
  have hl := szL_len (f := DLink.mz) (fun x => by have := mzS_nonneg x.xQueue; have := szL_nonneg DPiece.mz_nonneg x.xHeld; show 1 ≤ 3 + mzS x.xQueue + szL DPiece.mz x.xHeld; omega) xs
  refine fn_ok (E := EMkB) τ_ok mixed Tryz.func68 (by rfl) (by rfl) false (by simp [Tryz.f68]) ?_
  conv => whnf
  refine ⟨fun m s => ∃ (i : Int) (es : List (List C)), s = ⟨[(0, .vals false [.ref 3000000 0]), (1, .vals false [.sc (.int .i64 (k + szL DLink.mz (xs.take i.toNat)))]), (4, .vals false [.sc (.int .i64 0)]), (5, .vals false [.sc (.int .i64 i)])], [], [(3000000, ⟨true, 0, 0, true, 5, es⟩)]⟩ ∧ m = xs.length - i.toNat ∧ 0 ≤ i ∧ i ≤ xs.length ∧ es = (mkTo DLink.me DLink.mz xs k i.toNat).map DLink.c,
    ⟨_, _, norm_wk (keep := [0, 1, 4, 5]) (kb := []) (ρ := [(3000000, some 3000000)]) rfl, ⟨0, _, by simp [szL]; rfl, rfl, by omega, by omega, by simp [mkTo_zero]⟩⟩, ?_⟩
  rintro m _ ⟨i, es, rfl, rfl, i0, i1, he⟩
  have hel : es.length = xs.length := by rw [he, List.length_map, mkTo_len]
  conv => whnf
  rw [hel]
  refine br_if (fun h => ?_) (fun h => ?_) <;> (try rw [h]) <;> (conv => whnf)
  · rw [ltI_t] at h
    obtain ⟨x, hx⟩ : ∃ x, xs[i.toNat]? = some x := ⟨_, List.getElem?_eq_getElem (by omega)⟩
    have hrow : es[i.toNat]? = some (DLink.c x) := by rw [he, List.getElem?_map, mkTo_at DLink.me DLink.mz hx]; rfl
    have hsucc := szL_succ (f := DLink.mz) hx
    have htk := szL_take (f := DLink.mz) DLink.mz_nonneg xs (i.toNat + 1)
    have h00 := szL_nonneg (f := DLink.mz) DLink.mz_nonneg (xs.take i.toNat)
    have := mzS_nonneg x.xQueue
    have := szL_nonneg DPiece.mz_nonneg x.xHeld
    have hmz : x.mz = 3 + mzS x.xQueue + szL DPiece.mz x.xHeld := rfl
    have hin : i.toNat < es.length := by omega
    generalize hK : k + szL DLink.mz (xs.take i.toNat) = K
    refine ⟨i0, by simp only [List.length_set]; omega, ?_⟩
    conv => whnf
    refine ⟨[.sc (.int .i64 x.xSent), .sc (.int .i64 x.xAcked), .sl true 1 (ssC x.xQueue), .sc (.int .i64 x.xGot), .sl true 2 (x.xHeld.map DPiece.c)], hrow, ?_⟩
    conv => whnf
    rw [show wrp .i64 (K + 1) = K + 1 from (wrp_i64 (by omega) (by omega)).trans (by omega)]
    refine ⟨i0, by simp only [List.length_set]; omega, ?_⟩
    conv => whnf
    refine ⟨[.sc (.int .i64 (K)), .sc (.int .i64 x.xAcked), .sl true 1 (ssC x.xQueue), .sc (.int .i64 x.xGot), .sl true 2 (x.xHeld.map DPiece.c)], List.getElem?_set_self (by simp only [List.length_set]; omega), ?_⟩
    conv => whnf
    rw [show wrp .i64 (K + 1 + 1) = K + 2 from (wrp_i64 (by omega) (by omega)).trans (by omega)]
    refine ⟨i0, by simp only [List.length_set]; omega, ?_⟩
    conv => whnf
    refine ⟨[.sc (.int .i64 (K)), .sc (.int .i64 (K + 1)), .sl true 1 (ssC x.xQueue), .sc (.int .i64 x.xGot), .sl true 2 (x.xHeld.map DPiece.c)], List.getElem?_set_self (by simp only [List.length_set]; omega), ?_⟩
    conv => whnf
    refine ⟨[.sc (.int .i64 (K)), .sc (.int .i64 (K + 1)), .sl true 1 (ssC x.xQueue), .sc (.int .i64 x.xGot), .sl true 2 (x.xHeld.map DPiece.c)], _, _, List.getElem?_set_self (by simp only [List.length_set]; omega), rfl, ?_⟩
    conv => whnf
    refine (markStringS_ok x.xQueue (K + 2) (by omega) (by omega)).mono ?_
    rintro _ _ ⟨rfl, rfl⟩
    conv => whnf
    refine ⟨[.sc (.int .i64 (K)), .sc (.int .i64 (K + 1)), .any, .sc (.int .i64 x.xGot), .sl true 2 (x.xHeld.map DPiece.c)], List.getElem?_set_self (by simp only [List.length_set]; omega), of_decide_eq_true rfl, ?_⟩
    conv => whnf
    refine ⟨i0, by simp only [List.length_set]; omega, ?_⟩
    conv => whnf
    refine ⟨[.sc (.int .i64 (K)), .sc (.int .i64 (K + 1)), .sl true 1 (ssC (mkS x.xQueue (K + 2))), .sc (.int .i64 x.xGot), .sl true 2 (x.xHeld.map DPiece.c)], List.getElem?_set_self (by simp only [List.length_set]; omega), ?_⟩
    conv => whnf
    rw [show wrp .i64 (K + 2 + mzS x.xQueue + 1) = K + 3 + mzS x.xQueue from (wrp_i64 (by omega) (by omega)).trans (by omega)]
    refine ⟨i0, by simp only [List.length_set]; omega, ?_⟩
    conv => whnf
    refine ⟨[.sc (.int .i64 (K)), .sc (.int .i64 (K + 1)), .sl true 1 (ssC (mkS x.xQueue (K + 2))), .sc (.int .i64 (K + 2 + mzS x.xQueue)), .sl true 2 (x.xHeld.map DPiece.c)], List.getElem?_set_self (by simp only [List.length_set]; omega), ?_⟩
    conv => whnf
    refine ⟨[.sc (.int .i64 (K)), .sc (.int .i64 (K + 1)), .sl true 1 (ssC (mkS x.xQueue (K + 2))), .sc (.int .i64 (K + 2 + mzS x.xQueue)), .sl true 2 (x.xHeld.map DPiece.c)], _, _, List.getElem?_set_self (by simp only [List.length_set]; omega), rfl, ?_⟩
    conv => whnf
    refine (markPieceS_ok x.xHeld (K + 3 + mzS x.xQueue) (by omega) (by omega)).mono ?_
    rintro _ _ ⟨rfl, rfl⟩
    conv => whnf
    refine ⟨[.sc (.int .i64 (K)), .sc (.int .i64 (K + 1)), .sl true 1 (ssC (mkS x.xQueue (K + 2))), .sc (.int .i64 (K + 2 + mzS x.xQueue)), .any], List.getElem?_set_self (by simp only [List.length_set]; omega), of_decide_eq_true rfl, ?_⟩
    conv => whnf
    rw [wrp_i64 (x := i + 1) (by omega) (by omega)]
    have eK : k + szL DLink.mz (xs.take (i.toNat + 1)) = K + 3 + mzS x.xQueue + szL DPiece.mz x.xHeld := by omega
    have fin : es.set i.toNat [.sc (.int .i64 (K)), .sc (.int .i64 (K + 1)), .sl true 1 (ssC (mkS x.xQueue (K + 2))), .sc (.int .i64 (K + 2 + mzS x.xQueue)), .sl true 2 ((mkL DPiece.me DPiece.mz x.xHeld (K + 3 + mzS x.xQueue)).map DPiece.c)] = (mkTo DLink.me DLink.mz xs k (i + 1).toNat).map DLink.c := by
      rw [show (i + 1).toNat = i.toNat + 1 by omega, ← mkTo_set DLink.me DLink.mz hx k, List.map_set, ← he, hK]
      try rfl
    refine ⟨xs.length - (i + 1).toNat, ?_⟩
    apply Exists.intro
    refine ⟨by omega, ?_, ?_⟩
    · exact norm_wk (keep := [0, 1, 4, 5]) (kb := []) (ρ := [(3000000, some 3000000)]) rfl
    refine ⟨i + 1, es.set i.toNat [.sc (.int .i64 (K)), .sc (.int .i64 (K + 1)), .sl true 1 (ssC (mkS x.xQueue (K + 2))), .sc (.int .i64 (K + 2 + mzS x.xQueue)), .sl true 2 ((mkL DPiece.me DPiece.mz x.xHeld (K + 3 + mzS x.xQueue)).map DPiece.c)], ?_, rfl, by omega, by omega, fin⟩
    rw [show (i + 1).toNat = i.toNat + 1 by omega, eK]
    simp only [List.set_set]
    rfl
  · rw [ltI_f] at h
    rw [List.take_of_length_le (by omega)]
    rw [mkTo_all _ _ _ _ (by omega)] at he
    rw [he]
    exact ⟨rfl, rfl⟩

set_option maxRecDepth 100000 in
set_option maxHeartbeats 4000000 in
theorem markHomeS_ok (xs : List DHome) (k : Int) (h0 : 0 ≤ k) (hk : k + szL DHome.mz xs ≤ 1000000000) : FnV Tryz.prog 67 [.mv false [.sl true 12 (xs.map DHome.c)], iV k] fun rs outs => rs = [iR (k + szL DHome.mz xs)] ∧ outs = [[.sl true 12 ((mkL DHome.me DHome.mz xs k).map DHome.c)]] := by
  have hl := szL_len (f := DHome.mz) (fun x => by have := szL_nonneg DNode.mz_nonneg x.xP.xM.xPool.xNodes; have := mzS_nonneg x.xP.xBox; have := mzS_nonneg x.xP.xOut; show 1 ≤ 9 + szL DNode.mz x.xP.xM.xPool.xNodes + mzS x.xP.xBox + mzS x.xP.xOut; omega) xs
  refine fn_ok (E := EMkB) τ_ok mixed Tryz.func67 (by rfl) (by rfl) false (by simp [Tryz.f67]) ?_
  conv => whnf
  refine ⟨fun m s => ∃ (i : Int) (es : List (List C)), s = ⟨[(0, .vals false [.ref 3000000 0]), (1, .vals false [.sc (.int .i64 (k + szL DHome.mz (xs.take i.toNat)))]), (4, .vals false [.sc (.int .i64 0)]), (5, .vals false [.sc (.int .i64 i)])], [], [(3000000, ⟨true, 0, 0, true, 12, es⟩)]⟩ ∧ m = xs.length - i.toNat ∧ 0 ≤ i ∧ i ≤ xs.length ∧ es = (mkTo DHome.me DHome.mz xs k i.toNat).map DHome.c,
    ⟨_, _, norm_wk (keep := [0, 1, 4, 5]) (kb := []) (ρ := [(3000000, some 3000000)]) rfl, ⟨0, _, by simp [szL]; rfl, rfl, by omega, by omega, by simp [mkTo_zero]⟩⟩, ?_⟩
  rintro m _ ⟨i, es, rfl, rfl, i0, i1, he⟩
  have hel : es.length = xs.length := by rw [he, List.length_map, mkTo_len]
  conv => whnf
  rw [hel]
  refine br_if (fun h => ?_) (fun h => ?_) <;> (try rw [h]) <;> (conv => whnf)
  · rw [ltI_t] at h
    obtain ⟨x, hx⟩ : ∃ x, xs[i.toNat]? = some x := ⟨_, List.getElem?_eq_getElem (by omega)⟩
    have hrow : es[i.toNat]? = some (DHome.c x) := by rw [he, List.getElem?_map, mkTo_at DHome.me DHome.mz hx]; rfl
    have hsucc := szL_succ (f := DHome.mz) hx
    have htk := szL_take (f := DHome.mz) DHome.mz_nonneg xs (i.toNat + 1)
    have h00 := szL_nonneg (f := DHome.mz) DHome.mz_nonneg (xs.take i.toNat)
    have := szL_nonneg DNode.mz_nonneg x.xP.xM.xPool.xNodes
    have := mzS_nonneg x.xP.xBox
    have := mzS_nonneg x.xP.xOut
    have hmz : x.mz = 9 + szL DNode.mz x.xP.xM.xPool.xNodes + mzS x.xP.xBox + mzS x.xP.xOut := rfl
    have hin : i.toNat < es.length := by omega
    generalize hK : k + szL DHome.mz (xs.take i.toNat) = K
    refine ⟨i0, by simp only [List.length_set]; omega, ?_⟩
    conv => whnf
    refine ⟨[.sc (.int .i64 x.xAt), .sc (.int .i64 x.xP.xPid), .sl true 5 (x.xP.xM.xPool.xNodes.map DNode.c), .sc (.int .i64 x.xP.xM.xAt), .sc (.int .i64 x.xP.xM.xS), .sc (.int .i64 x.xP.xM.xE), .sc (.int .i64 x.xP.xM.xD), .sc (.int .i64 x.xP.xM.xState), .sc (.int .i64 x.xP.xM.xAsk), .sc (.int .i64 x.xP.xM.xArg), .sl true 1 (ssC x.xP.xBox), .sl true 1 (ssC x.xP.xOut)], hrow, ?_⟩
    conv => whnf
    rw [show wrp .i64 (K + 1) = K + 1 from (wrp_i64 (by omega) (by omega)).trans (by omega)]
    refine ⟨i0, by simp only [List.length_set]; omega, ?_⟩
    conv => whnf
    refine ⟨[.sc (.int .i64 (K)), .sc (.int .i64 x.xP.xPid), .sl true 5 (x.xP.xM.xPool.xNodes.map DNode.c), .sc (.int .i64 x.xP.xM.xAt), .sc (.int .i64 x.xP.xM.xS), .sc (.int .i64 x.xP.xM.xE), .sc (.int .i64 x.xP.xM.xD), .sc (.int .i64 x.xP.xM.xState), .sc (.int .i64 x.xP.xM.xAsk), .sc (.int .i64 x.xP.xM.xArg), .sl true 1 (ssC x.xP.xBox), .sl true 1 (ssC x.xP.xOut)], List.getElem?_set_self (by simp only [List.length_set]; omega), ?_⟩
    conv => whnf
    rw [show wrp .i64 (K + 1 + 1) = K + 2 from (wrp_i64 (by omega) (by omega)).trans (by omega)]
    refine ⟨i0, by simp only [List.length_set]; omega, ?_⟩
    conv => whnf
    refine ⟨[.sc (.int .i64 (K)), .sc (.int .i64 (K + 1)), .sl true 5 (x.xP.xM.xPool.xNodes.map DNode.c), .sc (.int .i64 x.xP.xM.xAt), .sc (.int .i64 x.xP.xM.xS), .sc (.int .i64 x.xP.xM.xE), .sc (.int .i64 x.xP.xM.xD), .sc (.int .i64 x.xP.xM.xState), .sc (.int .i64 x.xP.xM.xAsk), .sc (.int .i64 x.xP.xM.xArg), .sl true 1 (ssC x.xP.xBox), .sl true 1 (ssC x.xP.xOut)], List.getElem?_set_self (by simp only [List.length_set]; omega), ?_⟩
    conv => whnf
    refine ⟨[.sc (.int .i64 (K)), .sc (.int .i64 (K + 1)), .sl true 5 (x.xP.xM.xPool.xNodes.map DNode.c), .sc (.int .i64 x.xP.xM.xAt), .sc (.int .i64 x.xP.xM.xS), .sc (.int .i64 x.xP.xM.xE), .sc (.int .i64 x.xP.xM.xD), .sc (.int .i64 x.xP.xM.xState), .sc (.int .i64 x.xP.xM.xAsk), .sc (.int .i64 x.xP.xM.xArg), .sl true 1 (ssC x.xP.xBox), .sl true 1 (ssC x.xP.xOut)], _, _, List.getElem?_set_self (by simp only [List.length_set]; omega), rfl, ?_⟩
    conv => whnf
    refine (markNodeS_ok x.xP.xM.xPool.xNodes (K + 2) (by omega) (by omega)).mono ?_
    rintro _ _ ⟨rfl, rfl⟩
    conv => whnf
    refine ⟨[.sc (.int .i64 (K)), .sc (.int .i64 (K + 1)), .any, .sc (.int .i64 x.xP.xM.xAt), .sc (.int .i64 x.xP.xM.xS), .sc (.int .i64 x.xP.xM.xE), .sc (.int .i64 x.xP.xM.xD), .sc (.int .i64 x.xP.xM.xState), .sc (.int .i64 x.xP.xM.xAsk), .sc (.int .i64 x.xP.xM.xArg), .sl true 1 (ssC x.xP.xBox), .sl true 1 (ssC x.xP.xOut)], List.getElem?_set_self (by simp only [List.length_set]; omega), of_decide_eq_true rfl, ?_⟩
    conv => whnf
    refine ⟨i0, by simp only [List.length_set]; omega, ?_⟩
    conv => whnf
    refine ⟨[.sc (.int .i64 (K)), .sc (.int .i64 (K + 1)), .sl true 5 ((mkL DNode.me DNode.mz x.xP.xM.xPool.xNodes (K + 2)).map DNode.c), .sc (.int .i64 x.xP.xM.xAt), .sc (.int .i64 x.xP.xM.xS), .sc (.int .i64 x.xP.xM.xE), .sc (.int .i64 x.xP.xM.xD), .sc (.int .i64 x.xP.xM.xState), .sc (.int .i64 x.xP.xM.xAsk), .sc (.int .i64 x.xP.xM.xArg), .sl true 1 (ssC x.xP.xBox), .sl true 1 (ssC x.xP.xOut)], List.getElem?_set_self (by simp only [List.length_set]; omega), ?_⟩
    conv => whnf
    rw [show wrp .i64 (K + 2 + szL DNode.mz x.xP.xM.xPool.xNodes + 1) = K + 3 + szL DNode.mz x.xP.xM.xPool.xNodes from (wrp_i64 (by omega) (by omega)).trans (by omega)]
    refine ⟨i0, by simp only [List.length_set]; omega, ?_⟩
    conv => whnf
    refine ⟨[.sc (.int .i64 (K)), .sc (.int .i64 (K + 1)), .sl true 5 ((mkL DNode.me DNode.mz x.xP.xM.xPool.xNodes (K + 2)).map DNode.c), .sc (.int .i64 (K + 2 + szL DNode.mz x.xP.xM.xPool.xNodes)), .sc (.int .i64 x.xP.xM.xS), .sc (.int .i64 x.xP.xM.xE), .sc (.int .i64 x.xP.xM.xD), .sc (.int .i64 x.xP.xM.xState), .sc (.int .i64 x.xP.xM.xAsk), .sc (.int .i64 x.xP.xM.xArg), .sl true 1 (ssC x.xP.xBox), .sl true 1 (ssC x.xP.xOut)], List.getElem?_set_self (by simp only [List.length_set]; omega), ?_⟩
    conv => whnf
    rw [show wrp .i64 (K + 3 + szL DNode.mz x.xP.xM.xPool.xNodes + 1) = K + 4 + szL DNode.mz x.xP.xM.xPool.xNodes from (wrp_i64 (by omega) (by omega)).trans (by omega)]
    refine ⟨i0, by simp only [List.length_set]; omega, ?_⟩
    conv => whnf
    refine ⟨[.sc (.int .i64 (K)), .sc (.int .i64 (K + 1)), .sl true 5 ((mkL DNode.me DNode.mz x.xP.xM.xPool.xNodes (K + 2)).map DNode.c), .sc (.int .i64 (K + 2 + szL DNode.mz x.xP.xM.xPool.xNodes)), .sc (.int .i64 (K + 3 + szL DNode.mz x.xP.xM.xPool.xNodes)), .sc (.int .i64 x.xP.xM.xE), .sc (.int .i64 x.xP.xM.xD), .sc (.int .i64 x.xP.xM.xState), .sc (.int .i64 x.xP.xM.xAsk), .sc (.int .i64 x.xP.xM.xArg), .sl true 1 (ssC x.xP.xBox), .sl true 1 (ssC x.xP.xOut)], List.getElem?_set_self (by simp only [List.length_set]; omega), ?_⟩
    conv => whnf
    rw [show wrp .i64 (K + 4 + szL DNode.mz x.xP.xM.xPool.xNodes + 1) = K + 5 + szL DNode.mz x.xP.xM.xPool.xNodes from (wrp_i64 (by omega) (by omega)).trans (by omega)]
    refine ⟨i0, by simp only [List.length_set]; omega, ?_⟩
    conv => whnf
    refine ⟨[.sc (.int .i64 (K)), .sc (.int .i64 (K + 1)), .sl true 5 ((mkL DNode.me DNode.mz x.xP.xM.xPool.xNodes (K + 2)).map DNode.c), .sc (.int .i64 (K + 2 + szL DNode.mz x.xP.xM.xPool.xNodes)), .sc (.int .i64 (K + 3 + szL DNode.mz x.xP.xM.xPool.xNodes)), .sc (.int .i64 (K + 4 + szL DNode.mz x.xP.xM.xPool.xNodes)), .sc (.int .i64 x.xP.xM.xD), .sc (.int .i64 x.xP.xM.xState), .sc (.int .i64 x.xP.xM.xAsk), .sc (.int .i64 x.xP.xM.xArg), .sl true 1 (ssC x.xP.xBox), .sl true 1 (ssC x.xP.xOut)], List.getElem?_set_self (by simp only [List.length_set]; omega), ?_⟩
    conv => whnf
    rw [show wrp .i64 (K + 5 + szL DNode.mz x.xP.xM.xPool.xNodes + 1) = K + 6 + szL DNode.mz x.xP.xM.xPool.xNodes from (wrp_i64 (by omega) (by omega)).trans (by omega)]
    refine ⟨i0, by simp only [List.length_set]; omega, ?_⟩
    conv => whnf
    refine ⟨[.sc (.int .i64 (K)), .sc (.int .i64 (K + 1)), .sl true 5 ((mkL DNode.me DNode.mz x.xP.xM.xPool.xNodes (K + 2)).map DNode.c), .sc (.int .i64 (K + 2 + szL DNode.mz x.xP.xM.xPool.xNodes)), .sc (.int .i64 (K + 3 + szL DNode.mz x.xP.xM.xPool.xNodes)), .sc (.int .i64 (K + 4 + szL DNode.mz x.xP.xM.xPool.xNodes)), .sc (.int .i64 (K + 5 + szL DNode.mz x.xP.xM.xPool.xNodes)), .sc (.int .i64 x.xP.xM.xState), .sc (.int .i64 x.xP.xM.xAsk), .sc (.int .i64 x.xP.xM.xArg), .sl true 1 (ssC x.xP.xBox), .sl true 1 (ssC x.xP.xOut)], List.getElem?_set_self (by simp only [List.length_set]; omega), ?_⟩
    conv => whnf
    rw [show wrp .i64 (K + 6 + szL DNode.mz x.xP.xM.xPool.xNodes + 1) = K + 7 + szL DNode.mz x.xP.xM.xPool.xNodes from (wrp_i64 (by omega) (by omega)).trans (by omega)]
    refine ⟨i0, by simp only [List.length_set]; omega, ?_⟩
    conv => whnf
    refine ⟨[.sc (.int .i64 (K)), .sc (.int .i64 (K + 1)), .sl true 5 ((mkL DNode.me DNode.mz x.xP.xM.xPool.xNodes (K + 2)).map DNode.c), .sc (.int .i64 (K + 2 + szL DNode.mz x.xP.xM.xPool.xNodes)), .sc (.int .i64 (K + 3 + szL DNode.mz x.xP.xM.xPool.xNodes)), .sc (.int .i64 (K + 4 + szL DNode.mz x.xP.xM.xPool.xNodes)), .sc (.int .i64 (K + 5 + szL DNode.mz x.xP.xM.xPool.xNodes)), .sc (.int .i64 (K + 6 + szL DNode.mz x.xP.xM.xPool.xNodes)), .sc (.int .i64 x.xP.xM.xAsk), .sc (.int .i64 x.xP.xM.xArg), .sl true 1 (ssC x.xP.xBox), .sl true 1 (ssC x.xP.xOut)], List.getElem?_set_self (by simp only [List.length_set]; omega), ?_⟩
    conv => whnf
    rw [show wrp .i64 (K + 7 + szL DNode.mz x.xP.xM.xPool.xNodes + 1) = K + 8 + szL DNode.mz x.xP.xM.xPool.xNodes from (wrp_i64 (by omega) (by omega)).trans (by omega)]
    refine ⟨i0, by simp only [List.length_set]; omega, ?_⟩
    conv => whnf
    refine ⟨[.sc (.int .i64 (K)), .sc (.int .i64 (K + 1)), .sl true 5 ((mkL DNode.me DNode.mz x.xP.xM.xPool.xNodes (K + 2)).map DNode.c), .sc (.int .i64 (K + 2 + szL DNode.mz x.xP.xM.xPool.xNodes)), .sc (.int .i64 (K + 3 + szL DNode.mz x.xP.xM.xPool.xNodes)), .sc (.int .i64 (K + 4 + szL DNode.mz x.xP.xM.xPool.xNodes)), .sc (.int .i64 (K + 5 + szL DNode.mz x.xP.xM.xPool.xNodes)), .sc (.int .i64 (K + 6 + szL DNode.mz x.xP.xM.xPool.xNodes)), .sc (.int .i64 (K + 7 + szL DNode.mz x.xP.xM.xPool.xNodes)), .sc (.int .i64 x.xP.xM.xArg), .sl true 1 (ssC x.xP.xBox), .sl true 1 (ssC x.xP.xOut)], List.getElem?_set_self (by simp only [List.length_set]; omega), ?_⟩
    conv => whnf
    rw [show wrp .i64 (K + 8 + szL DNode.mz x.xP.xM.xPool.xNodes + 1) = K + 9 + szL DNode.mz x.xP.xM.xPool.xNodes from (wrp_i64 (by omega) (by omega)).trans (by omega)]
    refine ⟨i0, by simp only [List.length_set]; omega, ?_⟩
    conv => whnf
    refine ⟨[.sc (.int .i64 (K)), .sc (.int .i64 (K + 1)), .sl true 5 ((mkL DNode.me DNode.mz x.xP.xM.xPool.xNodes (K + 2)).map DNode.c), .sc (.int .i64 (K + 2 + szL DNode.mz x.xP.xM.xPool.xNodes)), .sc (.int .i64 (K + 3 + szL DNode.mz x.xP.xM.xPool.xNodes)), .sc (.int .i64 (K + 4 + szL DNode.mz x.xP.xM.xPool.xNodes)), .sc (.int .i64 (K + 5 + szL DNode.mz x.xP.xM.xPool.xNodes)), .sc (.int .i64 (K + 6 + szL DNode.mz x.xP.xM.xPool.xNodes)), .sc (.int .i64 (K + 7 + szL DNode.mz x.xP.xM.xPool.xNodes)), .sc (.int .i64 (K + 8 + szL DNode.mz x.xP.xM.xPool.xNodes)), .sl true 1 (ssC x.xP.xBox), .sl true 1 (ssC x.xP.xOut)], List.getElem?_set_self (by simp only [List.length_set]; omega), ?_⟩
    conv => whnf
    refine ⟨[.sc (.int .i64 (K)), .sc (.int .i64 (K + 1)), .sl true 5 ((mkL DNode.me DNode.mz x.xP.xM.xPool.xNodes (K + 2)).map DNode.c), .sc (.int .i64 (K + 2 + szL DNode.mz x.xP.xM.xPool.xNodes)), .sc (.int .i64 (K + 3 + szL DNode.mz x.xP.xM.xPool.xNodes)), .sc (.int .i64 (K + 4 + szL DNode.mz x.xP.xM.xPool.xNodes)), .sc (.int .i64 (K + 5 + szL DNode.mz x.xP.xM.xPool.xNodes)), .sc (.int .i64 (K + 6 + szL DNode.mz x.xP.xM.xPool.xNodes)), .sc (.int .i64 (K + 7 + szL DNode.mz x.xP.xM.xPool.xNodes)), .sc (.int .i64 (K + 8 + szL DNode.mz x.xP.xM.xPool.xNodes)), .sl true 1 (ssC x.xP.xBox), .sl true 1 (ssC x.xP.xOut)], _, _, List.getElem?_set_self (by simp only [List.length_set]; omega), rfl, ?_⟩
    conv => whnf
    refine (markStringS_ok x.xP.xBox (K + 9 + szL DNode.mz x.xP.xM.xPool.xNodes) (by omega) (by omega)).mono ?_
    rintro _ _ ⟨rfl, rfl⟩
    conv => whnf
    refine ⟨[.sc (.int .i64 (K)), .sc (.int .i64 (K + 1)), .sl true 5 ((mkL DNode.me DNode.mz x.xP.xM.xPool.xNodes (K + 2)).map DNode.c), .sc (.int .i64 (K + 2 + szL DNode.mz x.xP.xM.xPool.xNodes)), .sc (.int .i64 (K + 3 + szL DNode.mz x.xP.xM.xPool.xNodes)), .sc (.int .i64 (K + 4 + szL DNode.mz x.xP.xM.xPool.xNodes)), .sc (.int .i64 (K + 5 + szL DNode.mz x.xP.xM.xPool.xNodes)), .sc (.int .i64 (K + 6 + szL DNode.mz x.xP.xM.xPool.xNodes)), .sc (.int .i64 (K + 7 + szL DNode.mz x.xP.xM.xPool.xNodes)), .sc (.int .i64 (K + 8 + szL DNode.mz x.xP.xM.xPool.xNodes)), .any, .sl true 1 (ssC x.xP.xOut)], List.getElem?_set_self (by simp only [List.length_set]; omega), of_decide_eq_true rfl, ?_⟩
    conv => whnf
    refine ⟨i0, by simp only [List.length_set]; omega, ?_⟩
    conv => whnf
    refine ⟨[.sc (.int .i64 (K)), .sc (.int .i64 (K + 1)), .sl true 5 ((mkL DNode.me DNode.mz x.xP.xM.xPool.xNodes (K + 2)).map DNode.c), .sc (.int .i64 (K + 2 + szL DNode.mz x.xP.xM.xPool.xNodes)), .sc (.int .i64 (K + 3 + szL DNode.mz x.xP.xM.xPool.xNodes)), .sc (.int .i64 (K + 4 + szL DNode.mz x.xP.xM.xPool.xNodes)), .sc (.int .i64 (K + 5 + szL DNode.mz x.xP.xM.xPool.xNodes)), .sc (.int .i64 (K + 6 + szL DNode.mz x.xP.xM.xPool.xNodes)), .sc (.int .i64 (K + 7 + szL DNode.mz x.xP.xM.xPool.xNodes)), .sc (.int .i64 (K + 8 + szL DNode.mz x.xP.xM.xPool.xNodes)), .sl true 1 (ssC (mkS x.xP.xBox (K + 9 + szL DNode.mz x.xP.xM.xPool.xNodes))), .sl true 1 (ssC x.xP.xOut)], List.getElem?_set_self (by simp only [List.length_set]; omega), ?_⟩
    conv => whnf
    refine ⟨[.sc (.int .i64 (K)), .sc (.int .i64 (K + 1)), .sl true 5 ((mkL DNode.me DNode.mz x.xP.xM.xPool.xNodes (K + 2)).map DNode.c), .sc (.int .i64 (K + 2 + szL DNode.mz x.xP.xM.xPool.xNodes)), .sc (.int .i64 (K + 3 + szL DNode.mz x.xP.xM.xPool.xNodes)), .sc (.int .i64 (K + 4 + szL DNode.mz x.xP.xM.xPool.xNodes)), .sc (.int .i64 (K + 5 + szL DNode.mz x.xP.xM.xPool.xNodes)), .sc (.int .i64 (K + 6 + szL DNode.mz x.xP.xM.xPool.xNodes)), .sc (.int .i64 (K + 7 + szL DNode.mz x.xP.xM.xPool.xNodes)), .sc (.int .i64 (K + 8 + szL DNode.mz x.xP.xM.xPool.xNodes)), .sl true 1 (ssC (mkS x.xP.xBox (K + 9 + szL DNode.mz x.xP.xM.xPool.xNodes))), .sl true 1 (ssC x.xP.xOut)], _, _, List.getElem?_set_self (by simp only [List.length_set]; omega), rfl, ?_⟩
    conv => whnf
    refine (markStringS_ok x.xP.xOut (K + 9 + szL DNode.mz x.xP.xM.xPool.xNodes + mzS x.xP.xBox) (by omega) (by omega)).mono ?_
    rintro _ _ ⟨rfl, rfl⟩
    conv => whnf
    refine ⟨[.sc (.int .i64 (K)), .sc (.int .i64 (K + 1)), .sl true 5 ((mkL DNode.me DNode.mz x.xP.xM.xPool.xNodes (K + 2)).map DNode.c), .sc (.int .i64 (K + 2 + szL DNode.mz x.xP.xM.xPool.xNodes)), .sc (.int .i64 (K + 3 + szL DNode.mz x.xP.xM.xPool.xNodes)), .sc (.int .i64 (K + 4 + szL DNode.mz x.xP.xM.xPool.xNodes)), .sc (.int .i64 (K + 5 + szL DNode.mz x.xP.xM.xPool.xNodes)), .sc (.int .i64 (K + 6 + szL DNode.mz x.xP.xM.xPool.xNodes)), .sc (.int .i64 (K + 7 + szL DNode.mz x.xP.xM.xPool.xNodes)), .sc (.int .i64 (K + 8 + szL DNode.mz x.xP.xM.xPool.xNodes)), .sl true 1 (ssC (mkS x.xP.xBox (K + 9 + szL DNode.mz x.xP.xM.xPool.xNodes))), .any], List.getElem?_set_self (by simp only [List.length_set]; omega), of_decide_eq_true rfl, ?_⟩
    conv => whnf
    rw [wrp_i64 (x := i + 1) (by omega) (by omega)]
    have eK : k + szL DHome.mz (xs.take (i.toNat + 1)) = K + 9 + szL DNode.mz x.xP.xM.xPool.xNodes + mzS x.xP.xBox + mzS x.xP.xOut := by omega
    have fin : es.set i.toNat [.sc (.int .i64 (K)), .sc (.int .i64 (K + 1)), .sl true 5 ((mkL DNode.me DNode.mz x.xP.xM.xPool.xNodes (K + 2)).map DNode.c), .sc (.int .i64 (K + 2 + szL DNode.mz x.xP.xM.xPool.xNodes)), .sc (.int .i64 (K + 3 + szL DNode.mz x.xP.xM.xPool.xNodes)), .sc (.int .i64 (K + 4 + szL DNode.mz x.xP.xM.xPool.xNodes)), .sc (.int .i64 (K + 5 + szL DNode.mz x.xP.xM.xPool.xNodes)), .sc (.int .i64 (K + 6 + szL DNode.mz x.xP.xM.xPool.xNodes)), .sc (.int .i64 (K + 7 + szL DNode.mz x.xP.xM.xPool.xNodes)), .sc (.int .i64 (K + 8 + szL DNode.mz x.xP.xM.xPool.xNodes)), .sl true 1 (ssC (mkS x.xP.xBox (K + 9 + szL DNode.mz x.xP.xM.xPool.xNodes))), .sl true 1 (ssC (mkS x.xP.xOut (K + 9 + szL DNode.mz x.xP.xM.xPool.xNodes + mzS x.xP.xBox)))] = (mkTo DHome.me DHome.mz xs k (i + 1).toNat).map DHome.c := by
      rw [show (i + 1).toNat = i.toNat + 1 by omega, ← mkTo_set DHome.me DHome.mz hx k, List.map_set, ← he, hK]
      try rfl
    refine ⟨xs.length - (i + 1).toNat, ?_⟩
    apply Exists.intro
    refine ⟨by omega, ?_, ?_⟩
    · exact norm_wk (keep := [0, 1, 4, 5]) (kb := []) (ρ := [(3000000, some 3000000)]) rfl
    refine ⟨i + 1, es.set i.toNat [.sc (.int .i64 (K)), .sc (.int .i64 (K + 1)), .sl true 5 ((mkL DNode.me DNode.mz x.xP.xM.xPool.xNodes (K + 2)).map DNode.c), .sc (.int .i64 (K + 2 + szL DNode.mz x.xP.xM.xPool.xNodes)), .sc (.int .i64 (K + 3 + szL DNode.mz x.xP.xM.xPool.xNodes)), .sc (.int .i64 (K + 4 + szL DNode.mz x.xP.xM.xPool.xNodes)), .sc (.int .i64 (K + 5 + szL DNode.mz x.xP.xM.xPool.xNodes)), .sc (.int .i64 (K + 6 + szL DNode.mz x.xP.xM.xPool.xNodes)), .sc (.int .i64 (K + 7 + szL DNode.mz x.xP.xM.xPool.xNodes)), .sc (.int .i64 (K + 8 + szL DNode.mz x.xP.xM.xPool.xNodes)), .sl true 1 (ssC (mkS x.xP.xBox (K + 9 + szL DNode.mz x.xP.xM.xPool.xNodes))), .sl true 1 (ssC (mkS x.xP.xOut (K + 9 + szL DNode.mz x.xP.xM.xPool.xNodes + mzS x.xP.xBox)))], ?_, rfl, by omega, by omega, fin⟩
    rw [show (i + 1).toNat = i.toNat + 1 by omega, eK]
    simp only [List.set_set]
    rfl
  · rw [ltI_f] at h
    rw [List.take_of_length_le (by omega)]
    rw [mkTo_all _ _ _ _ (by omega)] at he
    rw [he]
    exact ⟨rfl, rfl⟩

set_option maxRecDepth 100000 in
set_option maxHeartbeats 4000000 in
theorem markGramS_ok (xs : List DGram) (k : Int) (h0 : 0 ≤ k) (hk : k + szL DGram.mz xs ≤ 1000000000) : FnV Tryz.prog 69 [.mv false [.sl true 5 (xs.map DGram.c)], iV k] fun rs outs => rs = [iR (k + szL DGram.mz xs)] ∧ outs = [[.sl true 5 ((mkL DGram.me DGram.mz xs k).map DGram.c)]] := by
  have hl := szL_len (f := DGram.mz) (fun x => by show 1 ≤ 5; omega) xs
  refine fn_ok (E := EMkB) τ_ok mixed Tryz.func69 (by rfl) (by rfl) false (by simp [Tryz.f69]) ?_
  conv => whnf
  refine ⟨fun m s => ∃ (i : Int) (es : List (List C)), s = ⟨[(0, .vals false [.ref 3000000 0]), (1, .vals false [.sc (.int .i64 (k + szL DGram.mz (xs.take i.toNat)))]), (4, .vals false [.sc (.int .i64 0)]), (5, .vals false [.sc (.int .i64 i)])], [], [(3000000, ⟨true, 0, 0, true, 5, es⟩)]⟩ ∧ m = xs.length - i.toNat ∧ 0 ≤ i ∧ i ≤ xs.length ∧ es = (mkTo DGram.me DGram.mz xs k i.toNat).map DGram.c,
    ⟨_, _, norm_wk (keep := [0, 1, 4, 5]) (kb := []) (ρ := [(3000000, some 3000000)]) rfl, ⟨0, _, by simp [szL]; rfl, rfl, by omega, by omega, by simp [mkTo_zero]⟩⟩, ?_⟩
  rintro m _ ⟨i, es, rfl, rfl, i0, i1, he⟩
  have hel : es.length = xs.length := by rw [he, List.length_map, mkTo_len]
  conv => whnf
  rw [hel]
  refine br_if (fun h => ?_) (fun h => ?_) <;> (try rw [h]) <;> (conv => whnf)
  · rw [ltI_t] at h
    obtain ⟨x, hx⟩ : ∃ x, xs[i.toNat]? = some x := ⟨_, List.getElem?_eq_getElem (by omega)⟩
    have hrow : es[i.toNat]? = some (DGram.c x) := by rw [he, List.getElem?_map, mkTo_at DGram.me DGram.mz hx]; rfl
    have hsucc := szL_succ (f := DGram.mz) hx
    have htk := szL_take (f := DGram.mz) DGram.mz_nonneg xs (i.toNat + 1)
    have h00 := szL_nonneg (f := DGram.mz) DGram.mz_nonneg (xs.take i.toNat)
    have hmz : x.mz = 5 := rfl
    have hin : i.toNat < es.length := by omega
    generalize hK : k + szL DGram.mz (xs.take i.toNat) = K
    refine ⟨i0, by simp only [List.length_set]; omega, ?_⟩
    conv => whnf
    refine ⟨[.sc (.int .i64 x.xKind), .sc (.int .i64 x.xFrom), .sc (.int .i64 x.xTo), .sc (.int .i64 x.xP.xNo), .sc (.string x.xP.xText)], hrow, ?_⟩
    conv => whnf
    rw [show wrp .i64 (K + 1) = K + 1 from (wrp_i64 (by omega) (by omega)).trans (by omega)]
    refine ⟨i0, by simp only [List.length_set]; omega, ?_⟩
    conv => whnf
    refine ⟨[.sc (.int .i64 (K)), .sc (.int .i64 x.xFrom), .sc (.int .i64 x.xTo), .sc (.int .i64 x.xP.xNo), .sc (.string x.xP.xText)], List.getElem?_set_self (by simp only [List.length_set]; omega), ?_⟩
    conv => whnf
    rw [show wrp .i64 (K + 1 + 1) = K + 2 from (wrp_i64 (by omega) (by omega)).trans (by omega)]
    refine ⟨i0, by simp only [List.length_set]; omega, ?_⟩
    conv => whnf
    refine ⟨[.sc (.int .i64 (K)), .sc (.int .i64 (K + 1)), .sc (.int .i64 x.xTo), .sc (.int .i64 x.xP.xNo), .sc (.string x.xP.xText)], List.getElem?_set_self (by simp only [List.length_set]; omega), ?_⟩
    conv => whnf
    rw [show wrp .i64 (K + 2 + 1) = K + 3 from (wrp_i64 (by omega) (by omega)).trans (by omega)]
    refine ⟨i0, by simp only [List.length_set]; omega, ?_⟩
    conv => whnf
    refine ⟨[.sc (.int .i64 (K)), .sc (.int .i64 (K + 1)), .sc (.int .i64 (K + 2)), .sc (.int .i64 x.xP.xNo), .sc (.string x.xP.xText)], List.getElem?_set_self (by simp only [List.length_set]; omega), ?_⟩
    conv => whnf
    rw [show wrp .i64 (K + 3 + 1) = K + 4 from (wrp_i64 (by omega) (by omega)).trans (by omega)]
    refine (markText_ok (K + 4) (by omega)).mono ?_
    rintro _ _ ⟨rfl, rfl⟩
    conv => whnf
    refine ⟨i0, by simp only [List.length_set]; omega, ?_⟩
    conv => whnf
    refine ⟨[.sc (.int .i64 (K)), .sc (.int .i64 (K + 1)), .sc (.int .i64 (K + 2)), .sc (.int .i64 (K + 3)), .sc (.string x.xP.xText)], List.getElem?_set_self (by simp only [List.length_set]; omega), ?_⟩
    conv => whnf
    rw [show wrp .i64 (K + 4 + 1) = K + 5 from (wrp_i64 (by omega) (by omega)).trans (by omega)]
    rw [wrp_i64 (x := i + 1) (by omega) (by omega)]
    have eK : k + szL DGram.mz (xs.take (i.toNat + 1)) = K + 5 := by omega
    have fin : es.set i.toNat [.sc (.int .i64 (K)), .sc (.int .i64 (K + 1)), .sc (.int .i64 (K + 2)), .sc (.int .i64 (K + 3)), .sc (.string (mkT (K + 4)))] = (mkTo DGram.me DGram.mz xs k (i + 1).toNat).map DGram.c := by
      rw [show (i + 1).toNat = i.toNat + 1 by omega, ← mkTo_set DGram.me DGram.mz hx k, List.map_set, ← he, hK]
      try rfl
    refine ⟨xs.length - (i + 1).toNat, ?_⟩
    apply Exists.intro
    refine ⟨by omega, ?_, ?_⟩
    · exact norm_wk (keep := [0, 1, 4, 5]) (kb := []) (ρ := [(3000000, some 3000000)]) rfl
    refine ⟨i + 1, es.set i.toNat [.sc (.int .i64 (K)), .sc (.int .i64 (K + 1)), .sc (.int .i64 (K + 2)), .sc (.int .i64 (K + 3)), .sc (.string (mkT (K + 4)))], ?_, rfl, by omega, by omega, fin⟩
    rw [show (i + 1).toNat = i.toNat + 1 by omega, eK]
    simp only [List.set_set]
    rfl
  · rw [ltI_f] at h
    rw [List.take_of_length_le (by omega)]
    rw [mkTo_all _ _ _ _ (by omega)] at he
    rw [he]
    exact ⟨rfl, rfl⟩

set_option maxRecDepth 100000 in
set_option maxHeartbeats 4000000 in
theorem markParkedS_ok (xs : List DParked) (k : Int) (h0 : 0 ≤ k) (hk : k + szL DParked.mz xs ≤ 1000000000) : FnV Tryz.prog 70 [.mv false [.sl true 3 (xs.map DParked.c)], iV k] fun rs outs => rs = [iR (k + szL DParked.mz xs)] ∧ outs = [[.sl true 3 ((mkL DParked.me DParked.mz xs k).map DParked.c)]] := by
  have hl := szL_len (f := DParked.mz) (fun x => by show 1 ≤ 3; omega) xs
  refine fn_ok (E := EMkB) τ_ok mixed Tryz.func70 (by rfl) (by rfl) false (by simp [Tryz.f70]) ?_
  conv => whnf
  refine ⟨fun m s => ∃ (i : Int) (es : List (List C)), s = ⟨[(0, .vals false [.ref 3000000 0]), (1, .vals false [.sc (.int .i64 (k + szL DParked.mz (xs.take i.toNat)))]), (4, .vals false [.sc (.int .i64 0)]), (5, .vals false [.sc (.int .i64 i)])], [], [(3000000, ⟨true, 0, 0, true, 3, es⟩)]⟩ ∧ m = xs.length - i.toNat ∧ 0 ≤ i ∧ i ≤ xs.length ∧ es = (mkTo DParked.me DParked.mz xs k i.toNat).map DParked.c,
    ⟨_, _, norm_wk (keep := [0, 1, 4, 5]) (kb := []) (ρ := [(3000000, some 3000000)]) rfl, ⟨0, _, by simp [szL]; rfl, rfl, by omega, by omega, by simp [mkTo_zero]⟩⟩, ?_⟩
  rintro m _ ⟨i, es, rfl, rfl, i0, i1, he⟩
  have hel : es.length = xs.length := by rw [he, List.length_map, mkTo_len]
  conv => whnf
  rw [hel]
  refine br_if (fun h => ?_) (fun h => ?_) <;> (try rw [h]) <;> (conv => whnf)
  · rw [ltI_t] at h
    obtain ⟨x, hx⟩ : ∃ x, xs[i.toNat]? = some x := ⟨_, List.getElem?_eq_getElem (by omega)⟩
    have hrow : es[i.toNat]? = some (DParked.c x) := by rw [he, List.getElem?_map, mkTo_at DParked.me DParked.mz hx]; rfl
    have hsucc := szL_succ (f := DParked.mz) hx
    have htk := szL_take (f := DParked.mz) DParked.mz_nonneg xs (i.toNat + 1)
    have h00 := szL_nonneg (f := DParked.mz) DParked.mz_nonneg (xs.take i.toNat)
    have hmz : x.mz = 3 := rfl
    have hin : i.toNat < es.length := by omega
    generalize hK : k + szL DParked.mz (xs.take i.toNat) = K
    refine ⟨i0, by simp only [List.length_set]; omega, ?_⟩
    conv => whnf
    refine ⟨[.sc (.int .i64 x.xAt), .sc (.int .i64 x.xTo), .sc (.string x.xText)], hrow, ?_⟩
    conv => whnf
    rw [show wrp .i64 (K + 1) = K + 1 from (wrp_i64 (by omega) (by omega)).trans (by omega)]
    refine ⟨i0, by simp only [List.length_set]; omega, ?_⟩
    conv => whnf
    refine ⟨[.sc (.int .i64 (K)), .sc (.int .i64 x.xTo), .sc (.string x.xText)], List.getElem?_set_self (by simp only [List.length_set]; omega), ?_⟩
    conv => whnf
    rw [show wrp .i64 (K + 1 + 1) = K + 2 from (wrp_i64 (by omega) (by omega)).trans (by omega)]
    refine (markText_ok (K + 2) (by omega)).mono ?_
    rintro _ _ ⟨rfl, rfl⟩
    conv => whnf
    refine ⟨i0, by simp only [List.length_set]; omega, ?_⟩
    conv => whnf
    refine ⟨[.sc (.int .i64 (K)), .sc (.int .i64 (K + 1)), .sc (.string x.xText)], List.getElem?_set_self (by simp only [List.length_set]; omega), ?_⟩
    conv => whnf
    rw [show wrp .i64 (K + 2 + 1) = K + 3 from (wrp_i64 (by omega) (by omega)).trans (by omega)]
    rw [wrp_i64 (x := i + 1) (by omega) (by omega)]
    have eK : k + szL DParked.mz (xs.take (i.toNat + 1)) = K + 3 := by omega
    have fin : es.set i.toNat [.sc (.int .i64 (K)), .sc (.int .i64 (K + 1)), .sc (.string (mkT (K + 2)))] = (mkTo DParked.me DParked.mz xs k (i + 1).toNat).map DParked.c := by
      rw [show (i + 1).toNat = i.toNat + 1 by omega, ← mkTo_set DParked.me DParked.mz hx k, List.map_set, ← he, hK]
      try rfl
    refine ⟨xs.length - (i + 1).toNat, ?_⟩
    apply Exists.intro
    refine ⟨by omega, ?_, ?_⟩
    · exact norm_wk (keep := [0, 1, 4, 5]) (kb := []) (ρ := [(3000000, some 3000000)]) rfl
    refine ⟨i + 1, es.set i.toNat [.sc (.int .i64 (K)), .sc (.int .i64 (K + 1)), .sc (.string (mkT (K + 2)))], ?_, rfl, by omega, by omega, fin⟩
    rw [show (i + 1).toNat = i.toNat + 1 by omega, eK]
    simp only [List.set_set]
    rfl
  · rw [ltI_f] at h
    rw [List.take_of_length_le (by omega)]
    rw [mkTo_all _ _ _ _ (by omega)] at he
    rw [he]
    exact ⟨rfl, rfl⟩

set_option maxRecDepth 100000 in
set_option maxHeartbeats 4000000 in
theorem markStringSS_ok (xs : List (List ByteArray)) (k : Int) (h0 : 0 ≤ k) (hk : k + szL mzS xs ≤ 1000000000) (hl : xs.length ≤ 9223372036854775807) : FnV Tryz.prog 71 [.mv false [.sl true 1 (sssC xs)], iV k] fun rs outs => rs = [iR (k + szL mzS xs)] ∧ outs = [[.sl true 1 (sssC (mkL mkS mzS xs k))]] := by
  refine fn_ok (E := EMkB) τ_ok mixed Tryz.func71 (by rfl) (by rfl) false (by simp [Tryz.f71]) ?_
  conv => whnf
  refine ⟨fun m s => ∃ (i : Int) (es : List (List C)), s = ⟨[(0, .vals false [.ref 3000000 0]), (1, .vals false [.sc (.int .i64 (k + szL mzS (xs.take i.toNat)))]), (4, .vals false [.sc (.int .i64 0)]), (5, .vals false [.sc (.int .i64 i)])], [], [(3000000, ⟨true, 0, 0, true, 1, es⟩)]⟩ ∧ m = xs.length - i.toNat ∧ 0 ≤ i ∧ i ≤ xs.length ∧ es = (mkTo mkS mzS xs k i.toNat).map (fun l => [C.sl true 1 (ssC l)]),
    ⟨_, _, norm_wk (keep := [0, 1, 4, 5]) (kb := []) (ρ := [(3000000, some 3000000)]) rfl, ⟨0, _, by simp [szL]; rfl, rfl, by omega, by omega, by simp [mkTo_zero]⟩⟩, ?_⟩
  rintro m _ ⟨i, es, rfl, rfl, i0, i1, he⟩
  have hel : es.length = xs.length := by rw [he, List.length_map, mkTo_len]
  conv => whnf
  rw [hel]
  refine br_if (fun h => ?_) (fun h => ?_) <;> (try rw [h]) <;> (conv => whnf)
  · rw [ltI_t] at h
    obtain ⟨x, hx⟩ : ∃ x, xs[i.toNat]? = some x := ⟨_, List.getElem?_eq_getElem (by omega)⟩
    have hrow : es[i.toNat]? = some ((fun l => [C.sl true 1 (ssC l)]) x) := by rw [he, List.getElem?_map, mkTo_at mkS mzS hx]; rfl
    have hsucc := szL_succ (f := mzS) hx
    have htk := szL_take (f := mzS) mzS_nonneg xs (i.toNat + 1)
    have h00 := szL_nonneg (f := mzS) mzS_nonneg (xs.take i.toNat)
    have := mzS_nonneg x
    have hin : i.toNat < es.length := by omega
    generalize hK : k + szL mzS (xs.take i.toNat) = K
    refine ⟨i0, by simp only [List.length_set]; omega, ?_⟩
    conv => whnf
    refine ⟨[.sl true 1 (ssC x)], hrow, ?_⟩
    conv => whnf
    refine ⟨[.sl true 1 (ssC x)], _, _, hrow, rfl, ?_⟩
    conv => whnf
    refine (markStringS_ok x (K) (by omega) (by omega)).mono ?_
    rintro _ _ ⟨rfl, rfl⟩
    conv => whnf
    refine ⟨[.any], List.getElem?_set_self (by simp only [List.length_set]; omega), of_decide_eq_true rfl, ?_⟩
    conv => whnf
    rw [wrp_i64 (x := i + 1) (by omega) (by omega)]
    have eK : k + szL mzS (xs.take (i.toNat + 1)) = K + mzS x := by omega
    have fin : es.set i.toNat [.sl true 1 (ssC (mkS x (K)))] = (mkTo mkS mzS xs k (i + 1).toNat).map (fun l => [C.sl true 1 (ssC l)]) := by
      rw [show (i + 1).toNat = i.toNat + 1 by omega, ← mkTo_set mkS mzS hx k, List.map_set, ← he, hK]
      try rfl
    refine ⟨xs.length - (i + 1).toNat, ?_⟩
    apply Exists.intro
    refine ⟨by omega, ?_, ?_⟩
    · exact norm_wk (keep := [0, 1, 4, 5]) (kb := []) (ρ := [(3000000, some 3000000)]) rfl
    refine ⟨i + 1, es.set i.toNat [.sl true 1 (ssC (mkS x (K)))], ?_, rfl, by omega, by omega, fin⟩
    rw [show (i + 1).toNat = i.toNat + 1 by omega, eK]
    simp only [List.set_set]
    rfl
  · rw [ltI_f] at h
    rw [List.take_of_length_le (by omega)]
    rw [mkTo_all _ _ _ _ (by omega)] at he
    rw [he]
    exact ⟨rfl, rfl⟩

end Go.Proofs.YtifodjnbcnbcpaaGreat.V

set_option linter.unusedVariables false

set_option linter.unusedSimpArgs false

namespace Go.Proofs.YtifodjnbcnbcpaaGreat.V

open Go

def MdEVw (f : Nat) : List Mode :=
  match f with
  | 15 => [.mv [true, true, true], .rd]
  | 67 => [.mi, .rd]
  | 68 => [.mi, .rd]
  | 69 => [.mi, .rd]
  | 70 => [.mi, .rd]
  | 71 => [.mi, .rd]
  | _ => []

def EVw : Env := ⟨τ, MdEVw⟩

set_option maxRecDepth 100000 in
set_option maxHeartbeats 4000000 in
theorem markWorld_ok (a : DWorld) (k : Int) (h0 : 0 ≤ k) (hk : k + a.wz ≤ 1000000000) (ho : a.ok) : FnV Tryz.prog 16 [.mv true a.c, iV k] fun rs outs => rs = [iR (k + a.wz)] ∧ outs = [oC (a.mw k).c] := by
  have n1 := szL_nonneg DNode.mz_nonneg a.xCode.xPool.xNodes
  have n2 := szL_nonneg DInstr.mz_nonneg a.xCode.xList
  have n3 := szL_nonneg DDef.mz_nonneg a.xCode.xDefs
  have n4 := szL_nonneg DHome.mz_nonneg a.xHomes
  have n5 := szL_nonneg DLink.mz_nonneg a.xLinks
  have n6 := szL_nonneg DGram.mz_nonneg a.xGrams
  have n7 := szL_nonneg DParked.mz_nonneg a.xParked
  have n8 := szL_nonneg mzS_nonneg a.xGave
  have n9 := szL_nonneg mzS_nonneg a.xTook
  have l1 := ho.2.2.2.2.2.2.2.1.1
  have l2 := ho.2.2.2.2.2.2.2.2.1
  have e : a.wz = szL DNode.mz a.xCode.xPool.xNodes + szL DInstr.mz a.xCode.xList + szL DDef.mz a.xCode.xDefs + szL DHome.mz a.xHomes + szL DLink.mz a.xLinks + szL DGram.mz a.xGrams + szL DParked.mz a.xParked + szL mzS a.xGave + szL mzS a.xTook := rfl
  have e1 : a.xCode.wz = szL DNode.mz a.xCode.xPool.xNodes + szL DInstr.mz a.xCode.xList + szL DDef.mz a.xCode.xDefs := rfl
  refine fn_ok (E := EVw) τ_ok mixed Tryz.func16 (by rfl) (by rfl) false (by simp [Tryz.f16]) ?_
  conv => whnf
  refine (markCode_ok a.xCode k h0 (by omega)).mono ?_
  rintro _ _ ⟨rfl, rfl⟩
  conv => whnf
  rw [show k + a.xCode.wz = k + szL DNode.mz a.xCode.xPool.xNodes + szL DInstr.mz a.xCode.xList + szL DDef.mz a.xCode.xDefs by omega]
  refine (markHomeS_ok a.xHomes (k + szL DNode.mz a.xCode.xPool.xNodes + szL DInstr.mz a.xCode.xList + szL DDef.mz a.xCode.xDefs) (by omega) (by omega)).mono ?_
  rintro _ _ ⟨rfl, rfl⟩
  conv => whnf
  refine (markLinkS_ok a.xLinks (k + szL DNode.mz a.xCode.xPool.xNodes + szL DInstr.mz a.xCode.xList + szL DDef.mz a.xCode.xDefs + szL DHome.mz a.xHomes) (by omega) (by omega)).mono ?_
  rintro _ _ ⟨rfl, rfl⟩
  conv => whnf
  refine (markGramS_ok a.xGrams (k + szL DNode.mz a.xCode.xPool.xNodes + szL DInstr.mz a.xCode.xList + szL DDef.mz a.xCode.xDefs + szL DHome.mz a.xHomes + szL DLink.mz a.xLinks) (by omega) (by omega)).mono ?_
  rintro _ _ ⟨rfl, rfl⟩
  conv => whnf
  refine (markParkedS_ok a.xParked (k + szL DNode.mz a.xCode.xPool.xNodes + szL DInstr.mz a.xCode.xList + szL DDef.mz a.xCode.xDefs + szL DHome.mz a.xHomes + szL DLink.mz a.xLinks + szL DGram.mz a.xGrams) (by omega) (by omega)).mono ?_
  rintro _ _ ⟨rfl, rfl⟩
  conv => whnf
  refine (markStringSS_ok a.xGave (k + szL DNode.mz a.xCode.xPool.xNodes + szL DInstr.mz a.xCode.xList + szL DDef.mz a.xCode.xDefs + szL DHome.mz a.xHomes + szL DLink.mz a.xLinks + szL DGram.mz a.xGrams + szL DParked.mz a.xParked) (by omega) (by omega) l1).mono ?_
  rintro _ _ ⟨rfl, rfl⟩
  conv => whnf
  refine (markStringSS_ok a.xTook (k + szL DNode.mz a.xCode.xPool.xNodes + szL DInstr.mz a.xCode.xList + szL DDef.mz a.xCode.xDefs + szL DHome.mz a.xHomes + szL DLink.mz a.xLinks + szL DGram.mz a.xGrams + szL DParked.mz a.xParked + szL mzS a.xGave) (by omega) (by omega) l2).mono ?_
  rintro _ _ ⟨rfl, rfl⟩
  conv => whnf
  refine mk_eq (by omega) ?_
  rfl

end Go.Proofs.YtifodjnbcnbcpaaGreat.V

set_option linter.unusedVariables false

set_option linter.unusedSimpArgs false

namespace Go.Proofs.YtifodjnbcnbcpaaGreat.V

open Go

def MdEVh (f : Nat) : List Mode :=
  match f with
  | 90 => [.rd, .rd]
  | 91 => [.rd, .rd]
  | 140 => [.rd, .rd]
  | 143 => [.rd, .rd]
  | _ => []

def EVh : Env := ⟨τ, MdEVh⟩

set_option maxRecDepth 100000 in
theorem heldPool_ok (a : DPool) (k : Int) (h0 : 0 ≤ k) (hk : k + a.wz ≤ 1000000000) : FnV Tryz.prog 140 [.rdv true (a.mw k).c, iV k] fun rs outs => rs = [iR (k + a.wz)] ∧ outs = [] := by
  have n0 := a.wz_nonneg
  refine fn_ok (E := EVh) τ_ok mixed Tryz.func140 (by rfl) (by rfl) false (by simp [Tryz.f140]) ?_
  conv => whnf
  refine (heldNodeS_ok a.xNodes k h0 hk).mono ?_
  rintro _ _ ⟨rfl, rfl⟩
  conv => whnf
  refine br_if (fun h => ?_) (fun h => ?_) <;> (try rw [h]) <;> (conv => whnf)
  · rw [ltI_t] at h
    have : k + a.wz < 0 := h
    omega
  · exact ⟨rfl, rfl⟩

end Go.Proofs.YtifodjnbcnbcpaaGreat.V

set_option linter.unusedVariables false

set_option linter.unusedSimpArgs false

namespace Go.Proofs.YtifodjnbcnbcpaaGreat.V

open Go

def MdEHeB (f : Nat) : List Mode :=
  match f with
  | 91 => [.rd, .rd]
  | 138 => [.rd]
  | 143 => [.rd, .rd]
  | 144 => [.rd, .rd]
  | _ => []

def EHeB : Env := ⟨τ, MdEHeB⟩

set_option maxRecDepth 100000 in
set_option maxHeartbeats 4000000 in
theorem heldPieceS_ok (xs : List DPiece) (k : Int) (h0 : 0 ≤ k) (hk : k + szL DPiece.mz xs ≤ 1000000000) : FnV Tryz.prog 144 [.rdv false [.sl true 2 ((mkL DPiece.me DPiece.mz xs k).map DPiece.c)], iV k] fun rs outs => rs = [iR (k + szL DPiece.mz xs)] ∧ outs = [] := by
  have hl := szL_len (f := DPiece.mz) (fun x => by show 1 ≤ 2; omega) xs
  obtain ⟨es, hes⟩ : ∃ es, es = ((mkL DPiece.me DPiece.mz xs k).map DPiece.c) := ⟨_, rfl⟩
  rw [← hes]
  have hel : es.length = xs.length := by rw [hes, List.length_map, mkL_len]
  refine fn_ok (E := EHeB) τ_ok mixed Tryz.func144 (by rfl) (by rfl) false (by simp [Tryz.f144]) ?_
  conv => whnf
  refine ⟨fun m s => ∃ (i : Int), s = ⟨[(0, .vals false [.rd none 2 es]), (1, .vals false [.sc (.int .i64 (k + szL DPiece.mz (xs.take i.toNat)))]), (4, .vals false [.sc (.int .i64 0)]), (5, .vals false [.sc (.int .i64 i)])], [], []⟩ ∧ m = xs.length - i.toNat ∧ 0 ≤ i ∧ i ≤ xs.length,
    ⟨_, _, norm_wk (keep := [0, 1, 4, 5]) (kb := []) (ρ := []) rfl, ⟨0, by simp [szL], rfl, by omega, by omega⟩⟩, ?_⟩
  rintro m _ ⟨i, rfl, rfl, i0, i1⟩
  conv => whnf
  rw [hel]
  refine br_if (fun h => ?_) (fun h => ?_) <;> (try rw [h]) <;> (conv => whnf)
  · rw [ltI_t] at h
    obtain ⟨x, hx⟩ : ∃ x, xs[i.toNat]? = some x := ⟨_, List.getElem?_eq_getElem (by omega)⟩
    have hsucc := szL_succ (f := DPiece.mz) hx
    have htk := szL_take (f := DPiece.mz) DPiece.mz_nonneg xs (i.toNat + 1)
    have h00 := szL_nonneg (f := DPiece.mz) DPiece.mz_nonneg (xs.take i.toNat)
    generalize hK : k + szL DPiece.mz (xs.take i.toNat) = K
    have hrow : es[i.toNat]? = some [.sc (.int .i64 (K)), .sc (.string (mkT (K + 1)))] := by rw [hes, List.getElem?_map, mkL_at DPiece.me DPiece.mz hx, hK]; rfl
    have hmz : x.mz = 2 := rfl
    refine ⟨i0, _, hrow, ?_⟩
    conv => whnf
    rw [eqI_self, hq0]
    conv => whnf
    rw [show wrp .i64 (K + 1) = K + 1 from (wrp_i64 (by omega) (by omega)).trans (by omega)]
    refine ⟨.one (.take 0 (.take 1 (.take 2 (.take 3 (.take 5 (.early 4 (.or 6 (.take 7 .done) .nil))))))), by rfl, ?_⟩
    conv => whnf
    refine ⟨i0, _, hrow, ?_⟩
    conv => whnf
    refine (markText_ok (K + 1) (by omega)).mono ?_
    rintro _ _ ⟨rfl, rfl⟩
    conv => whnf
    refine ⟨rfl, ?_⟩
    conv => whnf
    rw [eqStr_self, hq0]
    conv => whnf
    rw [show wrp .i64 (K + 1 + 1) = K + 2 from (wrp_i64 (by omega) (by omega)).trans (by omega)]
    rw [wrp_i64 (x := i + 1) (by omega) (by omega)]
    have eK : k + szL DPiece.mz (xs.take (i.toNat + 1)) = K + 2 := by omega
    refine ⟨xs.length - (i + 1).toNat, _, by omega, norm_wk (keep := [0, 1, 4, 5]) (kb := []) (ρ := []) rfl, ⟨i + 1, ?_, rfl, by omega, by omega⟩⟩
    rw [show (i + 1).toNat = i.toNat + 1 by omega, eK]
    try rfl
  · rw [ltI_f] at h
    rw [List.take_of_length_le (by omega)]
    exact ⟨rfl, rfl⟩

set_option maxRecDepth 100000 in
set_option maxHeartbeats 4000000 in
theorem heldLinkS_ok (xs : List DLink) (k : Int) (h0 : 0 ≤ k) (hk : k + szL DLink.mz xs ≤ 1000000000) : FnV Tryz.prog 74 [.rdv false [.sl true 5 ((mkL DLink.me DLink.mz xs k).map DLink.c)], iV k] fun rs outs => rs = [iR (k + szL DLink.mz xs)] ∧ outs = [] := by
  have hl := szL_len (f := DLink.mz) (fun x => by have := mzS_nonneg x.xQueue; have := szL_nonneg DPiece.mz_nonneg x.xHeld; show 1 ≤ 3 + mzS x.xQueue + szL DPiece.mz x.xHeld; omega) xs
  obtain ⟨es, hes⟩ : ∃ es, es = ((mkL DLink.me DLink.mz xs k).map DLink.c) := ⟨_, rfl⟩
  rw [← hes]
  have hel : es.length = xs.length := by rw [hes, List.length_map, mkL_len]
  refine fn_ok (E := EHeB) τ_ok mixed Tryz.func74 (by rfl) (by rfl) false (by simp [Tryz.f74]) ?_
  conv => whnf
  refine ⟨fun m s => ∃ (i : Int), s = ⟨[(0, .vals false [.rd none 5 es]), (1, .vals false [.sc (.int .i64 (k + szL DLink.mz (xs.take i.toNat)))]), (4, .vals false [.sc (.int .i64 0)]), (5, .vals false [.sc (.int .i64 i)])], [], []⟩ ∧ m = xs.length - i.toNat ∧ 0 ≤ i ∧ i ≤ xs.length,
    ⟨_, _, norm_wk (keep := [0, 1, 4, 5]) (kb := []) (ρ := []) rfl, ⟨0, by simp [szL], rfl, by omega, by omega⟩⟩, ?_⟩
  rintro m _ ⟨i, rfl, rfl, i0, i1⟩
  conv => whnf
  rw [hel]
  refine br_if (fun h => ?_) (fun h => ?_) <;> (try rw [h]) <;> (conv => whnf)
  · rw [ltI_t] at h
    obtain ⟨x, hx⟩ : ∃ x, xs[i.toNat]? = some x := ⟨_, List.getElem?_eq_getElem (by omega)⟩
    have hsucc := szL_succ (f := DLink.mz) hx
    have htk := szL_take (f := DLink.mz) DLink.mz_nonneg xs (i.toNat + 1)
    have h00 := szL_nonneg (f := DLink.mz) DLink.mz_nonneg (xs.take i.toNat)
    generalize hK : k + szL DLink.mz (xs.take i.toNat) = K
    have hrow : es[i.toNat]? = some [.sc (.int .i64 (K)), .sc (.int .i64 (K + 1)), .sl true 1 (ssC (mkS x.xQueue (K + 2))), .sc (.int .i64 (K + 2 + mzS x.xQueue)), .sl true 2 ((mkL DPiece.me DPiece.mz x.xHeld (K + 3 + mzS x.xQueue)).map DPiece.c)] := by rw [hes, List.getElem?_map, mkL_at DLink.me DLink.mz hx, hK]; rfl
    have := mzS_nonneg x.xQueue
    have := szL_nonneg DPiece.mz_nonneg x.xHeld
    have hmz : x.mz = 3 + mzS x.xQueue + szL DPiece.mz x.xHeld := rfl
    refine ⟨i0, _, hrow, ?_⟩
    conv => whnf
    rw [eqI_self, hq0]
    conv => whnf
    rw [show wrp .i64 (K + 1) = K + 1 from (wrp_i64 (by omega) (by omega)).trans (by omega)]
    refine ⟨i0, _, hrow, ?_⟩
    conv => whnf
    rw [eqI_self, hq0]
    conv => whnf
    rw [show wrp .i64 (K + 1 + 1) = K + 2 from (wrp_i64 (by omega) (by omega)).trans (by omega)]
    refine ⟨i0, _, hrow, ?_⟩
    conv => whnf
    refine (heldStringS_ok x.xQueue (K + 2) (by omega) (by omega)).mono ?_
    rintro _ _ ⟨rfl, rfl⟩
    conv => whnf
    rw [neg_f (x := K + 2 + mzS x.xQueue) (by omega)]
    conv => whnf
    refine ⟨i0, _, hrow, ?_⟩
    conv => whnf
    rw [eqI_self, hq0]
    conv => whnf
    rw [show wrp .i64 (K + 2 + mzS x.xQueue + 1) = K + 3 + mzS x.xQueue from (wrp_i64 (by omega) (by omega)).trans (by omega)]
    refine ⟨i0, _, hrow, ?_⟩
    conv => whnf
    refine (heldPieceS_ok x.xHeld (K + 3 + mzS x.xQueue) (by omega) (by omega)).mono ?_
    rintro _ _ ⟨rfl, rfl⟩
    conv => whnf
    rw [neg_f (x := K + 3 + mzS x.xQueue + szL DPiece.mz x.xHeld) (by omega)]
    conv => whnf
    rw [wrp_i64 (x := i + 1) (by omega) (by omega)]
    have eK : k + szL DLink.mz (xs.take (i.toNat + 1)) = K + 3 + mzS x.xQueue + szL DPiece.mz x.xHeld := by omega
    refine ⟨xs.length - (i + 1).toNat, _, by omega, norm_wk (keep := [0, 1, 4, 5]) (kb := []) (ρ := []) rfl, ⟨i + 1, ?_, rfl, by omega, by omega⟩⟩
    rw [show (i + 1).toNat = i.toNat + 1 by omega, eK]
    try rfl
  · rw [ltI_f] at h
    rw [List.take_of_length_le (by omega)]
    exact ⟨rfl, rfl⟩

set_option maxRecDepth 100000 in
set_option maxHeartbeats 4000000 in
theorem heldHomeS_ok (xs : List DHome) (k : Int) (h0 : 0 ≤ k) (hk : k + szL DHome.mz xs ≤ 1000000000) : FnV Tryz.prog 73 [.rdv false [.sl true 12 ((mkL DHome.me DHome.mz xs k).map DHome.c)], iV k] fun rs outs => rs = [iR (k + szL DHome.mz xs)] ∧ outs = [] := by
  have hl := szL_len (f := DHome.mz) (fun x => by have := szL_nonneg DNode.mz_nonneg x.xP.xM.xPool.xNodes; have := mzS_nonneg x.xP.xBox; have := mzS_nonneg x.xP.xOut; show 1 ≤ 9 + szL DNode.mz x.xP.xM.xPool.xNodes + mzS x.xP.xBox + mzS x.xP.xOut; omega) xs
  obtain ⟨es, hes⟩ : ∃ es, es = ((mkL DHome.me DHome.mz xs k).map DHome.c) := ⟨_, rfl⟩
  rw [← hes]
  have hel : es.length = xs.length := by rw [hes, List.length_map, mkL_len]
  refine fn_ok (E := EHeB) τ_ok mixed Tryz.func73 (by rfl) (by rfl) false (by simp [Tryz.f73]) ?_
  conv => whnf
  refine ⟨fun m s => ∃ (i : Int), s = ⟨[(0, .vals false [.rd none 12 es]), (1, .vals false [.sc (.int .i64 (k + szL DHome.mz (xs.take i.toNat)))]), (4, .vals false [.sc (.int .i64 0)]), (5, .vals false [.sc (.int .i64 i)])], [], []⟩ ∧ m = xs.length - i.toNat ∧ 0 ≤ i ∧ i ≤ xs.length,
    ⟨_, _, norm_wk (keep := [0, 1, 4, 5]) (kb := []) (ρ := []) rfl, ⟨0, by simp [szL], rfl, by omega, by omega⟩⟩, ?_⟩
  rintro m _ ⟨i, rfl, rfl, i0, i1⟩
  conv => whnf
  rw [hel]
  refine br_if (fun h => ?_) (fun h => ?_) <;> (try rw [h]) <;> (conv => whnf)
  · rw [ltI_t] at h
    obtain ⟨x, hx⟩ : ∃ x, xs[i.toNat]? = some x := ⟨_, List.getElem?_eq_getElem (by omega)⟩
    have hsucc := szL_succ (f := DHome.mz) hx
    have htk := szL_take (f := DHome.mz) DHome.mz_nonneg xs (i.toNat + 1)
    have h00 := szL_nonneg (f := DHome.mz) DHome.mz_nonneg (xs.take i.toNat)
    generalize hK : k + szL DHome.mz (xs.take i.toNat) = K
    have hrow : es[i.toNat]? = some [.sc (.int .i64 (K)), .sc (.int .i64 (K + 1)), .sl true 5 ((mkL DNode.me DNode.mz x.xP.xM.xPool.xNodes (K + 2)).map DNode.c), .sc (.int .i64 (K + 2 + szL DNode.mz x.xP.xM.xPool.xNodes)), .sc (.int .i64 (K + 3 + szL DNode.mz x.xP.xM.xPool.xNodes)), .sc (.int .i64 (K + 4 + szL DNode.mz x.xP.xM.xPool.xNodes)), .sc (.int .i64 (K + 5 + szL DNode.mz x.xP.xM.xPool.xNodes)), .sc (.int .i64 (K + 6 + szL DNode.mz x.xP.xM.xPool.xNodes)), .sc (.int .i64 (K + 7 + szL DNode.mz x.xP.xM.xPool.xNodes)), .sc (.int .i64 (K + 8 + szL DNode.mz x.xP.xM.xPool.xNodes)), .sl true 1 (ssC (mkS x.xP.xBox (K + 9 + szL DNode.mz x.xP.xM.xPool.xNodes))), .sl true 1 (ssC (mkS x.xP.xOut (K + 9 + szL DNode.mz x.xP.xM.xPool.xNodes + mzS x.xP.xBox)))] := by rw [hes, List.getElem?_map, mkL_at DHome.me DHome.mz hx, hK]; rfl
    have := szL_nonneg DNode.mz_nonneg x.xP.xM.xPool.xNodes
    have := mzS_nonneg x.xP.xBox
    have := mzS_nonneg x.xP.xOut
    have hmz : x.mz = 9 + szL DNode.mz x.xP.xM.xPool.xNodes + mzS x.xP.xBox + mzS x.xP.xOut := rfl
    refine ⟨i0, _, hrow, ?_⟩
    conv => whnf
    rw [eqI_self, hq0]
    conv => whnf
    rw [show wrp .i64 (K + 1) = K + 1 from (wrp_i64 (by omega) (by omega)).trans (by omega)]
    refine ⟨i0, _, hrow, ?_⟩
    conv => whnf
    rw [eqI_self, hq0]
    conv => whnf
    rw [show wrp .i64 (K + 1 + 1) = K + 2 from (wrp_i64 (by omega) (by omega)).trans (by omega)]
    refine ⟨i0, _, hrow, ?_⟩
    conv => whnf
    refine (heldNodeS_ok x.xP.xM.xPool.xNodes (K + 2) (by omega) (by omega)).mono ?_
    rintro _ _ ⟨rfl, rfl⟩
    conv => whnf
    rw [neg_f (x := K + 2 + szL DNode.mz x.xP.xM.xPool.xNodes) (by omega)]
    conv => whnf
    refine ⟨i0, _, hrow, ?_⟩
    conv => whnf
    rw [eqI_self, hq0]
    conv => whnf
    rw [show wrp .i64 (K + 2 + szL DNode.mz x.xP.xM.xPool.xNodes + 1) = K + 3 + szL DNode.mz x.xP.xM.xPool.xNodes from (wrp_i64 (by omega) (by omega)).trans (by omega)]
    refine ⟨i0, _, hrow, ?_⟩
    conv => whnf
    rw [eqI_self, hq0]
    conv => whnf
    rw [show wrp .i64 (K + 3 + szL DNode.mz x.xP.xM.xPool.xNodes + 1) = K + 4 + szL DNode.mz x.xP.xM.xPool.xNodes from (wrp_i64 (by omega) (by omega)).trans (by omega)]
    refine ⟨i0, _, hrow, ?_⟩
    conv => whnf
    rw [eqI_self, hq0]
    conv => whnf
    rw [show wrp .i64 (K + 4 + szL DNode.mz x.xP.xM.xPool.xNodes + 1) = K + 5 + szL DNode.mz x.xP.xM.xPool.xNodes from (wrp_i64 (by omega) (by omega)).trans (by omega)]
    refine ⟨i0, _, hrow, ?_⟩
    conv => whnf
    rw [eqI_self, hq0]
    conv => whnf
    rw [show wrp .i64 (K + 5 + szL DNode.mz x.xP.xM.xPool.xNodes + 1) = K + 6 + szL DNode.mz x.xP.xM.xPool.xNodes from (wrp_i64 (by omega) (by omega)).trans (by omega)]
    refine ⟨i0, _, hrow, ?_⟩
    conv => whnf
    rw [eqI_self, hq0]
    conv => whnf
    rw [show wrp .i64 (K + 6 + szL DNode.mz x.xP.xM.xPool.xNodes + 1) = K + 7 + szL DNode.mz x.xP.xM.xPool.xNodes from (wrp_i64 (by omega) (by omega)).trans (by omega)]
    refine ⟨i0, _, hrow, ?_⟩
    conv => whnf
    rw [eqI_self, hq0]
    conv => whnf
    rw [show wrp .i64 (K + 7 + szL DNode.mz x.xP.xM.xPool.xNodes + 1) = K + 8 + szL DNode.mz x.xP.xM.xPool.xNodes from (wrp_i64 (by omega) (by omega)).trans (by omega)]
    refine ⟨i0, _, hrow, ?_⟩
    conv => whnf
    rw [eqI_self, hq0]
    conv => whnf
    rw [show wrp .i64 (K + 8 + szL DNode.mz x.xP.xM.xPool.xNodes + 1) = K + 9 + szL DNode.mz x.xP.xM.xPool.xNodes from (wrp_i64 (by omega) (by omega)).trans (by omega)]
    refine ⟨i0, _, hrow, ?_⟩
    conv => whnf
    refine (heldStringS_ok x.xP.xBox (K + 9 + szL DNode.mz x.xP.xM.xPool.xNodes) (by omega) (by omega)).mono ?_
    rintro _ _ ⟨rfl, rfl⟩
    conv => whnf
    rw [neg_f (x := K + 9 + szL DNode.mz x.xP.xM.xPool.xNodes + mzS x.xP.xBox) (by omega)]
    conv => whnf
    refine ⟨i0, _, hrow, ?_⟩
    conv => whnf
    refine (heldStringS_ok x.xP.xOut (K + 9 + szL DNode.mz x.xP.xM.xPool.xNodes + mzS x.xP.xBox) (by omega) (by omega)).mono ?_
    rintro _ _ ⟨rfl, rfl⟩
    conv => whnf
    rw [neg_f (x := K + 9 + szL DNode.mz x.xP.xM.xPool.xNodes + mzS x.xP.xBox + mzS x.xP.xOut) (by omega)]
    conv => whnf
    rw [wrp_i64 (x := i + 1) (by omega) (by omega)]
    have eK : k + szL DHome.mz (xs.take (i.toNat + 1)) = K + 9 + szL DNode.mz x.xP.xM.xPool.xNodes + mzS x.xP.xBox + mzS x.xP.xOut := by omega
    refine ⟨xs.length - (i + 1).toNat, _, by omega, norm_wk (keep := [0, 1, 4, 5]) (kb := []) (ρ := []) rfl, ⟨i + 1, ?_, rfl, by omega, by omega⟩⟩
    rw [show (i + 1).toNat = i.toNat + 1 by omega, eK]
    try rfl
  · rw [ltI_f] at h
    rw [List.take_of_length_le (by omega)]
    exact ⟨rfl, rfl⟩

set_option maxRecDepth 100000 in
set_option maxHeartbeats 4000000 in
theorem heldGramS_ok (xs : List DGram) (k : Int) (h0 : 0 ≤ k) (hk : k + szL DGram.mz xs ≤ 1000000000) : FnV Tryz.prog 75 [.rdv false [.sl true 5 ((mkL DGram.me DGram.mz xs k).map DGram.c)], iV k] fun rs outs => rs = [iR (k + szL DGram.mz xs)] ∧ outs = [] := by
  have hl := szL_len (f := DGram.mz) (fun x => by show 1 ≤ 5; omega) xs
  obtain ⟨es, hes⟩ : ∃ es, es = ((mkL DGram.me DGram.mz xs k).map DGram.c) := ⟨_, rfl⟩
  rw [← hes]
  have hel : es.length = xs.length := by rw [hes, List.length_map, mkL_len]
  refine fn_ok (E := EHeB) τ_ok mixed Tryz.func75 (by rfl) (by rfl) false (by simp [Tryz.f75]) ?_
  conv => whnf
  refine ⟨fun m s => ∃ (i : Int), s = ⟨[(0, .vals false [.rd none 5 es]), (1, .vals false [.sc (.int .i64 (k + szL DGram.mz (xs.take i.toNat)))]), (4, .vals false [.sc (.int .i64 0)]), (5, .vals false [.sc (.int .i64 i)])], [], []⟩ ∧ m = xs.length - i.toNat ∧ 0 ≤ i ∧ i ≤ xs.length,
    ⟨_, _, norm_wk (keep := [0, 1, 4, 5]) (kb := []) (ρ := []) rfl, ⟨0, by simp [szL], rfl, by omega, by omega⟩⟩, ?_⟩
  rintro m _ ⟨i, rfl, rfl, i0, i1⟩
  conv => whnf
  rw [hel]
  refine br_if (fun h => ?_) (fun h => ?_) <;> (try rw [h]) <;> (conv => whnf)
  · rw [ltI_t] at h
    obtain ⟨x, hx⟩ : ∃ x, xs[i.toNat]? = some x := ⟨_, List.getElem?_eq_getElem (by omega)⟩
    have hsucc := szL_succ (f := DGram.mz) hx
    have htk := szL_take (f := DGram.mz) DGram.mz_nonneg xs (i.toNat + 1)
    have h00 := szL_nonneg (f := DGram.mz) DGram.mz_nonneg (xs.take i.toNat)
    generalize hK : k + szL DGram.mz (xs.take i.toNat) = K
    have hrow : es[i.toNat]? = some [.sc (.int .i64 (K)), .sc (.int .i64 (K + 1)), .sc (.int .i64 (K + 2)), .sc (.int .i64 (K + 3)), .sc (.string (mkT (K + 4)))] := by rw [hes, List.getElem?_map, mkL_at DGram.me DGram.mz hx, hK]; rfl
    have hmz : x.mz = 5 := rfl
    refine ⟨i0, _, hrow, ?_⟩
    conv => whnf
    rw [eqI_self, hq0]
    conv => whnf
    rw [show wrp .i64 (K + 1) = K + 1 from (wrp_i64 (by omega) (by omega)).trans (by omega)]
    refine ⟨i0, _, hrow, ?_⟩
    conv => whnf
    rw [eqI_self, hq0]
    conv => whnf
    rw [show wrp .i64 (K + 1 + 1) = K + 2 from (wrp_i64 (by omega) (by omega)).trans (by omega)]
    refine ⟨i0, _, hrow, ?_⟩
    conv => whnf
    rw [eqI_self, hq0]
    conv => whnf
    rw [show wrp .i64 (K + 2 + 1) = K + 3 from (wrp_i64 (by omega) (by omega)).trans (by omega)]
    refine ⟨i0, _, hrow, ?_⟩
    conv => whnf
    rw [eqI_self, hq0]
    conv => whnf
    rw [show wrp .i64 (K + 3 + 1) = K + 4 from (wrp_i64 (by omega) (by omega)).trans (by omega)]
    refine ⟨.one (.take 0 (.take 1 (.take 2 (.take 3 (.take 4 (.take 6 (.early 5 (.or 7 (.take 8 .done) .nil)))))))), by rfl, ?_⟩
    conv => whnf
    refine ⟨i0, _, hrow, ?_⟩
    conv => whnf
    refine (markText_ok (K + 4) (by omega)).mono ?_
    rintro _ _ ⟨rfl, rfl⟩
    conv => whnf
    refine ⟨rfl, ?_⟩
    conv => whnf
    rw [eqStr_self, hq0]
    conv => whnf
    rw [show wrp .i64 (K + 4 + 1) = K + 5 from (wrp_i64 (by omega) (by omega)).trans (by omega)]
    rw [wrp_i64 (x := i + 1) (by omega) (by omega)]
    have eK : k + szL DGram.mz (xs.take (i.toNat + 1)) = K + 5 := by omega
    refine ⟨xs.length - (i + 1).toNat, _, by omega, norm_wk (keep := [0, 1, 4, 5]) (kb := []) (ρ := []) rfl, ⟨i + 1, ?_, rfl, by omega, by omega⟩⟩
    rw [show (i + 1).toNat = i.toNat + 1 by omega, eK]
    try rfl
  · rw [ltI_f] at h
    rw [List.take_of_length_le (by omega)]
    exact ⟨rfl, rfl⟩

set_option maxRecDepth 100000 in
set_option maxHeartbeats 4000000 in
theorem heldParkedS_ok (xs : List DParked) (k : Int) (h0 : 0 ≤ k) (hk : k + szL DParked.mz xs ≤ 1000000000) : FnV Tryz.prog 76 [.rdv false [.sl true 3 ((mkL DParked.me DParked.mz xs k).map DParked.c)], iV k] fun rs outs => rs = [iR (k + szL DParked.mz xs)] ∧ outs = [] := by
  have hl := szL_len (f := DParked.mz) (fun x => by show 1 ≤ 3; omega) xs
  obtain ⟨es, hes⟩ : ∃ es, es = ((mkL DParked.me DParked.mz xs k).map DParked.c) := ⟨_, rfl⟩
  rw [← hes]
  have hel : es.length = xs.length := by rw [hes, List.length_map, mkL_len]
  refine fn_ok (E := EHeB) τ_ok mixed Tryz.func76 (by rfl) (by rfl) false (by simp [Tryz.f76]) ?_
  conv => whnf
  refine ⟨fun m s => ∃ (i : Int), s = ⟨[(0, .vals false [.rd none 3 es]), (1, .vals false [.sc (.int .i64 (k + szL DParked.mz (xs.take i.toNat)))]), (4, .vals false [.sc (.int .i64 0)]), (5, .vals false [.sc (.int .i64 i)])], [], []⟩ ∧ m = xs.length - i.toNat ∧ 0 ≤ i ∧ i ≤ xs.length,
    ⟨_, _, norm_wk (keep := [0, 1, 4, 5]) (kb := []) (ρ := []) rfl, ⟨0, by simp [szL], rfl, by omega, by omega⟩⟩, ?_⟩
  rintro m _ ⟨i, rfl, rfl, i0, i1⟩
  conv => whnf
  rw [hel]
  refine br_if (fun h => ?_) (fun h => ?_) <;> (try rw [h]) <;> (conv => whnf)
  · rw [ltI_t] at h
    obtain ⟨x, hx⟩ : ∃ x, xs[i.toNat]? = some x := ⟨_, List.getElem?_eq_getElem (by omega)⟩
    have hsucc := szL_succ (f := DParked.mz) hx
    have htk := szL_take (f := DParked.mz) DParked.mz_nonneg xs (i.toNat + 1)
    have h00 := szL_nonneg (f := DParked.mz) DParked.mz_nonneg (xs.take i.toNat)
    generalize hK : k + szL DParked.mz (xs.take i.toNat) = K
    have hrow : es[i.toNat]? = some [.sc (.int .i64 (K)), .sc (.int .i64 (K + 1)), .sc (.string (mkT (K + 2)))] := by rw [hes, List.getElem?_map, mkL_at DParked.me DParked.mz hx, hK]; rfl
    have hmz : x.mz = 3 := rfl
    refine ⟨i0, _, hrow, ?_⟩
    conv => whnf
    rw [eqI_self, hq0]
    conv => whnf
    rw [show wrp .i64 (K + 1) = K + 1 from (wrp_i64 (by omega) (by omega)).trans (by omega)]
    refine ⟨i0, _, hrow, ?_⟩
    conv => whnf
    rw [eqI_self, hq0]
    conv => whnf
    rw [show wrp .i64 (K + 1 + 1) = K + 2 from (wrp_i64 (by omega) (by omega)).trans (by omega)]
    refine ⟨.one (.take 0 (.take 1 (.take 2 (.take 3 (.take 5 (.early 4 (.or 6 (.take 7 .done) .nil))))))), by rfl, ?_⟩
    conv => whnf
    refine ⟨i0, _, hrow, ?_⟩
    conv => whnf
    refine (markText_ok (K + 2) (by omega)).mono ?_
    rintro _ _ ⟨rfl, rfl⟩
    conv => whnf
    refine ⟨rfl, ?_⟩
    conv => whnf
    rw [eqStr_self, hq0]
    conv => whnf
    rw [show wrp .i64 (K + 2 + 1) = K + 3 from (wrp_i64 (by omega) (by omega)).trans (by omega)]
    rw [wrp_i64 (x := i + 1) (by omega) (by omega)]
    have eK : k + szL DParked.mz (xs.take (i.toNat + 1)) = K + 3 := by omega
    refine ⟨xs.length - (i + 1).toNat, _, by omega, norm_wk (keep := [0, 1, 4, 5]) (kb := []) (ρ := []) rfl, ⟨i + 1, ?_, rfl, by omega, by omega⟩⟩
    rw [show (i + 1).toNat = i.toNat + 1 by omega, eK]
    try rfl
  · rw [ltI_f] at h
    rw [List.take_of_length_le (by omega)]
    exact ⟨rfl, rfl⟩

set_option maxRecDepth 100000 in
set_option maxHeartbeats 4000000 in
theorem heldStringSS_ok (xs : List (List ByteArray)) (k : Int) (h0 : 0 ≤ k) (hk : k + szL mzS xs ≤ 1000000000) (hl : xs.length ≤ 9223372036854775807) : FnV Tryz.prog 77 [.rdv false [.sl true 1 (sssC (mkL mkS mzS xs k))], iV k] fun rs outs => rs = [iR (k + szL mzS xs)] ∧ outs = [] := by
  obtain ⟨es, hes⟩ : ∃ es, es = (sssC (mkL mkS mzS xs k)) := ⟨_, rfl⟩
  rw [← hes]
  have hel : es.length = xs.length := by rw [hes, List.length_map, mkL_len]
  refine fn_ok (E := EHeB) τ_ok mixed Tryz.func77 (by rfl) (by rfl) false (by simp [Tryz.f77]) ?_
  conv => whnf
  refine ⟨fun m s => ∃ (i : Int), s = ⟨[(0, .vals false [.rd none 1 es]), (1, .vals false [.sc (.int .i64 (k + szL mzS (xs.take i.toNat)))]), (4, .vals false [.sc (.int .i64 0)]), (5, .vals false [.sc (.int .i64 i)])], [], []⟩ ∧ m = xs.length - i.toNat ∧ 0 ≤ i ∧ i ≤ xs.length,
    ⟨_, _, norm_wk (keep := [0, 1, 4, 5]) (kb := []) (ρ := []) rfl, ⟨0, by simp [szL], rfl, by omega, by omega⟩⟩, ?_⟩
  rintro m _ ⟨i, rfl, rfl, i0, i1⟩
  conv => whnf
  rw [hel]
  refine br_if (fun h => ?_) (fun h => ?_) <;> (try rw [h]) <;> (conv => whnf)
  · rw [ltI_t] at h
    obtain ⟨x, hx⟩ : ∃ x, xs[i.toNat]? = some x := ⟨_, List.getElem?_eq_getElem (by omega)⟩
    have hsucc := szL_succ (f := mzS) hx
    have htk := szL_take (f := mzS) mzS_nonneg xs (i.toNat + 1)
    have h00 := szL_nonneg (f := mzS) mzS_nonneg (xs.take i.toNat)
    generalize hK : k + szL mzS (xs.take i.toNat) = K
    have hrow : es[i.toNat]? = some [.sl true 1 (ssC (mkS x (K)))] := by rw [hes, List.getElem?_map, mkL_at mkS mzS hx, hK]; rfl
    have := mzS_nonneg x
    refine ⟨i0, _, hrow, ?_⟩
    conv => whnf
    refine (heldStringS_ok x (K) (by omega) (by omega)).mono ?_
    rintro _ _ ⟨rfl, rfl⟩
    conv => whnf
    rw [neg_f (x := K + mzS x) (by omega)]
    conv => whnf
    rw [wrp_i64 (x := i + 1) (by omega) (by omega)]
    have eK : k + szL mzS (xs.take (i.toNat + 1)) = K + mzS x := by omega
    refine ⟨xs.length - (i + 1).toNat, _, by omega, norm_wk (keep := [0, 1, 4, 5]) (kb := []) (ρ := []) rfl, ⟨i + 1, ?_, rfl, by omega, by omega⟩⟩
    rw [show (i + 1).toNat = i.toNat + 1 by omega, eK]
    try rfl
  · rw [ltI_f] at h
    rw [List.take_of_length_le (by omega)]
    exact ⟨rfl, rfl⟩

end Go.Proofs.YtifodjnbcnbcpaaGreat.V

set_option linter.unusedVariables false

set_option linter.unusedSimpArgs false

namespace Go.Proofs.YtifodjnbcnbcpaaGreat.V

open Go

def MdEVx (f : Nat) : List Mode :=
  match f with
  | 72 => [.rd, .rd]
  | 73 => [.rd, .rd]
  | 74 => [.rd, .rd]
  | 75 => [.rd, .rd]
  | 76 => [.rd, .rd]
  | 77 => [.rd, .rd]
  | 140 => [.rd, .rd]
  | 141 => [.rd, .rd]
  | 142 => [.rd, .rd]
  | _ => []

def EVx : Env := ⟨τ, MdEVx⟩

set_option maxRecDepth 100000 in
theorem heldCode_ok (a : DCode) (k : Int) (h0 : 0 ≤ k) (hk : k + a.wz ≤ 1000000000) : FnV Tryz.prog 72 [.rdv true (a.mw k).c, iV k] fun rs outs => rs = [iR (k + a.wz)] ∧ outs = [] := by
  have n1 := szL_nonneg DNode.mz_nonneg a.xPool.xNodes
  have n2 := szL_nonneg DInstr.mz_nonneg a.xList
  have n3 := szL_nonneg DDef.mz_nonneg a.xDefs
  have e : a.wz = szL DNode.mz a.xPool.xNodes + szL DInstr.mz a.xList + szL DDef.mz a.xDefs := rfl
  have e1 : a.xPool.wz = szL DNode.mz a.xPool.xNodes := rfl
  refine fn_ok (E := EVx) τ_ok mixed Tryz.func72 (by rfl) (by rfl) false (by simp [Tryz.f72]) ?_
  conv => whnf
  refine (heldPool_ok a.xPool k h0 (by omega)).mono ?_
  rintro _ _ ⟨rfl, rfl⟩
  conv => whnf
  refine br_if (fun h1 => ?_) (fun h1 => ?_) <;> (try rw [h1]) <;> (conv => whnf)
  · rw [ltI_t] at h1
    omega
  refine (heldInstrS_ok a.xList (k + a.xPool.wz) (by omega) (by omega)).mono ?_
  rintro _ _ ⟨rfl, rfl⟩
  conv => whnf
  refine br_if (fun h2 => ?_) (fun h2 => ?_) <;> (try rw [h2]) <;> (conv => whnf)
  · rw [ltI_t] at h2
    omega
  refine (heldDefS_ok a.xDefs (k + a.xPool.wz + szL DInstr.mz a.xList) (by omega) (by omega)).mono ?_
  rintro _ _ ⟨rfl, rfl⟩
  conv => whnf
  refine br_if (fun h3 => ?_) (fun h3 => ?_) <;> (try rw [h3]) <;> (conv => whnf)
  · rw [ltI_t] at h3
    omega
  · exact mk_eq (by omega) rfl

set_option maxRecDepth 100000 in
set_option maxHeartbeats 4000000 in
theorem heldWorld_ok (a : DWorld) (k : Int) (h0 : 0 ≤ k) (hk : k + a.wz ≤ 1000000000) (ho : a.ok) : FnV Tryz.prog 17 [.rdv true (a.mw k).c, iV k] fun rs outs => rs = [iR (k + a.wz)] ∧ outs = [] := by
  have n1 := szL_nonneg DNode.mz_nonneg a.xCode.xPool.xNodes
  have n2 := szL_nonneg DInstr.mz_nonneg a.xCode.xList
  have n3 := szL_nonneg DDef.mz_nonneg a.xCode.xDefs
  have n4 := szL_nonneg DHome.mz_nonneg a.xHomes
  have n5 := szL_nonneg DLink.mz_nonneg a.xLinks
  have n6 := szL_nonneg DGram.mz_nonneg a.xGrams
  have n7 := szL_nonneg DParked.mz_nonneg a.xParked
  have n8 := szL_nonneg mzS_nonneg a.xGave
  have n9 := szL_nonneg mzS_nonneg a.xTook
  have l1 := ho.2.2.2.2.2.2.2.1.1
  have l2 := ho.2.2.2.2.2.2.2.2.1
  have e : a.wz = szL DNode.mz a.xCode.xPool.xNodes + szL DInstr.mz a.xCode.xList + szL DDef.mz a.xCode.xDefs + szL DHome.mz a.xHomes + szL DLink.mz a.xLinks + szL DGram.mz a.xGrams + szL DParked.mz a.xParked + szL mzS a.xGave + szL mzS a.xTook := rfl
  have e1 : a.xCode.wz = szL DNode.mz a.xCode.xPool.xNodes + szL DInstr.mz a.xCode.xList + szL DDef.mz a.xCode.xDefs := rfl
  refine fn_ok (E := EVx) τ_ok mixed Tryz.func17 (by rfl) (by rfl) false (by simp [Tryz.f17]) ?_
  conv => whnf
  refine (heldCode_ok a.xCode k h0 (by omega)).mono ?_
  rintro _ _ ⟨rfl, rfl⟩
  conv => whnf
  refine br_if (fun h1 => ?_) (fun h1 => ?_) <;> (try rw [h1]) <;> (conv => whnf)
  · rw [ltI_t] at h1
    omega
  rw [show k + a.xCode.wz = k + szL DNode.mz a.xCode.xPool.xNodes + szL DInstr.mz a.xCode.xList + szL DDef.mz a.xCode.xDefs by omega]
  refine (heldHomeS_ok a.xHomes (k + szL DNode.mz a.xCode.xPool.xNodes + szL DInstr.mz a.xCode.xList + szL DDef.mz a.xCode.xDefs) (by omega) (by omega)).mono ?_
  rintro _ _ ⟨rfl, rfl⟩
  conv => whnf
  refine br_if (fun h2 => ?_) (fun h2 => ?_) <;> (try rw [h2]) <;> (conv => whnf)
  · rw [ltI_t] at h2
    omega
  refine (heldLinkS_ok a.xLinks (k + szL DNode.mz a.xCode.xPool.xNodes + szL DInstr.mz a.xCode.xList + szL DDef.mz a.xCode.xDefs + szL DHome.mz a.xHomes) (by omega) (by omega)).mono ?_
  rintro _ _ ⟨rfl, rfl⟩
  conv => whnf
  refine br_if (fun h3 => ?_) (fun h3 => ?_) <;> (try rw [h3]) <;> (conv => whnf)
  · rw [ltI_t] at h3
    omega
  refine (heldGramS_ok a.xGrams (k + szL DNode.mz a.xCode.xPool.xNodes + szL DInstr.mz a.xCode.xList + szL DDef.mz a.xCode.xDefs + szL DHome.mz a.xHomes + szL DLink.mz a.xLinks) (by omega) (by omega)).mono ?_
  rintro _ _ ⟨rfl, rfl⟩
  conv => whnf
  refine br_if (fun h4 => ?_) (fun h4 => ?_) <;> (try rw [h4]) <;> (conv => whnf)
  · rw [ltI_t] at h4
    omega
  refine (heldParkedS_ok a.xParked (k + szL DNode.mz a.xCode.xPool.xNodes + szL DInstr.mz a.xCode.xList + szL DDef.mz a.xCode.xDefs + szL DHome.mz a.xHomes + szL DLink.mz a.xLinks + szL DGram.mz a.xGrams) (by omega) (by omega)).mono ?_
  rintro _ _ ⟨rfl, rfl⟩
  conv => whnf
  refine br_if (fun h5 => ?_) (fun h5 => ?_) <;> (try rw [h5]) <;> (conv => whnf)
  · rw [ltI_t] at h5
    omega
  refine (heldStringSS_ok a.xGave (k + szL DNode.mz a.xCode.xPool.xNodes + szL DInstr.mz a.xCode.xList + szL DDef.mz a.xCode.xDefs + szL DHome.mz a.xHomes + szL DLink.mz a.xLinks + szL DGram.mz a.xGrams + szL DParked.mz a.xParked) (by omega) (by omega) l1).mono ?_
  rintro _ _ ⟨rfl, rfl⟩
  conv => whnf
  refine br_if (fun h6 => ?_) (fun h6 => ?_) <;> (try rw [h6]) <;> (conv => whnf)
  · rw [ltI_t] at h6
    omega
  refine (heldStringSS_ok a.xTook (k + szL DNode.mz a.xCode.xPool.xNodes + szL DInstr.mz a.xCode.xList + szL DDef.mz a.xCode.xDefs + szL DHome.mz a.xHomes + szL DLink.mz a.xLinks + szL DGram.mz a.xGrams + szL DParked.mz a.xParked + szL mzS a.xGave) (by omega) (by omega) l2).mono ?_
  rintro _ _ ⟨rfl, rfl⟩
  conv => whnf
  refine br_if (fun h7 => ?_) (fun h7 => ?_) <;> (try rw [h7]) <;> (conv => whnf)
  · rw [ltI_t] at h7
    omega
  · exact mk_eq (by omega) rfl

end Go.Proofs.YtifodjnbcnbcpaaGreat.V

set_option linter.unusedVariables false

set_option linter.unusedSimpArgs false

namespace Go.Proofs.YtifodjnbcnbcpaaGreat.V

open Go

def gn (zs : List Int) : Nat → Nat → Option (Int × Nat)
  | 0, _ => none
  | f + 1, i => match zs[i]? with
    | none => none
    | some d => if d < 128 then (if d = 0 ∧ f + 1 < 9 then none else some (d, i + 1)) else (gn zs f (i + 1)).map fun p => (d % 128 + 128 * p.1, p.2)

def cm (acc : Int) (K : Nat) (r : Option (Int × Nat)) : Option (Int × Nat) := r.map fun p => (acc + 128 ^ K * p.1, p.2)

theorem gn_none {zs : List Int} {f i : Nat} (h : f = 0 ∨ zs.length ≤ i) : gn zs f i = none := by
  cases f with
  | zero => rfl
  | succ f =>
    have : zs[i]? = none := by
      rw [List.getElem?_eq_none_iff]
      omega
    simp [gn, this]

theorem gn_small {zs : List Int} {f i : Nat} {d : Int} (h : zs[i]? = some d) (hd : d < 128) : gn zs (f + 1) i = if d = 0 ∧ f + 1 < 9 then none else some (d, i + 1) := by
  simp [gn, h, hd]

theorem gn_big {zs : List Int} {f i : Nat} {d : Int} (h : zs[i]? = some d) (hd : ¬ d < 128) : gn zs (f + 1) i = (gn zs f (i + 1)).map fun p => (d % 128 + 128 * p.1, p.2) := by
  simp [gn, h, hd]

theorem cm_small {zs : List Int} {a K : Nat} {acc d : Int} (hK : K < 9) (h : zs[a + K]? = some d) (hd : d < 128) (hi : cm acc K (gn zs (9 - K) (a + K)) = gn zs 9 a) :
    (d = 0 ∧ 0 < K → gn zs 9 a = none) ∧ (¬ (d = 0 ∧ 0 < K) → gn zs 9 a = some (acc + 128 ^ K * d, a + K + 1)) := by
  have e : 9 - K = (9 - K - 1) + 1 := by omega
  rw [e, gn_small h hd] at hi
  refine ⟨fun hc => ?_, fun hc => ?_⟩
  · rw [if_pos (by omega)] at hi
    exact hi.symm
  · rw [if_neg (by omega)] at hi
    exact hi.symm

theorem cm_big {zs : List Int} {a K : Nat} {acc d : Int} (hK : K < 9) (h : zs[a + K]? = some d) (hd : ¬ d < 128) (hi : cm acc K (gn zs (9 - K) (a + K)) = gn zs 9 a) :
    cm (acc + 128 ^ K * (d % 128)) (K + 1) (gn zs (9 - (K + 1)) (a + (K + 1))) = gn zs 9 a := by
  have e : 9 - K = (9 - (K + 1)) + 1 := by omega
  rw [e, gn_big h hd] at hi
  rw [← hi]
  unfold cm
  rw [show a + (K + 1) = a + K + 1 by omega]
  cases gn zs (9 - (K + 1)) (a + K + 1) with
  | none => rfl
  | some p =>
    simp only [Option.map_some]
    congr 2
    rw [Int.pow_succ, Int.mul_add, ← Int.mul_assoc, Int.add_assoc]

theorem cm_end {zs : List Int} {a K : Nat} {acc : Int} (h : 9 ≤ K ∨ zs.length ≤ a + K) (hi : cm acc K (gn zs (9 - K) (a + K)) = gn zs 9 a) : gn zs 9 a = none := by
  rw [gn_none (by omega)] at hi
  exact hi.symm

theorem pow128 {K : Nat} (h : K ≤ 9) : 0 < (128 : Int) ^ K ∧ (128 : Int) ^ K ≤ 9223372036854775808 := by
  rcases (show K = 0 ∨ K = 1 ∨ K = 2 ∨ K = 3 ∨ K = 4 ∨ K = 5 ∨ K = 6 ∨ K = 7 ∨ K = 8 ∨ K = 9 by omega) with rfl | rfl | rfl | rfl | rfl | rfl | rfl | rfl | rfl | rfl <;> decide

theorem pow128' {K : Nat} (h : K < 9) : 0 < (128 : Int) ^ K ∧ (128 : Int) ^ K * 128 ≤ 9223372036854775808 := by
  have := pow128 (K := K + 1) (by omega)
  rw [Int.pow_succ] at this
  exact ⟨(pow128 (K := K) (by omega)).1, this.2⟩

theorem acc_step {K : Nat} {acc d : Int} (hK : K < 9) (h0 : 0 ≤ acc) (h1 : acc < 128 ^ K) (hd0 : 0 ≤ d) (hd : d < 128) :
    0 ≤ 128 ^ K * d ∧ 128 ^ K * d ≤ 9223372036854775807 ∧ 0 ≤ acc + 128 ^ K * d ∧ acc + 128 ^ K * d ≤ 9223372036854775807 ∧ acc + 128 ^ K * d < 128 ^ (K + 1) := by
  obtain ⟨p0, p1⟩ := pow128' hK
  rw [Int.pow_succ]
  generalize (128 : Int) ^ K = P at *
  have a1 : 0 ≤ P * d := Int.mul_nonneg (by omega) hd0
  have a2 : P * d ≤ P * 127 := Int.mul_le_mul_of_nonneg_left (by omega) (by omega)
  omega

@[irreducible] def getNum (zs : List Int) (at' : Int) : Option (Int × Nat) := if at' < 0 then none else gn zs 9 at'.toNat

@[irreducible] def gX (zs : List Int) (at' : Int) : Int := ((getNum zs at').getD (0, 0)).1

@[irreducible] def gJ (zs : List Int) (at' : Int) : Int := ((getNum zs at').getD (0, 0)).2

@[irreducible] def gB (zs : List Int) (at' : Int) : Bool := (getNum zs at').isSome

theorem g_none {zs : List Int} {a : Int} (h : getNum zs a = none) : gX zs a = 0 ∧ gJ zs a = 0 ∧ gB zs a = false := by
  unfold gX gJ gB
  rw [h]
  exact ⟨rfl, rfl, rfl⟩

theorem g_some {zs : List Int} {a x : Int} {j : Nat} (h : getNum zs a = some (x, j)) : gX zs a = x ∧ gJ zs a = j ∧ gB zs a = true := by
  unfold gX gJ gB
  rw [h]
  exact ⟨rfl, rfl, rfl⟩

theorem gRes_none {zs : List Int} {a : Int} (h : getNum zs a = none) : [iR 0, iR 0, bR false] = [iR (gX zs a), iR (gJ zs a), bR (gB zs a)] ∧ ([] : List (List C)) = [] := by
  obtain ⟨h1, h2, h3⟩ := g_none h
  rw [h1, h2, h3]
  exact ⟨rfl, rfl⟩

theorem gRes_some {zs : List Int} {a x y z : Int} {j : Nat} (h : getNum zs a = some (x, j)) (hy : y = x) (hz : z = j) : [iR y, iR z, bR true] = [iR (gX zs a), iR (gJ zs a), bR (gB zs a)] ∧ ([] : List (List C)) = [] := by
  obtain ⟨h1, h2, h3⟩ := g_some h
  rw [h1, h2, h3, hy, hz]
  exact ⟨rfl, rfl⟩

theorem getNum_pos {zs : List Int} {a : Int} (h : 0 ≤ a) : getNum zs a = gn zs 9 a.toNat := by
  unfold getNum
  rw [if_neg (by omega)]

theorem getNum_out {zs : List Int} {a : Int} (h : a < 0 ∨ (zs.length : Int) ≤ a) : getNum zs a = none := by
  unfold getNum
  split
  · rfl
  · exact gn_none (.inr (by omega))

def MdE2 (f : Nat) : List Mode :=
  match f with
  | 54 => [.rd, .rd, .rd]
  | _ => []

def E2 : Env := ⟨τ, MdE2⟩

set_option maxRecDepth 100000 in
theorem s_l1In_ok (x y z : Int) : FnV Tryz.prog 48 [iV x, iV y, iV z] fun rs outs => rs = [bR (decide (y ≤ x ∧ x ≤ z))] ∧ outs = [] := by
  refine fn_ok (E := E2) τ_ok mixed Tryz.func48 (by rfl) (by rfl) false (by simp [Tryz.f48]) ?_
  conv => whnf
  repeat' (refine br_if (fun h => ?_) (fun h => ?_) <;> (try rw [h]) <;> (conv => whnf))
  all_goals refine bR_eq ?_
  all_goals simp [leI_eq] at *
  all_goals omega

set_option maxRecDepth 100000 in
theorem i_within_ok (x y z : Int) : FnV Tryz.prog 54 [iV x, iV y, iV z] fun rs outs => rs = [bR (decide (y ≤ x ∧ x ≤ z))] ∧ outs = [] := by
  refine fn_ok (E := E2) τ_ok mixed Tryz.func54 (by rfl) (by rfl) false (by simp [Tryz.f54]) ?_
  conv => whnf
  repeat' (refine br_if (fun h => ?_) (fun h => ?_) <;> (try rw [h]) <;> (conv => whnf))
  all_goals refine bR_eq ?_
  all_goals simp [leI_eq] at *
  all_goals omega

theorem bts_at {zs : List Int} {i : Nat} {d : Int} (h : zs[i]? = some d) : (bts zs)[i]? = some [.sc (.int .u8 d)] := by simp [bts, h]

def Bytes (zs : List Int) : Prop := ∀ z ∈ zs, 0 ≤ z ∧ z < 256

set_option maxRecDepth 100000 in
theorem s_GetNum_ok (zs : List Int) (a : Int) (hz : Bytes zs) (hl : zs.length ≤ 1000000000) (ha0 : -9223372036854775808 ≤ a) (ha : a ≤ 9223372036854775807) :
    FnV Tryz.prog 321 [bV zs, iV a] fun rs outs => rs = [iR (gX zs a), iR (gJ zs a), bR (gB zs a)] ∧ outs = [] := by
  refine fn_ok (E := E2) τ_ok mixed Tryz.func321 (by rfl) (by rfl) false (by simp [Tryz.f321]) ?_
  conv => whnf
  refine br_if (fun h => ?_) (fun h => ?_) <;> (try rw [h]) <;> (conv => whnf)
  · rw [ltI_t] at h
    exact gRes_none (getNum_out (.inl h))
  rw [ltI_f] at h
  refine br_if (fun h => ?_) (fun h => ?_) <;> (try rw [h]) <;> (conv => whnf)
  · rw [leI_t, bts_len] at h
    exact gRes_none (getNum_out (.inr h))
  rw [leI_f, bts_len] at h
  have hg := getNum_pos (zs := zs) ‹0 ≤ a›
  refine ⟨fun n s => ∃ (k acc un : Int), s = ⟨[(0, .vals false [.rd none 1 (bts zs)]), (1, .vals false [.sc (.int .i64 a)]), (7, .vals false [.sc (.int .i64 acc)]), (8, .vals false [.sc (.int .i64 un)]), (9, .vals false [.sc (.int .i64 k)])], [], []⟩ ∧ n = 9 - k.toNat ∧ un = wrp .i64 (128 ^ k.toNat) ∧ 0 ≤ k ∧ k ≤ 9 ∧ 0 ≤ acc ∧ acc < 128 ^ k.toNat ∧ cm acc k.toNat (gn zs (9 - k.toNat) (a.toNat + k.toNat)) = gn zs 9 a.toNat,
    ⟨_, _, norm_wk (keep := [0, 1, 7, 8, 9]) (kb := []) (ρ := []) rfl, ⟨0, 0, 1, rfl, rfl, by rw [wrp_i64 (by decide) (by decide)]; rfl, by omega, by omega, by omega, by decide, ?_⟩⟩, ?_⟩
  · simp [cm]
  rintro n _ ⟨k, acc, un, rfl, rfl, hun, hk, hK, h0, h1, hi⟩
  conv => whnf
  refine br_if (fun h2 => ?_) (fun h2 => ?_) <;> (try rw [h2]) <;> (conv => whnf)
  · rw [ltI_t] at h2
    have e1 : wrp .i64 (a + k) = a + k := wrp_i64 (by omega) (by omega)
    have e2 : (a + k).toNat = a.toNat + k.toNat := by omega
    rw [e1]
    refine br_if (fun h3 => ?_) (fun h3 => ?_) <;> (try rw [h3]) <;> (conv => whnf)
    · rw [ltI_t, bts_len] at h3
      rw [e1]
      obtain ⟨d, hd⟩ : ∃ d, zs[a.toNat + k.toNat]? = some d := ⟨_, List.getElem?_eq_getElem (by omega)⟩
      have hd1 := hz d (List.mem_of_getElem? hd)
      have hat : (bts zs)[(a + k).toNat]? = some [.sc (.int .u8 d)] := by rw [e2]; exact bts_at hd
      refine ⟨by omega, _, hat, ?_⟩
      conv => whnf
      refine ⟨by decide, ?_⟩
      conv => whnf
      obtain ⟨p0, p1⟩ := pow128' (K := k.toNat) (by omega)
      have eP : wrp .i64 ((128 : Int) ^ k.toNat) = 128 ^ k.toNat := wrp_i64 (by omega) (by omega)
      have ed : wrp .i64 d = d := wrp_i64 (by omega) (by omega)
      obtain ⟨s1, s2, s3, s4, s5⟩ := acc_step (K := k.toNat) (d := d % 128) (by omega) h0 h1 (by omega) (by omega)
      have eA : wrp .i64 (acc + wrp .i64 (tmodOf (wrp .i64 d) 128 * un)) = acc + 128 ^ k.toNat * (d % 128) := by
        rw [hun, eP, ed, tmodOf_pos (by omega), Int.mul_comm, wrp_i64 (x := 128 ^ k.toNat * (d % 128)) (by omega) (by omega), wrp_i64 (by omega) (by omega)]
      have e3 : wrp .i64 (a + k + 1) = ((a.toNat + k.toNat + 1 : Nat) : Int) := by rw [wrp_i64 (by omega) (by omega)]; omega
      rw [eA]
      generalize hX : acc + 128 ^ k.toNat * (d % 128) = X
      rw [hX] at s3 s4 s5
      have hXd : d < 128 → X = acc + 128 ^ k.toNat * d := fun h => by rw [← hX, Int.emod_eq_of_lt (by omega) h]
      refine br_if (fun h4 => ?_) (fun h4 => ?_) <;> (try rw [h4]) <;> (conv => whnf)
      · rw [ltI_t, ed] at h4
        obtain ⟨c1, c2⟩ := cm_small (by omega) hd h4 hi
        refine br_if (fun h5 => ?_) (fun h5 => ?_) <;> (try rw [h5]) <;> (conv => whnf)
        · rw [eqI_t, ed] at h5
          refine br_if (fun h6 => ?_) (fun h6 => ?_) <;> (try rw [h6]) <;> (conv => whnf)
          · rw [ltI_t] at h6
            exact gRes_none (hg.trans (c1 ⟨h5, by omega⟩))
          · rw [ltI_f] at h6
            rw [e1, e3]
            exact gRes_some (hg.trans (c2 (by omega))) (hXd h4) rfl
        · rw [eqI_f, ed] at h5
          rw [e1, e3]
          exact gRes_some (hg.trans (c2 (by omega))) (hXd h4) rfl
      · rw [ltI_f, ed] at h4
        have hi' := cm_big (by omega) hd (by omega) hi
        rw [hX] at hi'
        have ek : (k + 1).toNat = k.toNat + 1 := by omega
        rw [← ek] at hi' s5
        refine ⟨_, _, ?_, norm_wk (keep := [0, 1, 7, 8, 9]) (kb := []) (ρ := []) rfl, ⟨k + 1, X, wrp .i64 (un * 128), ?_, rfl, ?_, by omega, by omega, s3, s5, hi'⟩⟩
        · omega
        · rw [wrp_i64 (x := k + 1) (by omega) (by omega)]
        · rw [hun, eP, ek, Int.pow_succ]
    · rw [ltI_f, bts_len] at h3
      exact gRes_none (hg.trans (cm_end (.inr (by omega)) hi))
  · rw [ltI_f] at h2
    exact gRes_none (hg.trans (cm_end (.inl (by omega)) hi))

theorem pow128_2 (K : Nat) : (128 : Nat) ^ K = 2 ^ (7 * K) := by
  rw [Nat.pow_mul]

theorem or_shl {K : Nat} {acc c : Int} (hK : K < 9) (h0 : 0 ≤ acc) (h1 : acc < 128 ^ K) (c0 : 0 ≤ c) (c1 : c < 128) :
    bitsOf .or .i64 acc (shlOf .i64 c (wrp .i64 (7 * (K : Int)))) = acc + 128 ^ K * c := by
  obtain ⟨p0, p1⟩ := pow128' hK
  obtain ⟨s1, s2, s3, s4, s5⟩ := acc_step hK h0 h1 c0 c1
  have eK : wrp .i64 (7 * (K : Int)) = ((7 * K : Nat) : Int) := by rw [wrp_i64 (by omega) (by omega)]; omega
  have ePn : ((128 : Int) ^ K) = (((2 : Nat) ^ (7 * K) : Nat) : Int) := by
    rw [← pow128_2]
    push_cast
    rfl
  have eS : shlOf .i64 c (wrp .i64 (7 * (K : Int))) = 128 ^ K * c := by
    rw [eK, shlOf_eq]
    have : min ((7 * K : Nat) : Int).toNat IntKind.i64.bits = 7 * K := by
      have : IntKind.i64.bits = 64 := rfl
      rw [this]
      omega
    rw [this]
    have e2 : c * 2 ^ (7 * K) = 128 ^ K * c := by
      rw [ePn, Int.mul_comm]
      push_cast
      rfl
    rw [e2]
    have := @wrp_i64 (128 ^ K * c) (by omega) (by omega)
    rw [wrp_eq] at this
    exact this
  rw [eS, bitsOf_eq]
  obtain ⟨n, rfl⟩ := Int.eq_ofNat_of_zero_le h0
  obtain ⟨m, rfl⟩ := Int.eq_ofNat_of_zero_le c0
  have eM : (128 : Int) ^ K * (m : Int) = ((2 ^ (7 * K) * m : Nat) : Int) := by
    rw [ePn]
    push_cast
    rfl
  rw [eM] at s2 s4 ⊢
  rw [ePn] at h1
  have hn : n < 2 ^ (7 * K) := by exact_mod_cast h1
  simp only [bits0]
  have hor : (BitVec.ofInt IntKind.i64.bits (n : Int) ||| BitVec.ofInt IntKind.i64.bits ((2 ^ (7 * K) * m : Nat) : Int)).toNat = 2 ^ (7 * K) * m + n := by
    have hb : IntKind.i64.bits = 64 := rfl
    rw [hb, BitVec.toNat_or, BitVec.toNat_ofInt, BitVec.toNat_ofInt]
    have e1 : ((n : Int) % ((2 ^ 64 : Nat) : Int)).toNat = n := by
      have : ((2 ^ 64 : Nat) : Int) = 18446744073709551616 := by decide
      rw [this]
      omega
    have e2 : (((2 ^ (7 * K) * m : Nat) : Int) % ((2 ^ 64 : Nat) : Int)).toNat = 2 ^ (7 * K) * m := by
      have : ((2 ^ 64 : Nat) : Int) = 18446744073709551616 := by decide
      rw [this]
      omega
    rw [e1, e2, Nat.or_comm, ← Nat.two_pow_add_eq_or_of_lt hn]
  rw [hor]
  have := @wrp_i64 ((2 ^ (7 * K) * m + n : Nat) : Int) (by omega) (by omega)
  rw [wrp_eq] at this
  rw [this]
  push_cast
  omega

set_option maxRecDepth 100000 in
theorem i_GetNum_ok (zs : List Int) (a : Int) (hz : Bytes zs) (hl : zs.length ≤ 1000000000) (ha0 : -9223372036854775808 ≤ a) (ha : a ≤ 9223372036854775807) :
    FnV Tryz.prog 364 [bV zs, iV a] fun rs outs => rs = [iR (gX zs a), iR (gJ zs a), bR (gB zs a)] ∧ outs = [] := by
  refine fn_ok (E := E2) τ_ok mixed Tryz.func364 (by rfl) (by rfl) false (by simp [Tryz.f364]) ?_
  conv => whnf
  refine (i_within_ok _ _ _).mono ?_
  rintro _ _ ⟨rfl, rfl⟩
  conv => whnf
  have el : wrp .i64 ((((bts zs).length : Nat) : Int) - 1) = (zs.length : Int) - 1 := by rw [bts_len, wrp_i64 (by omega) (by omega)]
  rw [el]
  refine br_if (fun h => ?_) (fun h => ?_) <;> (try rw [h]) <;> (conv => whnf)
  · rw [notB_t, decide_eq_false_iff_not] at h
    exact gRes_none (getNum_out (by omega))
  rw [notB_f, decide_eq_true_eq] at h
  have h0' : 0 ≤ a := h.1
  have hg := getNum_pos (zs := zs) h0'
  refine ⟨fun n s => ∃ (k acc : Int), s = ⟨[(0, .vals false [.rd none 1 (bts zs)]), (1, .vals false [.sc (.int .i64 a)]), (7, .vals false [.sc (.int .i64 acc)]), (8, .vals false [.sc (.int .i64 k)])], [], []⟩ ∧ n = 9 - k.toNat ∧ 0 ≤ k ∧ k ≤ 9 ∧ 0 ≤ acc ∧ acc < 128 ^ k.toNat ∧ cm acc k.toNat (gn zs (9 - k.toNat) (a.toNat + k.toNat)) = gn zs 9 a.toNat,
    ⟨_, _, norm_wk (keep := [0, 1, 7, 8]) (kb := []) (ρ := []) rfl, ⟨0, 0, rfl, rfl, by omega, by omega, by omega, by decide, ?_⟩⟩, ?_⟩
  · simp [cm]
  rintro n _ ⟨k, acc, rfl, rfl, hk, hK, h0, h1, hi⟩
  conv => whnf
  refine br_if (fun h2 => ?_) (fun h2 => ?_) <;> (try rw [h2]) <;> (conv => whnf)
  · rw [ltI_t] at h2
    have e1 : wrp .i64 (a + k) = a + k := wrp_i64 (by omega) (by omega)
    have e2 : (a + k).toNat = a.toNat + k.toNat := by omega
    rw [e1]
    refine br_if (fun h3 => ?_) (fun h3 => ?_) <;> (try rw [h3]) <;> (conv => whnf)
    · rw [ltI_t, bts_len] at h3
      rw [e1]
      obtain ⟨d, hd⟩ : ∃ d, zs[a.toNat + k.toNat]? = some d := ⟨_, List.getElem?_eq_getElem (by omega)⟩
      have hd1 := hz d (List.mem_of_getElem? hd)
      have hat : (bts zs)[(a + k).toNat]? = some [.sc (.int .u8 d)] := by rw [e2]; exact bts_at hd
      refine ⟨by omega, _, hat, ?_⟩
      conv => whnf
      refine ⟨by decide, ?_⟩
      conv => whnf
      have e7 : wrp .i64 (7 * k) = 7 * k := wrp_i64 (by omega) (by omega)
      refine ⟨by rw [e7]; omega, ?_⟩
      conv => whnf
      obtain ⟨p0, p1⟩ := pow128' (K := k.toNat) (by omega)
      have eP : wrp .i64 ((128 : Int) ^ k.toNat) = 128 ^ k.toNat := wrp_i64 (by omega) (by omega)
      have ed : wrp .i64 d = d := wrp_i64 (by omega) (by omega)
      obtain ⟨s1, s2, s3, s4, s5⟩ := acc_step (K := k.toNat) (d := d % 128) (by omega) h0 h1 (by omega) (by omega)
      have eA : bitsOf .or .i64 acc (shlOf .i64 (wrp .i64 (tmodOf d 128)) (wrp .i64 (7 * k))) = acc + 128 ^ k.toNat * (d % 128) := by
        have := or_shl (K := k.toNat) (c := d % 128) (by omega) h0 h1 (by omega) (by omega)
        rw [Int.toNat_of_nonneg hk] at this
        rw [tmodOf_pos (by omega), wrp_i64 (x := d % 128) (by omega) (by omega), this]
      have e3 : wrp .i64 (a + k + 1) = ((a.toNat + k.toNat + 1 : Nat) : Int) := by rw [wrp_i64 (by omega) (by omega)]; omega
      rw [eA]
      generalize hX : acc + 128 ^ k.toNat * (d % 128) = X
      rw [hX] at s3 s4 s5
      have hXd : d < 128 → X = acc + 128 ^ k.toNat * d := fun h => by rw [← hX, Int.emod_eq_of_lt (by omega) h]
      refine br_if (fun h4 => ?_) (fun h4 => ?_) <;> (try rw [h4]) <;> (conv => whnf)
      · rw [ltI_t] at h4
        obtain ⟨c1, c2⟩ := cm_small (by omega) hd h4 hi
        refine br_if (fun h5 => ?_) (fun h5 => ?_) <;> (try rw [h5]) <;> (conv => whnf)
        · rw [eqI_t] at h5
          refine br_if (fun h6 => ?_) (fun h6 => ?_) <;> (try rw [h6]) <;> (conv => whnf)
          · rw [ltI_t] at h6
            exact gRes_none (hg.trans (c1 ⟨h5, by omega⟩))
          · rw [ltI_f] at h6
            rw [e1, e3]
            exact gRes_some (hg.trans (c2 (by omega))) (hXd h4) rfl
        · rw [eqI_f] at h5
          rw [e1, e3]
          exact gRes_some (hg.trans (c2 (by omega))) (hXd h4) rfl
      · rw [ltI_f] at h4
        have hi' := cm_big (by omega) hd (by omega) hi
        rw [hX] at hi'
        have ek : (k + 1).toNat = k.toNat + 1 := by omega
        rw [← ek] at hi' s5
        refine ⟨_, _, ?_, norm_wk (keep := [0, 1, 7, 8]) (kb := []) (ρ := []) rfl, ⟨k + 1, X, ?_, rfl, by omega, by omega, s3, s5, hi'⟩⟩
        · omega
        · rw [wrp_i64 (x := k + 1) (by omega) (by omega)]
    · rw [ltI_f, bts_len] at h3
      exact gRes_none (hg.trans (cm_end (.inr (by omega)) hi))
  · rw [ltI_f] at h2
    exact gRes_none (hg.trans (cm_end (.inl (by omega)) hi))

end Go.Proofs.YtifodjnbcnbcpaaGreat.V

