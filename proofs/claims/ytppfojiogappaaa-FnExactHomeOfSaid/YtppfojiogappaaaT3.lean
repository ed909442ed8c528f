/- The types of the program, and that they are so. Printed by wip/tools/tau.py. -/
import Derived.Test.YtppfojiogappaaaChecked
import Derived.Test.YtppfojiogappaaaVZ
set_option linter.unusedVariables false
set_option linter.unusedSimpArgs false
set_option maxRecDepth 100000
namespace Go.Proofs.Ytppfojiogappaaa.V
open Go

def d2 : TD := ⟨.int .i64, 1, 8, [.sc (.int .i64 0)]⟩
theorem ty2 : TyOk Try.prog 2 d2 := ⟨Try.underlying2, ⟨_, _, Try.type2, rfl, rfl, rfl, rfl⟩, rfl, rfl⟩
def d3 : TD := ⟨.int .i64, 1, 8, [.sc (.int .i64 0)]⟩
theorem ty3 : TyOk Try.prog 3 d3 := ⟨Try.underlying3, ⟨_, _, Try.type3, rfl, rfl, rfl, rfl⟩, rfl, rfl⟩
def d4 : TD := ⟨.bool, 1, 1, [.sc (.bool false)]⟩
theorem ty4 : TyOk Try.prog 4 d4 := ⟨Try.underlying4, ⟨_, _, Try.type4, rfl, rfl, rfl, rfl⟩, rfl, rfl⟩
def d5 : TD := ⟨.int .u8, 1, 1, [.sc (.int .u8 0)]⟩
theorem ty5 : TyOk Try.prog 5 d5 := ⟨Try.underlying5, ⟨_, _, Try.type5, rfl, rfl, rfl, rfl⟩, rfl, rfl⟩
def d6 : TD := ⟨.int .u8, 1, 1, [.sc (.int .u8 0)]⟩
theorem ty6 : TyOk Try.prog 6 d6 := ⟨Try.underlying6, ⟨_, _, Try.type6, rfl, rfl, rfl, rfl⟩, rfl, rfl⟩
def d7 : TD := ⟨.struct [(0, 2), (1, 3), (2, 4), (3, 6)], 4, 24, [.sc (.int .i64 0), .sc (.int .i64 0), .sc (.bool false), .sc (.int .u8 0)]⟩
theorem ty7 : TyOk Try.prog 7 d7 := ⟨⟨_, Try.underlying7, rfl⟩, ⟨_, _, Try.type7, rfl, rfl, rfl, rfl⟩, rfl, rfl⟩
def d8 : TD := ⟨.struct [(0, 2), (1, 3), (2, 4), (3, 6)], 4, 24, [.sc (.int .i64 0), .sc (.int .i64 0), .sc (.bool false), .sc (.int .u8 0)]⟩
theorem ty8 : TyOk Try.prog 8 d8 := ⟨⟨_, Try.underlying8, rfl⟩, ⟨_, _, Try.type8, rfl, rfl, rfl, rfl⟩, rfl, rfl⟩
def d9 : TD := ⟨.str, 1, 16, [.sc (.string { data := #[] })]⟩
theorem ty9 : TyOk Try.prog 9 d9 := ⟨Try.underlying9, ⟨_, _, Try.type9, rfl, rfl, rfl, rfl⟩, rfl, rfl⟩
def d10 : TD := ⟨.str, 1, 16, [.sc (.string { data := #[] })]⟩
theorem ty10 : TyOk Try.prog 10 d10 := ⟨Try.underlying10, ⟨_, _, Try.type10, rfl, rfl, rfl, rfl⟩, rfl, rfl⟩
def d11 : TD := ⟨.str, 1, 16, [.sc (.string { data := #[] })]⟩
theorem ty11 : TyOk Try.prog 11 d11 := ⟨Try.underlying11, ⟨_, _, Try.type11, rfl, rfl, rfl, rfl⟩, rfl, rfl⟩
def d12 : TD := ⟨.int .u64, 1, 8, [.sc (.int .u64 0)]⟩
theorem ty12 : TyOk Try.prog 12 d12 := ⟨Try.underlying12, ⟨_, _, Try.type12, rfl, rfl, rfl, rfl⟩, rfl, rfl⟩
def d13 : TD := ⟨.struct [(0, 9), (1, 12)], 2, 24, [.sc (.string { data := #[] }), .sc (.int .u64 0)]⟩
theorem ty13 : TyOk Try.prog 13 d13 := ⟨⟨_, Try.underlying13, rfl⟩, ⟨_, _, Try.type13, rfl, rfl, rfl, rfl⟩, rfl, rfl⟩
def d14 : TD := ⟨.struct [(0, 9), (1, 12)], 2, 24, [.sc (.string { data := #[] }), .sc (.int .u64 0)]⟩
theorem ty14 : TyOk Try.prog 14 d14 := ⟨⟨_, Try.underlying14, rfl⟩, ⟨_, _, Try.type14, rfl, rfl, rfl, rfl⟩, rfl, rfl⟩
def d15 : TD := ⟨.ptr 162, 1, 8, [.sc (.pointer none)]⟩
theorem ty15 : TyOk Try.prog 15 d15 := ⟨Try.underlying15, ⟨_, _, Try.type15, rfl, rfl, rfl, rfl⟩, rfl, rfl⟩
def d16 : TD := ⟨.ptr 165, 1, 8, [.sc (.pointer none)]⟩
theorem ty16 : TyOk Try.prog 16 d16 := ⟨Try.underlying16, ⟨_, _, Try.type16, rfl, rfl, rfl, rfl⟩, rfl, rfl⟩
def d17 : TD := ⟨.ptr 175, 1, 8, [.sc (.pointer none)]⟩
theorem ty17 : TyOk Try.prog 17 d17 := ⟨Try.underlying17, ⟨_, _, Try.type17, rfl, rfl, rfl, rfl⟩, rfl, rfl⟩
def d18 : TD := ⟨.struct [(0, 17)], 1, 8, [.sc (.pointer none)]⟩
theorem ty18 : TyOk Try.prog 18 d18 := ⟨⟨_, Try.underlying18, rfl⟩, ⟨_, _, Try.type18, rfl, rfl, rfl, rfl⟩, rfl, rfl⟩
def d19 : TD := ⟨.struct [(0, 17)], 1, 8, [.sc (.pointer none)]⟩
theorem ty19 : TyOk Try.prog 19 d19 := ⟨⟨_, Try.underlying19, rfl⟩, ⟨_, _, Try.type19, rfl, rfl, rfl, rfl⟩, rfl, rfl⟩
def d21 : TD := ⟨.int .i32, 1, 4, [.sc (.int .i32 0)]⟩
theorem ty21 : TyOk Try.prog 21 d21 := ⟨Try.underlying21, ⟨_, _, Try.type21, rfl, rfl, rfl, rfl⟩, rfl, rfl⟩
def d22 : TD := ⟨.slice 153, 1, 24, [.nil 5]⟩
theorem ty22 : TyOk Try.prog 22 d22 := ⟨Try.underlying22, ⟨_, _, Try.type22, rfl, rfl, rfl, rfl⟩, rfl, rfl⟩
def d23 : TD := ⟨.struct [(0, 22)], 1, 24, [.nil 5]⟩
theorem ty23 : TyOk Try.prog 23 d23 := ⟨⟨_, Try.underlying23, rfl⟩, ⟨_, _, Try.type23, rfl, rfl, rfl, rfl⟩, rfl, rfl⟩
def d24 : TD := ⟨.struct [(0, 22)], 1, 24, [.nil 5]⟩
theorem ty24 : TyOk Try.prog 24 d24 := ⟨⟨_, Try.underlying24, rfl⟩, ⟨_, _, Try.type24, rfl, rfl, rfl, rfl⟩, rfl, rfl⟩
def d25 : TD := ⟨.slice 130, 1, 24, [.nil 4]⟩
theorem ty25 : TyOk Try.prog 25 d25 := ⟨Try.underlying25, ⟨_, _, Try.type25, rfl, rfl, rfl, rfl⟩, rfl, rfl⟩
def d26 : TD := ⟨.slice 133, 1, 24, [.nil 3]⟩
theorem ty26 : TyOk Try.prog 26 d26 := ⟨Try.underlying26, ⟨_, _, Try.type26, rfl, rfl, rfl, rfl⟩, rfl, rfl⟩
def d27 : TD := ⟨.struct [(0, 24), (1, 25), (2, 26)], 3, 72, [.nil 5, .nil 4, .nil 3]⟩
theorem ty27 : TyOk Try.prog 27 d27 := ⟨⟨_, Try.underlying27, rfl⟩, ⟨_, _, Try.type27, rfl, rfl, rfl, rfl⟩, rfl, rfl⟩
def d28 : TD := ⟨.struct [(0, 24), (1, 25), (2, 26)], 3, 72, [.nil 5, .nil 4, .nil 3]⟩
theorem ty28 : TyOk Try.prog 28 d28 := ⟨⟨_, Try.underlying28, rfl⟩, ⟨_, _, Try.type28, rfl, rfl, rfl, rfl⟩, rfl, rfl⟩
def d29 : TD := ⟨.slice 90, 1, 24, [.nil 12]⟩
theorem ty29 : TyOk Try.prog 29 d29 := ⟨Try.underlying29, ⟨_, _, Try.type29, rfl, rfl, rfl, rfl⟩, rfl, rfl⟩
def d30 : TD := ⟨.slice 94, 1, 24, [.nil 5]⟩
theorem ty30 : TyOk Try.prog 30 d30 := ⟨Try.underlying30, ⟨_, _, Try.type30, rfl, rfl, rfl, rfl⟩, rfl, rfl⟩
def d31 : TD := ⟨.slice 99, 1, 24, [.nil 5]⟩
theorem ty31 : TyOk Try.prog 31 d31 := ⟨Try.underlying31, ⟨_, _, Try.type31, rfl, rfl, rfl, rfl⟩, rfl, rfl⟩
def d32 : TD := ⟨.slice 102, 1, 24, [.nil 3]⟩
theorem ty32 : TyOk Try.prog 32 d32 := ⟨Try.underlying32, ⟨_, _, Try.type32, rfl, rfl, rfl, rfl⟩, rfl, rfl⟩
def d33 : TD := ⟨.slice 62, 1, 24, [.nil 1]⟩
theorem ty33 : TyOk Try.prog 33 d33 := ⟨Try.underlying33, ⟨_, _, Try.type33, rfl, rfl, rfl, rfl⟩, rfl, rfl⟩
def d34 : TD := ⟨.struct [(0, 28), (3, 3), (4, 29), (5, 30), (6, 31), (7, 32), (8, 3), (9, 33), (10, 33)], 11, 232, [.nil 5, .nil 4, .nil 3, .sc (.int .i64 0), .nil 12, .nil 5, .nil 5, .nil 3, .sc (.int .i64 0), .nil 1, .nil 1]⟩
theorem ty34 : TyOk Try.prog 34 d34 := ⟨⟨_, Try.underlying34, rfl⟩, ⟨_, _, Try.type34, rfl, rfl, rfl, rfl⟩, rfl, rfl⟩
def d35 : TD := ⟨.struct [(0, 28), (3, 3), (4, 29), (5, 30), (6, 31), (7, 32), (8, 3), (9, 33), (10, 33)], 11, 232, [.nil 5, .nil 4, .nil 3, .sc (.int .i64 0), .nil 12, .nil 5, .nil 5, .nil 3, .sc (.int .i64 0), .nil 1, .nil 1]⟩
theorem ty35 : TyOk Try.prog 35 d35 := ⟨⟨_, Try.underlying35, rfl⟩, ⟨_, _, Try.type35, rfl, rfl, rfl, rfl⟩, rfl, rfl⟩
def d38 : TD := ⟨.slice 155, 1, 24, [.nil 5]⟩
theorem ty38 : TyOk Try.prog 38 d38 := ⟨Try.underlying38, ⟨_, _, Try.type38, rfl, rfl, rfl, rfl⟩, rfl, rfl⟩
def d39 : TD := ⟨.struct [(0, 38)], 1, 24, [.nil 5]⟩
theorem ty39 : TyOk Try.prog 39 d39 := ⟨⟨_, Try.underlying39, rfl⟩, ⟨_, _, Try.type39, rfl, rfl, rfl, rfl⟩, rfl, rfl⟩
def d40 : TD := ⟨.struct [(0, 38)], 1, 24, [.nil 5]⟩
theorem ty40 : TyOk Try.prog 40 d40 := ⟨⟨_, Try.underlying40, rfl⟩, ⟨_, _, Try.type40, rfl, rfl, rfl, rfl⟩, rfl, rfl⟩
def d41 : TD := ⟨.slice 138, 1, 24, [.nil 4]⟩
theorem ty41 : TyOk Try.prog 41 d41 := ⟨Try.underlying41, ⟨_, _, Try.type41, rfl, rfl, rfl, rfl⟩, rfl, rfl⟩
def d42 : TD := ⟨.slice 140, 1, 24, [.nil 3]⟩
theorem ty42 : TyOk Try.prog 42 d42 := ⟨Try.underlying42, ⟨_, _, Try.type42, rfl, rfl, rfl, rfl⟩, rfl, rfl⟩
def d43 : TD := ⟨.struct [(0, 40), (1, 41), (2, 42)], 3, 72, [.nil 5, .nil 4, .nil 3]⟩
theorem ty43 : TyOk Try.prog 43 d43 := ⟨⟨_, Try.underlying43, rfl⟩, ⟨_, _, Try.type43, rfl, rfl, rfl, rfl⟩, rfl, rfl⟩
def d44 : TD := ⟨.struct [(0, 40), (1, 41), (2, 42)], 3, 72, [.nil 5, .nil 4, .nil 3]⟩
theorem ty44 : TyOk Try.prog 44 d44 := ⟨⟨_, Try.underlying44, rfl⟩, ⟨_, _, Try.type44, rfl, rfl, rfl, rfl⟩, rfl, rfl⟩
def d45 : TD := ⟨.slice 66, 1, 24, [.nil 12]⟩
theorem ty45 : TyOk Try.prog 45 d45 := ⟨Try.underlying45, ⟨_, _, Try.type45, rfl, rfl, rfl, rfl⟩, rfl, rfl⟩
def d46 : TD := ⟨.slice 110, 1, 24, [.nil 5]⟩
theorem ty46 : TyOk Try.prog 46 d46 := ⟨Try.underlying46, ⟨_, _, Try.type46, rfl, rfl, rfl, rfl⟩, rfl, rfl⟩
def d47 : TD := ⟨.slice 114, 1, 24, [.nil 5]⟩
theorem ty47 : TyOk Try.prog 47 d47 := ⟨Try.underlying47, ⟨_, _, Try.type47, rfl, rfl, rfl, rfl⟩, rfl, rfl⟩
def d48 : TD := ⟨.slice 116, 1, 24, [.nil 3]⟩
theorem ty48 : TyOk Try.prog 48 d48 := ⟨Try.underlying48, ⟨_, _, Try.type48, rfl, rfl, rfl, rfl⟩, rfl, rfl⟩
def d49 : TD := ⟨.struct [(0, 44), (3, 3), (4, 45), (5, 46), (6, 47), (7, 48), (8, 3), (9, 33), (10, 33)], 11, 232, [.nil 5, .nil 4, .nil 3, .sc (.int .i64 0), .nil 12, .nil 5, .nil 5, .nil 3, .sc (.int .i64 0), .nil 1, .nil 1]⟩
theorem ty49 : TyOk Try.prog 49 d49 := ⟨⟨_, Try.underlying49, rfl⟩, ⟨_, _, Try.type49, rfl, rfl, rfl, rfl⟩, rfl, rfl⟩
def d50 : TD := ⟨.struct [(0, 44), (3, 3), (4, 45), (5, 46), (6, 47), (7, 48), (8, 3), (9, 33), (10, 33)], 11, 232, [.nil 5, .nil 4, .nil 3, .sc (.int .i64 0), .nil 12, .nil 5, .nil 5, .nil 3, .sc (.int .i64 0), .nil 1, .nil 1]⟩
theorem ty50 : TyOk Try.prog 50 d50 := ⟨⟨_, Try.underlying50, rfl⟩, ⟨_, _, Try.type50, rfl, rfl, rfl, rfl⟩, rfl, rfl⟩
def d60 : TD := ⟨.struct [(0, 40), (1, 3), (2, 3), (3, 3), (4, 3), (5, 3), (6, 3), (7, 3)], 8, 80, [.nil 5, .sc (.int .i64 0), .sc (.int .i64 0), .sc (.int .i64 0), .sc (.int .i64 0), .sc (.int .i64 0), .sc (.int .i64 0), .sc (.int .i64 0)]⟩
theorem ty60 : TyOk Try.prog 60 d60 := ⟨⟨_, Try.underlying60, rfl⟩, ⟨_, _, Try.type60, rfl, rfl, rfl, rfl⟩, rfl, rfl⟩
def d61 : TD := ⟨.struct [(0, 40), (1, 3), (2, 3), (3, 3), (4, 3), (5, 3), (6, 3), (7, 3)], 8, 80, [.nil 5, .sc (.int .i64 0), .sc (.int .i64 0), .sc (.int .i64 0), .sc (.int .i64 0), .sc (.int .i64 0), .sc (.int .i64 0), .sc (.int .i64 0)]⟩
theorem ty61 : TyOk Try.prog 61 d61 := ⟨⟨_, Try.underlying61, rfl⟩, ⟨_, _, Try.type61, rfl, rfl, rfl, rfl⟩, rfl, rfl⟩
def d62 : TD := ⟨.slice 9, 1, 24, [.nil 1]⟩
theorem ty62 : TyOk Try.prog 62 d62 := ⟨Try.underlying62, ⟨_, _, Try.type62, rfl, rfl, rfl, rfl⟩, rfl, rfl⟩
def d63 : TD := ⟨.struct [(0, 3), (1, 61), (9, 62), (10, 62)], 11, 136, [.sc (.int .i64 0), .nil 5, .sc (.int .i64 0), .sc (.int .i64 0), .sc (.int .i64 0), .sc (.int .i64 0), .sc (.int .i64 0), .sc (.int .i64 0), .sc (.int .i64 0), .nil 1, .nil 1]⟩
theorem ty63 : TyOk Try.prog 63 d63 := ⟨⟨_, Try.underlying63, rfl⟩, ⟨_, _, Try.type63, rfl, rfl, rfl, rfl⟩, rfl, rfl⟩
def d64 : TD := ⟨.struct [(0, 3), (1, 61), (9, 62), (10, 62)], 11, 136, [.sc (.int .i64 0), .nil 5, .sc (.int .i64 0), .sc (.int .i64 0), .sc (.int .i64 0), .sc (.int .i64 0), .sc (.int .i64 0), .sc (.int .i64 0), .sc (.int .i64 0), .nil 1, .nil 1]⟩
theorem ty64 : TyOk Try.prog 64 d64 := ⟨⟨_, Try.underlying64, rfl⟩, ⟨_, _, Try.type64, rfl, rfl, rfl, rfl⟩, rfl, rfl⟩
def d65 : TD := ⟨.struct [(0, 3), (1, 64)], 12, 144, [.sc (.int .i64 0), .sc (.int .i64 0), .nil 5, .sc (.int .i64 0), .sc (.int .i64 0), .sc (.int .i64 0), .sc (.int .i64 0), .sc (.int .i64 0), .sc (.int .i64 0), .sc (.int .i64 0), .nil 1, .nil 1]⟩
theorem ty65 : TyOk Try.prog 65 d65 := ⟨⟨_, Try.underlying65, rfl⟩, ⟨_, _, Try.type65, rfl, rfl, rfl, rfl⟩, rfl, rfl⟩
def d66 : TD := ⟨.struct [(0, 3), (1, 64)], 12, 144, [.sc (.int .i64 0), .sc (.int .i64 0), .nil 5, .sc (.int .i64 0), .sc (.int .i64 0), .sc (.int .i64 0), .sc (.int .i64 0), .sc (.int .i64 0), .sc (.int .i64 0), .sc (.int .i64 0), .nil 1, .nil 1]⟩
theorem ty66 : TyOk Try.prog 66 d66 := ⟨⟨_, Try.underlying66, rfl⟩, ⟨_, _, Try.type66, rfl, rfl, rfl, rfl⟩, rfl, rfl⟩
def d85 : TD := ⟨.struct [(0, 24), (1, 3), (2, 3), (3, 3), (4, 3), (5, 3), (6, 3), (7, 3)], 8, 80, [.nil 5, .sc (.int .i64 0), .sc (.int .i64 0), .sc (.int .i64 0), .sc (.int .i64 0), .sc (.int .i64 0), .sc (.int .i64 0), .sc (.int .i64 0)]⟩
theorem ty85 : TyOk Try.prog 85 d85 := ⟨⟨_, Try.underlying85, rfl⟩, ⟨_, _, Try.type85, rfl, rfl, rfl, rfl⟩, rfl, rfl⟩
def d86 : TD := ⟨.struct [(0, 24), (1, 3), (2, 3), (3, 3), (4, 3), (5, 3), (6, 3), (7, 3)], 8, 80, [.nil 5, .sc (.int .i64 0), .sc (.int .i64 0), .sc (.int .i64 0), .sc (.int .i64 0), .sc (.int .i64 0), .sc (.int .i64 0), .sc (.int .i64 0)]⟩
theorem ty86 : TyOk Try.prog 86 d86 := ⟨⟨_, Try.underlying86, rfl⟩, ⟨_, _, Try.type86, rfl, rfl, rfl, rfl⟩, rfl, rfl⟩
def d87 : TD := ⟨.struct [(0, 3), (1, 86), (9, 62), (10, 62)], 11, 136, [.sc (.int .i64 0), .nil 5, .sc (.int .i64 0), .sc (.int .i64 0), .sc (.int .i64 0), .sc (.int .i64 0), .sc (.int .i64 0), .sc (.int .i64 0), .sc (.int .i64 0), .nil 1, .nil 1]⟩
theorem ty87 : TyOk Try.prog 87 d87 := ⟨⟨_, Try.underlying87, rfl⟩, ⟨_, _, Try.type87, rfl, rfl, rfl, rfl⟩, rfl, rfl⟩
def d88 : TD := ⟨.struct [(0, 3), (1, 86), (9, 62), (10, 62)], 11, 136, [.sc (.int .i64 0), .nil 5, .sc (.int .i64 0), .sc (.int .i64 0), .sc (.int .i64 0), .sc (.int .i64 0), .sc (.int .i64 0), .sc (.int .i64 0), .sc (.int .i64 0), .nil 1, .nil 1]⟩
theorem ty88 : TyOk Try.prog 88 d88 := ⟨⟨_, Try.underlying88, rfl⟩, ⟨_, _, Try.type88, rfl, rfl, rfl, rfl⟩, rfl, rfl⟩
def d89 : TD := ⟨.struct [(0, 3), (1, 88)], 12, 144, [.sc (.int .i64 0), .sc (.int .i64 0), .nil 5, .sc (.int .i64 0), .sc (.int .i64 0), .sc (.int .i64 0), .sc (.int .i64 0), .sc (.int .i64 0), .sc (.int .i64 0), .sc (.int .i64 0), .nil 1, .nil 1]⟩
theorem ty89 : TyOk Try.prog 89 d89 := ⟨⟨_, Try.underlying89, rfl⟩, ⟨_, _, Try.type89, rfl, rfl, rfl, rfl⟩, rfl, rfl⟩
def d90 : TD := ⟨.struct [(0, 3), (1, 88)], 12, 144, [.sc (.int .i64 0), .sc (.int .i64 0), .nil 5, .sc (.int .i64 0), .sc (.int .i64 0), .sc (.int .i64 0), .sc (.int .i64 0), .sc (.int .i64 0), .sc (.int .i64 0), .sc (.int .i64 0), .nil 1, .nil 1]⟩
theorem ty90 : TyOk Try.prog 90 d90 := ⟨⟨_, Try.underlying90, rfl⟩, ⟨_, _, Try.type90, rfl, rfl, rfl, rfl⟩, rfl, rfl⟩
def d92 : TD := ⟨.slice 97, 1, 24, [.nil 2]⟩
theorem ty92 : TyOk Try.prog 92 d92 := ⟨Try.underlying92, ⟨_, _, Try.type92, rfl, rfl, rfl, rfl⟩, rfl, rfl⟩
def d93 : TD := ⟨.struct [(0, 3), (1, 3), (2, 62), (3, 3), (4, 92)], 5, 72, [.sc (.int .i64 0), .sc (.int .i64 0), .nil 1, .sc (.int .i64 0), .nil 2]⟩
theorem ty93 : TyOk Try.prog 93 d93 := ⟨⟨_, Try.underlying93, rfl⟩, ⟨_, _, Try.type93, rfl, rfl, rfl, rfl⟩, rfl, rfl⟩
def d94 : TD := ⟨.struct [(0, 3), (1, 3), (2, 62), (3, 3), (4, 92)], 5, 72, [.sc (.int .i64 0), .sc (.int .i64 0), .nil 1, .sc (.int .i64 0), .nil 2]⟩
theorem ty94 : TyOk Try.prog 94 d94 := ⟨⟨_, Try.underlying94, rfl⟩, ⟨_, _, Try.type94, rfl, rfl, rfl, rfl⟩, rfl, rfl⟩
def d96 : TD := ⟨.struct [(0, 3), (1, 9)], 2, 24, [.sc (.int .i64 0), .sc (.string { data := #[] })]⟩
theorem ty96 : TyOk Try.prog 96 d96 := ⟨⟨_, Try.underlying96, rfl⟩, ⟨_, _, Try.type96, rfl, rfl, rfl, rfl⟩, rfl, rfl⟩
def d97 : TD := ⟨.struct [(0, 3), (1, 9)], 2, 24, [.sc (.int .i64 0), .sc (.string { data := #[] })]⟩
theorem ty97 : TyOk Try.prog 97 d97 := ⟨⟨_, Try.underlying97, rfl⟩, ⟨_, _, Try.type97, rfl, rfl, rfl, rfl⟩, rfl, rfl⟩
def d98 : TD := ⟨.struct [(0, 3), (1, 3), (2, 3), (3, 97)], 5, 48, [.sc (.int .i64 0), .sc (.int .i64 0), .sc (.int .i64 0), .sc (.int .i64 0), .sc (.string { data := #[] })]⟩
theorem ty98 : TyOk Try.prog 98 d98 := ⟨⟨_, Try.underlying98, rfl⟩, ⟨_, _, Try.type98, rfl, rfl, rfl, rfl⟩, rfl, rfl⟩
def d99 : TD := ⟨.struct [(0, 3), (1, 3), (2, 3), (3, 97)], 5, 48, [.sc (.int .i64 0), .sc (.int .i64 0), .sc (.int .i64 0), .sc (.int .i64 0), .sc (.string { data := #[] })]⟩
theorem ty99 : TyOk Try.prog 99 d99 := ⟨⟨_, Try.underlying99, rfl⟩, ⟨_, _, Try.type99, rfl, rfl, rfl, rfl⟩, rfl, rfl⟩
def d101 : TD := ⟨.struct [(0, 3), (1, 3), (2, 9)], 3, 32, [.sc (.int .i64 0), .sc (.int .i64 0), .sc (.string { data := #[] })]⟩
theorem ty101 : TyOk Try.prog 101 d101 := ⟨⟨_, Try.underlying101, rfl⟩, ⟨_, _, Try.type101, rfl, rfl, rfl, rfl⟩, rfl, rfl⟩
def d102 : TD := ⟨.struct [(0, 3), (1, 3), (2, 9)], 3, 32, [.sc (.int .i64 0), .sc (.int .i64 0), .sc (.string { data := #[] })]⟩
theorem ty102 : TyOk Try.prog 102 d102 := ⟨⟨_, Try.underlying102, rfl⟩, ⟨_, _, Try.type102, rfl, rfl, rfl, rfl⟩, rfl, rfl⟩
def d108 : TD := ⟨.slice 112, 1, 24, [.nil 2]⟩
theorem ty108 : TyOk Try.prog 108 d108 := ⟨Try.underlying108, ⟨_, _, Try.type108, rfl, rfl, rfl, rfl⟩, rfl, rfl⟩
def d109 : TD := ⟨.struct [(0, 3), (1, 3), (2, 62), (3, 3), (4, 108)], 5, 72, [.sc (.int .i64 0), .sc (.int .i64 0), .nil 1, .sc (.int .i64 0), .nil 2]⟩
theorem ty109 : TyOk Try.prog 109 d109 := ⟨⟨_, Try.underlying109, rfl⟩, ⟨_, _, Try.type109, rfl, rfl, rfl, rfl⟩, rfl, rfl⟩
def d110 : TD := ⟨.struct [(0, 3), (1, 3), (2, 62), (3, 3), (4, 108)], 5, 72, [.sc (.int .i64 0), .sc (.int .i64 0), .nil 1, .sc (.int .i64 0), .nil 2]⟩
theorem ty110 : TyOk Try.prog 110 d110 := ⟨⟨_, Try.underlying110, rfl⟩, ⟨_, _, Try.type110, rfl, rfl, rfl, rfl⟩, rfl, rfl⟩
def d112 : TD := ⟨.struct [(0, 3), (1, 9)], 2, 24, [.sc (.int .i64 0), .sc (.string { data := #[] })]⟩
theorem ty112 : TyOk Try.prog 112 d112 := ⟨⟨_, Try.underlying112, rfl⟩, ⟨_, _, Try.type112, rfl, rfl, rfl, rfl⟩, rfl, rfl⟩
def d113 : TD := ⟨.struct [(0, 3), (1, 3), (2, 3), (3, 112)], 5, 48, [.sc (.int .i64 0), .sc (.int .i64 0), .sc (.int .i64 0), .sc (.int .i64 0), .sc (.string { data := #[] })]⟩
theorem ty113 : TyOk Try.prog 113 d113 := ⟨⟨_, Try.underlying113, rfl⟩, ⟨_, _, Try.type113, rfl, rfl, rfl, rfl⟩, rfl, rfl⟩
def d114 : TD := ⟨.struct [(0, 3), (1, 3), (2, 3), (3, 112)], 5, 48, [.sc (.int .i64 0), .sc (.int .i64 0), .sc (.int .i64 0), .sc (.int .i64 0), .sc (.string { data := #[] })]⟩
theorem ty114 : TyOk Try.prog 114 d114 := ⟨⟨_, Try.underlying114, rfl⟩, ⟨_, _, Try.type114, rfl, rfl, rfl, rfl⟩, rfl, rfl⟩
def d116 : TD := ⟨.struct [(0, 3), (1, 3), (2, 9)], 3, 32, [.sc (.int .i64 0), .sc (.int .i64 0), .sc (.string { data := #[] })]⟩
theorem ty116 : TyOk Try.prog 116 d116 := ⟨⟨_, Try.underlying116, rfl⟩, ⟨_, _, Try.type116, rfl, rfl, rfl, rfl⟩, rfl, rfl⟩
def d129 : TD := ⟨.struct [(0, 3), (1, 3), (2, 3), (3, 9)], 4, 40, [.sc (.int .i64 0), .sc (.int .i64 0), .sc (.int .i64 0), .sc (.string { data := #[] })]⟩
theorem ty129 : TyOk Try.prog 129 d129 := ⟨⟨_, Try.underlying129, rfl⟩, ⟨_, _, Try.type129, rfl, rfl, rfl, rfl⟩, rfl, rfl⟩
def d130 : TD := ⟨.struct [(0, 3), (1, 3), (2, 3), (3, 9)], 4, 40, [.sc (.int .i64 0), .sc (.int .i64 0), .sc (.int .i64 0), .sc (.string { data := #[] })]⟩
theorem ty130 : TyOk Try.prog 130 d130 := ⟨⟨_, Try.underlying130, rfl⟩, ⟨_, _, Try.type130, rfl, rfl, rfl, rfl⟩, rfl, rfl⟩
def d132 : TD := ⟨.struct [(0, 9), (1, 3), (2, 3)], 3, 32, [.sc (.string { data := #[] }), .sc (.int .i64 0), .sc (.int .i64 0)]⟩
theorem ty132 : TyOk Try.prog 132 d132 := ⟨⟨_, Try.underlying132, rfl⟩, ⟨_, _, Try.type132, rfl, rfl, rfl, rfl⟩, rfl, rfl⟩
def d133 : TD := ⟨.struct [(0, 9), (1, 3), (2, 3)], 3, 32, [.sc (.string { data := #[] }), .sc (.int .i64 0), .sc (.int .i64 0)]⟩
theorem ty133 : TyOk Try.prog 133 d133 := ⟨⟨_, Try.underlying133, rfl⟩, ⟨_, _, Try.type133, rfl, rfl, rfl, rfl⟩, rfl, rfl⟩
def d138 : TD := ⟨.struct [(0, 3), (1, 3), (2, 3), (3, 9)], 4, 40, [.sc (.int .i64 0), .sc (.int .i64 0), .sc (.int .i64 0), .sc (.string { data := #[] })]⟩
theorem ty138 : TyOk Try.prog 138 d138 := ⟨⟨_, Try.underlying138, rfl⟩, ⟨_, _, Try.type138, rfl, rfl, rfl, rfl⟩, rfl, rfl⟩
def d140 : TD := ⟨.struct [(0, 9), (1, 3), (2, 3)], 3, 32, [.sc (.string { data := #[] }), .sc (.int .i64 0), .sc (.int .i64 0)]⟩
theorem ty140 : TyOk Try.prog 140 d140 := ⟨⟨_, Try.underlying140, rfl⟩, ⟨_, _, Try.type140, rfl, rfl, rfl, rfl⟩, rfl, rfl⟩
def d152 : TD := ⟨.struct [(0, 3), (1, 3), (2, 9), (3, 3), (4, 3)], 5, 48, [.sc (.int .i64 0), .sc (.int .i64 0), .sc (.string { data := #[] }), .sc (.int .i64 0), .sc (.int .i64 0)]⟩
theorem ty152 : TyOk Try.prog 152 d152 := ⟨⟨_, Try.underlying152, rfl⟩, ⟨_, _, Try.type152, rfl, rfl, rfl, rfl⟩, rfl, rfl⟩
def d153 : TD := ⟨.struct [(0, 3), (1, 3), (2, 9), (3, 3), (4, 3)], 5, 48, [.sc (.int .i64 0), .sc (.int .i64 0), .sc (.string { data := #[] }), .sc (.int .i64 0), .sc (.int .i64 0)]⟩
theorem ty153 : TyOk Try.prog 153 d153 := ⟨⟨_, Try.underlying153, rfl⟩, ⟨_, _, Try.type153, rfl, rfl, rfl, rfl⟩, rfl, rfl⟩
def d155 : TD := ⟨.struct [(0, 3), (1, 3), (2, 9), (3, 3), (4, 3)], 5, 48, [.sc (.int .i64 0), .sc (.int .i64 0), .sc (.string { data := #[] }), .sc (.int .i64 0), .sc (.int .i64 0)]⟩
theorem ty155 : TyOk Try.prog 155 d155 := ⟨⟨_, Try.underlying155, rfl⟩, ⟨_, _, Try.type155, rfl, rfl, rfl, rfl⟩, rfl, rfl⟩
def d161 : TD := ⟨.struct [(0, 17), (1, 17), (2, 17), (3, 9)], 4, 40, [.sc (.pointer none), .sc (.pointer none), .sc (.pointer none), .sc (.string { data := #[] })]⟩
theorem ty161 : TyOk Try.prog 161 d161 := ⟨⟨_, Try.underlying161, rfl⟩, ⟨_, _, Try.type161, rfl, rfl, rfl, rfl⟩, rfl, rfl⟩
def d162 : TD := ⟨.struct [(0, 17), (1, 17), (2, 17), (3, 9)], 4, 40, [.sc (.pointer none), .sc (.pointer none), .sc (.pointer none), .sc (.string { data := #[] })]⟩
theorem ty162 : TyOk Try.prog 162 d162 := ⟨⟨_, Try.underlying162, rfl⟩, ⟨_, _, Try.type162, rfl, rfl, rfl, rfl⟩, rfl, rfl⟩
def d164 : TD := ⟨.struct [(0, 163)], 0, 0, []⟩
theorem ty164 : TyOk Try.prog 164 d164 := ⟨⟨_, Try.underlying164, rfl⟩, ⟨_, _, Try.type164, rfl, rfl, rfl, rfl⟩, rfl, rfl⟩
def d165 : TD := ⟨.struct [(0, 163)], 0, 0, []⟩
theorem ty165 : TyOk Try.prog 165 d165 := ⟨⟨_, Try.underlying165, rfl⟩, ⟨_, _, Try.type165, rfl, rfl, rfl, rfl⟩, rfl, rfl⟩
def d167 : TD := ⟨.int .u32, 1, 4, [.sc (.int .u32 0)]⟩
theorem ty167 : TyOk Try.prog 167 d167 := ⟨Try.underlying167, ⟨_, _, Try.type167, rfl, rfl, rfl, rfl⟩, rfl, rfl⟩
def d168 : TD := ⟨.int .u8, 1, 1, [.sc (.int .u8 0)]⟩
theorem ty168 : TyOk Try.prog 168 d168 := ⟨Try.underlying168, ⟨_, _, Try.type168, rfl, rfl, rfl, rfl⟩, rfl, rfl⟩
def d169 : TD := ⟨.int .u8, 1, 1, [.sc (.int .u8 0)]⟩
theorem ty169 : TyOk Try.prog 169 d169 := ⟨Try.underlying169, ⟨_, _, Try.type169, rfl, rfl, rfl, rfl⟩, rfl, rfl⟩
def d171 : TD := ⟨.ptr 5, 1, 8, [.sc (.pointer none)]⟩
theorem ty171 : TyOk Try.prog 171 d171 := ⟨Try.underlying171, ⟨_, _, Try.type171, rfl, rfl, rfl, rfl⟩, rfl, rfl⟩
def d172 : TD := ⟨.int .i32, 1, 4, [.sc (.int .i32 0)]⟩
theorem ty172 : TyOk Try.prog 172 d172 := ⟨Try.underlying172, ⟨_, _, Try.type172, rfl, rfl, rfl, rfl⟩, rfl, rfl⟩
def d173 : TD := ⟨.int .i32, 1, 4, [.sc (.int .i32 0)]⟩
theorem ty173 : TyOk Try.prog 173 d173 := ⟨Try.underlying173, ⟨_, _, Try.type173, rfl, rfl, rfl, rfl⟩, rfl, rfl⟩
def d174 : TD := ⟨.struct [(0, 12), (1, 12), (2, 167), (3, 168), (4, 5), (5, 5), (6, 169), (7, 170), (8, 171), (9, 172), (10, 173)], 11, 48, [.sc (.int .u64 0), .sc (.int .u64 0), .sc (.int .u32 0), .sc (.int .u8 0), .sc (.int .u8 0), .sc (.int .u8 0), .sc (.int .u8 0), .sc (.nilFunc), .sc (.pointer none), .sc (.int .i32 0), .sc (.int .i32 0)]⟩
theorem ty174 : TyOk Try.prog 174 d174 := ⟨⟨_, Try.underlying174, rfl⟩, ⟨_, _, Try.type174, rfl, rfl, rfl, rfl⟩, rfl, rfl⟩
def d175 : TD := ⟨.struct [(0, 12), (1, 12), (2, 167), (3, 168), (4, 5), (5, 5), (6, 169), (7, 170), (8, 171), (9, 172), (10, 173)], 11, 48, [.sc (.int .u64 0), .sc (.int .u64 0), .sc (.int .u32 0), .sc (.int .u8 0), .sc (.int .u8 0), .sc (.int .u8 0), .sc (.int .u8 0), .sc (.nilFunc), .sc (.pointer none), .sc (.int .i32 0), .sc (.int .i32 0)]⟩
theorem ty175 : TyOk Try.prog 175 d175 := ⟨⟨_, Try.underlying175, rfl⟩, ⟨_, _, Try.type175, rfl, rfl, rfl, rfl⟩, rfl, rfl⟩

def τ (t : Nat) : Option TD :=
  match t with
  | 2 => some d2
  | 3 => some d3
  | 4 => some d4
  | 5 => some d5
  | 6 => some d6
  | 7 => some d7
  | 8 => some d8
  | 9 => some d9
  | 10 => some d10
  | 11 => some d11
  | 12 => some d12
  | 13 => some d13
  | 14 => some d14
  | 15 => some d15
  | 16 => some d16
  | 17 => some d17
  | 18 => some d18
  | 19 => some d19
  | 21 => some d21
  | 22 => some d22
  | 23 => some d23
  | 24 => some d24
  | 25 => some d25
  | 26 => some d26
  | 27 => some d27
  | 28 => some d28
  | 29 => some d29
  | 30 => some d30
  | 31 => some d31
  | 32 => some d32
  | 33 => some d33
  | 34 => some d34
  | 35 => some d35
  | 38 => some d38
  | 39 => some d39
  | 40 => some d40
  | 41 => some d41
  | 42 => some d42
  | 43 => some d43
  | 44 => some d44
  | 45 => some d45
  | 46 => some d46
  | 47 => some d47
  | 48 => some d48
  | 49 => some d49
  | 50 => some d50
  | 60 => some d60
  | 61 => some d61
  | 62 => some d62
  | 63 => some d63
  | 64 => some d64
  | 65 => some d65
  | 66 => some d66
  | 85 => some d85
  | 86 => some d86
  | 87 => some d87
  | 88 => some d88
  | 89 => some d89
  | 90 => some d90
  | 92 => some d92
  | 93 => some d93
  | 94 => some d94
  | 96 => some d96
  | 97 => some d97
  | 98 => some d98
  | 99 => some d99
  | 101 => some d101
  | 102 => some d102
  | 108 => some d108
  | 109 => some d109
  | 110 => some d110
  | 112 => some d112
  | 113 => some d113
  | 114 => some d114
  | 116 => some d116
  | 129 => some d129
  | 130 => some d130
  | 132 => some d132
  | 133 => some d133
  | 138 => some d138
  | 140 => some d140
  | 152 => some d152
  | 153 => some d153
  | 155 => some d155
  | 161 => some d161
  | 162 => some d162
  | 164 => some d164
  | 165 => some d165
  | 167 => some d167
  | 168 => some d168
  | 169 => some d169
  | 171 => some d171
  | 172 => some d172
  | 173 => some d173
  | 174 => some d174
  | 175 => some d175
  | _ => none

theorem τ_ok : ∀ t d, τ t = some d → TyOk Try.prog t d := by
  intro t d h
  unfold τ at h
  split at h
  · cases h; exact ty2
  · cases h; exact ty3
  · cases h; exact ty4
  · cases h; exact ty5
  · cases h; exact ty6
  · cases h; exact ty7
  · cases h; exact ty8
  · cases h; exact ty9
  · cases h; exact ty10
  · cases h; exact ty11
  · cases h; exact ty12
  · cases h; exact ty13
  · cases h; exact ty14
  · cases h; exact ty15
  · cases h; exact ty16
  · cases h; exact ty17
  · cases h; exact ty18
  · cases h; exact ty19
  · cases h; exact ty21
  · cases h; exact ty22
  · cases h; exact ty23
  · cases h; exact ty24
  · cases h; exact ty25
  · cases h; exact ty26
  · cases h; exact ty27
  · cases h; exact ty28
  · cases h; exact ty29
  · cases h; exact ty30
  · cases h; exact ty31
  · cases h; exact ty32
  · cases h; exact ty33
  · cases h; exact ty34
  · cases h; exact ty35
  · cases h; exact ty38
  · cases h; exact ty39
  · cases h; exact ty40
  · cases h; exact ty41
  · cases h; exact ty42
  · cases h; exact ty43
  · cases h; exact ty44
  · cases h; exact ty45
  · cases h; exact ty46
  · cases h; exact ty47
  · cases h; exact ty48
  · cases h; exact ty49
  · cases h; exact ty50
  · cases h; exact ty60
  · cases h; exact ty61
  · cases h; exact ty62
  · cases h; exact ty63
  · cases h; exact ty64
  · cases h; exact ty65
  · cases h; exact ty66
  · cases h; exact ty85
  · cases h; exact ty86
  · cases h; exact ty87
  · cases h; exact ty88
  · cases h; exact ty89
  · cases h; exact ty90
  · cases h; exact ty92
  · cases h; exact ty93
  · cases h; exact ty94
  · cases h; exact ty96
  · cases h; exact ty97
  · cases h; exact ty98
  · cases h; exact ty99
  · cases h; exact ty101
  · cases h; exact ty102
  · cases h; exact ty108
  · cases h; exact ty109
  · cases h; exact ty110
  · cases h; exact ty112
  · cases h; exact ty113
  · cases h; exact ty114
  · cases h; exact ty116
  · cases h; exact ty129
  · cases h; exact ty130
  · cases h; exact ty132
  · cases h; exact ty133
  · cases h; exact ty138
  · cases h; exact ty140
  · cases h; exact ty152
  · cases h; exact ty153
  · cases h; exact ty155
  · cases h; exact ty161
  · cases h; exact ty162
  · cases h; exact ty164
  · cases h; exact ty165
  · cases h; exact ty167
  · cases h; exact ty168
  · cases h; exact ty169
  · cases h; exact ty171
  · cases h; exact ty172
  · cases h; exact ty173
  · cases h; exact ty174
  · cases h; exact ty175
  · cases h

theorem mixed : Try.prog.follows .mixedOrders = true := by rfl

end Go.Proofs.Ytppfojiogappaaa.V
