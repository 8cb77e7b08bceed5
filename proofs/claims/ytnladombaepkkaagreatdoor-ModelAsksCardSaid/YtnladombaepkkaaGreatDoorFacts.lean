/- What the abstract machine knows of the program: its types. Conditions: none. -/
import Derived.Test.YtnladombaepkkaaGreatDoorAbsC
import Derived.Test.YtnladombaepkkaaGreatDoorProg
set_option linter.all false
namespace Go.Proofs.YtnladombaepkkaaGreatDoor
open Go Go.Abs
noncomputable def C0 : Cfg := cfg Tryz.prog 9
theorem hC : COK Tryz.prog C0 := cfg_ok (Nat.le_of_eq (by kernel_rfl))
theorem mix : Tryz.prog.follows .mixedOrders = true := by kernel_rfl
theorem C0_nG : C0.nG = 9 := rfl
theorem ty1 : C0.T 1 = some ⟨.func, 1, 8, [.nf]⟩ := by kernel_rfl
theorem ty2 : C0.T 2 = some ⟨.int .i64, 1, 8, [.i .i64 0]⟩ := by kernel_rfl
theorem ty3 : C0.T 3 = some ⟨.int .i64, 1, 8, [.i .i64 0]⟩ := by kernel_rfl
theorem ty4 : C0.T 4 = some ⟨.bool, 1, 1, [.b false]⟩ := by kernel_rfl
theorem ty5 : C0.T 5 = some ⟨.int .u8, 1, 1, [.i .u8 0]⟩ := by kernel_rfl
theorem ty6 : C0.T 6 = some ⟨.int .u8, 1, 1, [.i .u8 0]⟩ := by kernel_rfl
theorem ty7 : C0.T 7 = some ⟨.struct [(0, 1, 2), (1, 1, 3), (2, 1, 4), (3, 1, 6)], 4, 24, [.i .i64 0, .i .i64 0, .b false, .i .u8 0]⟩ := by kernel_rfl
theorem ty8 : C0.T 8 = some ⟨.struct [(0, 1, 2), (1, 1, 3), (2, 1, 4), (3, 1, 6)], 4, 24, [.i .i64 0, .i .i64 0, .b false, .i .u8 0]⟩ := by kernel_rfl
theorem ty9 : C0.T 9 = some ⟨.string, 1, 16, [.s []]⟩ := by kernel_rfl
theorem ty10 : C0.T 10 = some ⟨.string, 1, 16, [.s []]⟩ := by kernel_rfl
theorem ty11 : C0.T 11 = some ⟨.string, 1, 16, [.s []]⟩ := by kernel_rfl
theorem ty12 : C0.T 12 = some ⟨.int .u64, 1, 8, [.i .u64 0]⟩ := by kernel_rfl
theorem ty13 : C0.T 13 = some ⟨.struct [(0, 1, 9), (1, 1, 12)], 2, 24, [.s [], .i .u64 0]⟩ := by kernel_rfl
theorem ty14 : C0.T 14 = some ⟨.struct [(0, 1, 9), (1, 1, 12)], 2, 24, [.s [], .i .u64 0]⟩ := by kernel_rfl
theorem ty15 : C0.T 15 = some ⟨.ptr 263, 1, 8, [.np]⟩ := by kernel_rfl
theorem ty16 : C0.T 16 = some ⟨.ptr 266, 1, 8, [.np]⟩ := by kernel_rfl
theorem ty17 : C0.T 17 = some ⟨.ptr 274, 1, 8, [.np]⟩ := by kernel_rfl
theorem ty18 : C0.T 18 = some ⟨.struct [(0, 1, 17)], 1, 8, [.np]⟩ := by kernel_rfl
theorem ty19 : C0.T 19 = some ⟨.struct [(0, 1, 17)], 1, 8, [.np]⟩ := by kernel_rfl
theorem ty20 : C0.T 20 = some ⟨.other, 1, 16, [.ni]⟩ := by kernel_rfl
theorem ty21 : C0.T 21 = some ⟨.int .i32, 1, 4, [.i .i32 0]⟩ := by kernel_rfl
theorem ty22 : C0.T 22 = some ⟨.slice 84, 1, 24, [.ns]⟩ := by kernel_rfl
theorem ty23 : C0.T 23 = some ⟨.slice 53, 1, 24, [.ns]⟩ := by kernel_rfl
theorem ty24 : C0.T 24 = some ⟨.slice 54, 1, 24, [.ns]⟩ := by kernel_rfl
theorem ty25 : C0.T 25 = some ⟨.slice 9, 1, 24, [.ns]⟩ := by kernel_rfl
theorem ty26 : C0.T 26 = some ⟨.struct [(0, 1, 3), (1, 1, 22), (2, 1, 23), (3, 1, 24), (4, 1, 25)], 5, 104, [.i .i64 0, .ns, .ns, .ns, .ns]⟩ := by kernel_rfl
theorem ty27 : C0.T 27 = some ⟨.struct [(0, 1, 3), (1, 1, 22), (2, 1, 23), (3, 1, 24), (4, 1, 25)], 5, 104, [.i .i64 0, .ns, .ns, .ns, .ns]⟩ := by kernel_rfl
theorem ty28 : C0.T 28 = some ⟨.func, 1, 8, [.nf]⟩ := by kernel_rfl
theorem ty29 : C0.T 29 = some ⟨.int .u64, 1, 8, [.i .u64 0]⟩ := by kernel_rfl
theorem ty30 : C0.T 30 = some ⟨.slice 59, 1, 24, [.ns]⟩ := by kernel_rfl
theorem ty31 : C0.T 31 = some ⟨.slice 91, 1, 24, [.ns]⟩ := by kernel_rfl
theorem ty32 : C0.T 32 = some ⟨.struct [(0, 1, 4), (1, 1, 4), (2, 1, 5), (3, 1, 5), (4, 1, 29), (5, 1, 29), (6, 1, 29), (7, 1, 29), (8, 1, 29), (9, 1, 30), (10, 1, 31)], 11, 96, [.b false, .b false, .i .u8 0, .i .u8 0, .i .u64 0, .i .u64 0, .i .u64 0, .i .u64 0, .i .u64 0, .ns, .ns]⟩ := by kernel_rfl
theorem ty33 : C0.T 33 = some ⟨.struct [(0, 1, 4), (1, 1, 4), (2, 1, 5), (3, 1, 5), (4, 1, 29), (5, 1, 29), (6, 1, 29), (7, 1, 29), (8, 1, 29), (9, 1, 30), (10, 1, 31)], 11, 96, [.b false, .b false, .i .u8 0, .i .u8 0, .i .u64 0, .i .u64 0, .i .u64 0, .i .u64 0, .i .u64 0, .ns, .ns]⟩ := by kernel_rfl
theorem ty34 : C0.T 34 = some ⟨.func, 1, 8, [.nf]⟩ := by kernel_rfl
theorem ty35 : C0.T 35 = some ⟨.struct [(0, 1, 4)], 1, 1, [.b false]⟩ := by kernel_rfl
theorem ty36 : C0.T 36 = some ⟨.struct [(0, 1, 4)], 1, 1, [.b false]⟩ := by kernel_rfl
theorem ty37 : C0.T 37 = some ⟨.struct [(0, 1, 36), (1, 1, 4)], 2, 2, [.b false, .b false]⟩ := by kernel_rfl
theorem ty38 : C0.T 38 = some ⟨.struct [(0, 1, 36), (1, 1, 4)], 2, 2, [.b false, .b false]⟩ := by kernel_rfl
theorem ty39 : C0.T 39 = some ⟨.struct [(0, 2, 38), (2, 1, 5), (3, 1, 5), (4, 1, 9)], 5, 24, [.b false, .b false, .i .u8 0, .i .u8 0, .s []]⟩ := by kernel_rfl
theorem ty40 : C0.T 40 = some ⟨.struct [(0, 2, 38), (2, 1, 5), (3, 1, 5), (4, 1, 9)], 5, 24, [.b false, .b false, .i .u8 0, .i .u8 0, .s []]⟩ := by kernel_rfl
theorem ty41 : C0.T 41 = some ⟨.slice 73, 1, 24, [.ns]⟩ := by kernel_rfl
theorem ty42 : C0.T 42 = some ⟨.slice 120, 1, 24, [.ns]⟩ := by kernel_rfl
theorem ty43 : C0.T 43 = some ⟨.struct [(0, 5, 40), (5, 1, 29), (6, 1, 29), (7, 1, 29), (8, 1, 29), (9, 1, 29), (10, 1, 41), (11, 1, 42)], 12, 112, [.b false, .b false, .i .u8 0, .i .u8 0, .s [], .i .u64 0, .i .u64 0, .i .u64 0, .i .u64 0, .i .u64 0, .ns, .ns]⟩ := by kernel_rfl
theorem ty44 : C0.T 44 = some ⟨.struct [(0, 5, 40), (5, 1, 29), (6, 1, 29), (7, 1, 29), (8, 1, 29), (9, 1, 29), (10, 1, 41), (11, 1, 42)], 12, 112, [.b false, .b false, .i .u8 0, .i .u8 0, .s [], .i .u64 0, .i .u64 0, .i .u64 0, .i .u64 0, .i .u64 0, .ns, .ns]⟩ := by kernel_rfl
theorem ty45 : C0.T 45 = some ⟨.int .i64, 1, 8, [.i .i64 0]⟩ := by kernel_rfl
theorem ty47 : C0.T 47 = some ⟨.func, 1, 8, [.nf]⟩ := by kernel_rfl
theorem ty48 : C0.T 48 = some ⟨.func, 1, 8, [.nf]⟩ := by kernel_rfl
theorem ty49 : C0.T 49 = some ⟨.func, 1, 8, [.nf]⟩ := by kernel_rfl
theorem ty50 : C0.T 50 = some ⟨.func, 1, 8, [.nf]⟩ := by kernel_rfl
theorem ty51 : C0.T 51 = some ⟨.func, 1, 8, [.nf]⟩ := by kernel_rfl
theorem ty52 : C0.T 52 = some ⟨.struct [(0, 1, 9), (1, 1, 3), (2, 1, 3), (3, 1, 3)], 4, 40, [.s [], .i .i64 0, .i .i64 0, .i .i64 0]⟩ := by kernel_rfl
theorem ty53 : C0.T 53 = some ⟨.struct [(0, 1, 9), (1, 1, 3), (2, 1, 3), (3, 1, 3)], 4, 40, [.s [], .i .i64 0, .i .i64 0, .i .i64 0]⟩ := by kernel_rfl
theorem ty54 : C0.T 54 = some ⟨.arr 3 3, 3, 24, [.i .i64 0, .i .i64 0, .i .i64 0]⟩ := by kernel_rfl
theorem ty55 : C0.T 55 = some ⟨.slice 61, 1, 24, [.ns]⟩ := by kernel_rfl
theorem ty56 : C0.T 56 = some ⟨.slice 63, 1, 24, [.ns]⟩ := by kernel_rfl
theorem ty57 : C0.T 57 = some ⟨.slice 29, 1, 24, [.ns]⟩ := by kernel_rfl
theorem ty58 : C0.T 58 = some ⟨.struct [(0, 1, 9), (1, 1, 29), (2, 1, 29), (3, 1, 29), (4, 1, 29), (5, 1, 29), (6, 1, 29), (7, 1, 29), (8, 1, 29), (9, 1, 9), (10, 1, 55), (11, 1, 56), (12, 1, 57)], 13, 168, [.s [], .i .u64 0, .i .u64 0, .i .u64 0, .i .u64 0, .i .u64 0, .i .u64 0, .i .u64 0, .i .u64 0, .s [], .ns, .ns, .ns]⟩ := by kernel_rfl
theorem ty59 : C0.T 59 = some ⟨.struct [(0, 1, 9), (1, 1, 29), (2, 1, 29), (3, 1, 29), (4, 1, 29), (5, 1, 29), (6, 1, 29), (7, 1, 29), (8, 1, 29), (9, 1, 9), (10, 1, 55), (11, 1, 56), (12, 1, 57)], 13, 168, [.s [], .i .u64 0, .i .u64 0, .i .u64 0, .i .u64 0, .i .u64 0, .i .u64 0, .i .u64 0, .i .u64 0, .s [], .ns, .ns, .ns]⟩ := by kernel_rfl
theorem ty60 : C0.T 60 = some ⟨.struct [(0, 1, 9), (1, 1, 29), (2, 1, 29), (3, 1, 29), (4, 1, 29), (5, 1, 29), (6, 1, 4)], 7, 64, [.s [], .i .u64 0, .i .u64 0, .i .u64 0, .i .u64 0, .i .u64 0, .b false]⟩ := by kernel_rfl
theorem ty61 : C0.T 61 = some ⟨.struct [(0, 1, 9), (1, 1, 29), (2, 1, 29), (3, 1, 29), (4, 1, 29), (5, 1, 29), (6, 1, 4)], 7, 64, [.s [], .i .u64 0, .i .u64 0, .i .u64 0, .i .u64 0, .i .u64 0, .b false]⟩ := by kernel_rfl
theorem ty62 : C0.T 62 = some ⟨.struct [(0, 1, 29), (1, 1, 29), (2, 1, 29), (3, 1, 29)], 4, 32, [.i .u64 0, .i .u64 0, .i .u64 0, .i .u64 0]⟩ := by kernel_rfl
theorem ty63 : C0.T 63 = some ⟨.struct [(0, 1, 29), (1, 1, 29), (2, 1, 29), (3, 1, 29)], 4, 32, [.i .u64 0, .i .u64 0, .i .u64 0, .i .u64 0]⟩ := by kernel_rfl
theorem ty64 : C0.T 64 = some ⟨.slice 4, 1, 24, [.ns]⟩ := by kernel_rfl
theorem ty65 : C0.T 65 = some ⟨.func, 1, 8, [.nf]⟩ := by kernel_rfl
theorem ty67 : C0.T 67 = some ⟨.func, 1, 8, [.nf]⟩ := by kernel_rfl
theorem ty68 : C0.T 68 = some ⟨.func, 1, 8, [.nf]⟩ := by kernel_rfl
theorem ty69 : C0.T 69 = some ⟨.func, 1, 8, [.nf]⟩ := by kernel_rfl
theorem ty70 : C0.T 70 = some ⟨.slice 74, 1, 24, [.ns]⟩ := by kernel_rfl
theorem ty71 : C0.T 71 = some ⟨.slice 75, 1, 24, [.ns]⟩ := by kernel_rfl
theorem ty72 : C0.T 72 = some ⟨.struct [(0, 1, 9), (1, 1, 29), (2, 1, 29), (3, 1, 29), (4, 1, 29), (5, 1, 29), (6, 1, 29), (7, 1, 29), (8, 1, 29), (9, 1, 9), (10, 1, 70), (11, 1, 71), (12, 1, 57)], 13, 168, [.s [], .i .u64 0, .i .u64 0, .i .u64 0, .i .u64 0, .i .u64 0, .i .u64 0, .i .u64 0, .i .u64 0, .s [], .ns, .ns, .ns]⟩ := by kernel_rfl
theorem ty73 : C0.T 73 = some ⟨.struct [(0, 1, 9), (1, 1, 29), (2, 1, 29), (3, 1, 29), (4, 1, 29), (5, 1, 29), (6, 1, 29), (7, 1, 29), (8, 1, 29), (9, 1, 9), (10, 1, 70), (11, 1, 71), (12, 1, 57)], 13, 168, [.s [], .i .u64 0, .i .u64 0, .i .u64 0, .i .u64 0, .i .u64 0, .i .u64 0, .i .u64 0, .i .u64 0, .s [], .ns, .ns, .ns]⟩ := by kernel_rfl
theorem ty74 : C0.T 74 = some ⟨.struct [(0, 1, 9), (1, 1, 29), (2, 1, 29), (3, 1, 29), (4, 1, 29), (5, 1, 29), (6, 1, 4)], 7, 64, [.s [], .i .u64 0, .i .u64 0, .i .u64 0, .i .u64 0, .i .u64 0, .b false]⟩ := by kernel_rfl
theorem ty75 : C0.T 75 = some ⟨.struct [(0, 1, 29), (1, 1, 29), (2, 1, 29), (3, 1, 29)], 4, 32, [.i .u64 0, .i .u64 0, .i .u64 0, .i .u64 0]⟩ := by kernel_rfl
theorem ty76 : C0.T 76 = some ⟨.func, 1, 8, [.nf]⟩ := by kernel_rfl
theorem ty77 : C0.T 77 = some ⟨.slice 3, 1, 24, [.ns]⟩ := by kernel_rfl
theorem ty78 : C0.T 78 = some ⟨.func, 1, 8, [.nf]⟩ := by kernel_rfl
theorem ty79 : C0.T 79 = some ⟨.slice 81, 1, 24, [.ns]⟩ := by kernel_rfl
theorem ty80 : C0.T 80 = some ⟨.func, 1, 8, [.nf]⟩ := by kernel_rfl
theorem ty81 : C0.T 81 = some ⟨.arr 2 3, 2, 16, [.i .i64 0, .i .i64 0]⟩ := by kernel_rfl
theorem ty82 : C0.T 82 = some ⟨.func, 1, 8, [.nf]⟩ := by kernel_rfl
theorem ty83 : C0.T 83 = some ⟨.struct [(0, 1, 9), (1, 1, 3), (2, 1, 3), (3, 1, 3), (4, 1, 9)], 5, 56, [.s [], .i .i64 0, .i .i64 0, .i .i64 0, .s []]⟩ := by kernel_rfl
theorem ty84 : C0.T 84 = some ⟨.struct [(0, 1, 9), (1, 1, 3), (2, 1, 3), (3, 1, 3), (4, 1, 9)], 5, 56, [.s [], .i .i64 0, .i .i64 0, .i .i64 0, .s []]⟩ := by kernel_rfl
theorem ty85 : C0.T 85 = some ⟨.func, 1, 8, [.nf]⟩ := by kernel_rfl
theorem ty87 : C0.T 87 = some ⟨.func, 1, 8, [.nf]⟩ := by kernel_rfl
theorem ty89 : C0.T 89 = some ⟨.func, 1, 8, [.nf]⟩ := by kernel_rfl
theorem ty90 : C0.T 90 = some ⟨.struct [(0, 1, 29), (1, 1, 29), (2, 1, 29), (3, 1, 29), (4, 1, 29), (5, 1, 29), (6, 1, 9)], 7, 64, [.i .u64 0, .i .u64 0, .i .u64 0, .i .u64 0, .i .u64 0, .i .u64 0, .s []]⟩ := by kernel_rfl
theorem ty91 : C0.T 91 = some ⟨.struct [(0, 1, 29), (1, 1, 29), (2, 1, 29), (3, 1, 29), (4, 1, 29), (5, 1, 29), (6, 1, 9)], 7, 64, [.i .u64 0, .i .u64 0, .i .u64 0, .i .u64 0, .i .u64 0, .i .u64 0, .s []]⟩ := by kernel_rfl
theorem ty92 : C0.T 92 = some ⟨.struct [(0, 1, 29), (1, 1, 29), (2, 1, 29), (3, 1, 29), (4, 1, 29), (5, 1, 29), (6, 1, 29), (7, 1, 29), (8, 1, 29), (9, 1, 29), (10, 1, 29), (11, 1, 29), (12, 1, 29)], 13, 104, [.i .u64 0, .i .u64 0, .i .u64 0, .i .u64 0, .i .u64 0, .i .u64 0, .i .u64 0, .i .u64 0, .i .u64 0, .i .u64 0, .i .u64 0, .i .u64 0, .i .u64 0]⟩ := by kernel_rfl
theorem ty93 : C0.T 93 = some ⟨.struct [(0, 1, 29), (1, 1, 29), (2, 1, 29), (3, 1, 29), (4, 1, 29), (5, 1, 29), (6, 1, 29), (7, 1, 29), (8, 1, 29), (9, 1, 29), (10, 1, 29), (11, 1, 29), (12, 1, 29)], 13, 104, [.i .u64 0, .i .u64 0, .i .u64 0, .i .u64 0, .i .u64 0, .i .u64 0, .i .u64 0, .i .u64 0, .i .u64 0, .i .u64 0, .i .u64 0, .i .u64 0, .i .u64 0]⟩ := by kernel_rfl
theorem ty94 : C0.T 94 = some ⟨.slice 146, 1, 24, [.ns]⟩ := by kernel_rfl
theorem ty95 : C0.T 95 = some ⟨.slice 147, 1, 24, [.ns]⟩ := by kernel_rfl
theorem ty96 : C0.T 96 = some ⟨.struct [(0, 5, 40), (5, 13, 93), (18, 1, 94), (19, 1, 95), (20, 1, 29)], 21, 184, [.b false, .b false, .i .u8 0, .i .u8 0, .s [], .i .u64 0, .i .u64 0, .i .u64 0, .i .u64 0, .i .u64 0, .i .u64 0, .i .u64 0, .i .u64 0, .i .u64 0, .i .u64 0, .i .u64 0, .i .u64 0, .i .u64 0, .ns, .ns, .i .u64 0]⟩ := by kernel_rfl
theorem ty97 : C0.T 97 = some ⟨.struct [(0, 5, 40), (5, 13, 93), (18, 1, 94), (19, 1, 95), (20, 1, 29)], 21, 184, [.b false, .b false, .i .u8 0, .i .u8 0, .s [], .i .u64 0, .i .u64 0, .i .u64 0, .i .u64 0, .i .u64 0, .i .u64 0, .i .u64 0, .i .u64 0, .i .u64 0, .i .u64 0, .i .u64 0, .i .u64 0, .i .u64 0, .ns, .ns, .i .u64 0]⟩ := by kernel_rfl
theorem ty99 : C0.T 99 = some ⟨.func, 1, 8, [.nf]⟩ := by kernel_rfl
theorem ty100 : C0.T 100 = some ⟨.ptr 102, 1, 8, [.np]⟩ := by kernel_rfl
theorem ty101 : C0.T 101 = some ⟨.struct [(0, 21, 97), (21, 1, 9), (22, 12, 44), (34, 1, 64)], 35, 336, [.b false, .b false, .i .u8 0, .i .u8 0, .s [], .i .u64 0, .i .u64 0, .i .u64 0, .i .u64 0, .i .u64 0, .i .u64 0, .i .u64 0, .i .u64 0, .i .u64 0, .i .u64 0, .i .u64 0, .i .u64 0, .i .u64 0, .ns, .ns, .i .u64 0, .s [], .b false, .b false, .i .u8 0, .i .u8 0, .s [], .i .u64 0, .i .u64 0, .i .u64 0, .i .u64 0, .i .u64 0, .ns, .ns, .ns]⟩ := by kernel_rfl
theorem ty102 : C0.T 102 = some ⟨.struct [(0, 21, 97), (21, 1, 9), (22, 12, 44), (34, 1, 64)], 35, 336, [.b false, .b false, .i .u8 0, .i .u8 0, .s [], .i .u64 0, .i .u64 0, .i .u64 0, .i .u64 0, .i .u64 0, .i .u64 0, .i .u64 0, .i .u64 0, .i .u64 0, .i .u64 0, .i .u64 0, .i .u64 0, .i .u64 0, .ns, .ns, .i .u64 0, .s [], .b false, .b false, .i .u8 0, .i .u8 0, .s [], .i .u64 0, .i .u64 0, .i .u64 0, .i .u64 0, .i .u64 0, .ns, .ns, .ns]⟩ := by kernel_rfl
theorem ty103 : C0.T 103 = some ⟨.func, 1, 8, [.nf]⟩ := by kernel_rfl
theorem ty104 : C0.T 104 = some ⟨.func, 1, 8, [.nf]⟩ := by kernel_rfl
theorem ty105 : C0.T 105 = some ⟨.slice 57, 1, 24, [.ns]⟩ := by kernel_rfl
theorem ty107 : C0.T 107 = some ⟨.func, 1, 8, [.nf]⟩ := by kernel_rfl
theorem ty108 : C0.T 108 = some ⟨.func, 1, 8, [.nf]⟩ := by kernel_rfl
theorem ty109 : C0.T 109 = some ⟨.struct [(0, 1, 29), (1, 1, 29), (2, 1, 29), (3, 1, 29), (4, 1, 29), (5, 1, 29), (6, 1, 29), (7, 1, 29), (8, 1, 29), (9, 1, 29)], 10, 80, [.i .u64 0, .i .u64 0, .i .u64 0, .i .u64 0, .i .u64 0, .i .u64 0, .i .u64 0, .i .u64 0, .i .u64 0, .i .u64 0]⟩ := by kernel_rfl
theorem ty110 : C0.T 110 = some ⟨.struct [(0, 1, 29), (1, 1, 29), (2, 1, 29), (3, 1, 29), (4, 1, 29), (5, 1, 29), (6, 1, 29), (7, 1, 29), (8, 1, 29), (9, 1, 29)], 10, 80, [.i .u64 0, .i .u64 0, .i .u64 0, .i .u64 0, .i .u64 0, .i .u64 0, .i .u64 0, .i .u64 0, .i .u64 0, .i .u64 0]⟩ := by kernel_rfl
theorem ty112 : C0.T 112 = some ⟨.func, 1, 8, [.nf]⟩ := by kernel_rfl
theorem ty113 : C0.T 113 = some ⟨.func, 1, 8, [.nf]⟩ := by kernel_rfl
theorem ty114 : C0.T 114 = some ⟨.struct [(0, 1, 29), (1, 1, 29), (2, 1, 29), (3, 1, 29), (4, 1, 29), (5, 1, 29), (6, 1, 29), (7, 1, 29)], 8, 64, [.i .u64 0, .i .u64 0, .i .u64 0, .i .u64 0, .i .u64 0, .i .u64 0, .i .u64 0, .i .u64 0]⟩ := by kernel_rfl
theorem ty115 : C0.T 115 = some ⟨.struct [(0, 1, 29), (1, 1, 29), (2, 1, 29), (3, 1, 29), (4, 1, 29), (5, 1, 29), (6, 1, 29), (7, 1, 29)], 8, 64, [.i .u64 0, .i .u64 0, .i .u64 0, .i .u64 0, .i .u64 0, .i .u64 0, .i .u64 0, .i .u64 0]⟩ := by kernel_rfl
theorem ty116 : C0.T 116 = some ⟨.struct [(0, 1, 29), (1, 1, 29), (2, 1, 29), (3, 1, 29), (4, 1, 29), (5, 1, 29), (6, 1, 29), (7, 1, 29), (8, 1, 29), (9, 1, 29), (10, 1, 29), (11, 1, 29), (12, 1, 29)], 13, 104, [.i .u64 0, .i .u64 0, .i .u64 0, .i .u64 0, .i .u64 0, .i .u64 0, .i .u64 0, .i .u64 0, .i .u64 0, .i .u64 0, .i .u64 0, .i .u64 0, .i .u64 0]⟩ := by kernel_rfl
theorem ty117 : C0.T 117 = some ⟨.func, 1, 8, [.nf]⟩ := by kernel_rfl
theorem ty118 : C0.T 118 = some ⟨.func, 1, 8, [.nf]⟩ := by kernel_rfl
theorem ty119 : C0.T 119 = some ⟨.func, 1, 8, [.nf]⟩ := by kernel_rfl
theorem ty120 : C0.T 120 = some ⟨.struct [(0, 1, 29), (1, 1, 29), (2, 1, 29), (3, 1, 29), (4, 1, 29), (5, 1, 29), (6, 1, 9)], 7, 64, [.i .u64 0, .i .u64 0, .i .u64 0, .i .u64 0, .i .u64 0, .i .u64 0, .s []]⟩ := by kernel_rfl
theorem ty121 : C0.T 121 = some ⟨.func, 1, 8, [.nf]⟩ := by kernel_rfl
theorem ty122 : C0.T 122 = some ⟨.func, 1, 8, [.nf]⟩ := by kernel_rfl
theorem ty123 : C0.T 123 = some ⟨.func, 1, 8, [.nf]⟩ := by kernel_rfl
theorem ty124 : C0.T 124 = some ⟨.ptr 73, 1, 8, [.np]⟩ := by kernel_rfl
theorem ty125 : C0.T 125 = some ⟨.func, 1, 8, [.nf]⟩ := by kernel_rfl
theorem ty126 : C0.T 126 = some ⟨.func, 1, 8, [.nf]⟩ := by kernel_rfl
theorem ty127 : C0.T 127 = some ⟨.func, 1, 8, [.nf]⟩ := by kernel_rfl
theorem ty128 : C0.T 128 = some ⟨.func, 1, 8, [.nf]⟩ := by kernel_rfl
theorem ty129 : C0.T 129 = some ⟨.func, 1, 8, [.nf]⟩ := by kernel_rfl
theorem ty130 : C0.T 130 = some ⟨.func, 1, 8, [.nf]⟩ := by kernel_rfl
theorem ty131 : C0.T 131 = some ⟨.struct [(0, 1, 29), (1, 1, 29), (2, 1, 29), (3, 1, 29), (4, 1, 29), (5, 1, 29)], 6, 48, [.i .u64 0, .i .u64 0, .i .u64 0, .i .u64 0, .i .u64 0, .i .u64 0]⟩ := by kernel_rfl
theorem ty132 : C0.T 132 = some ⟨.struct [(0, 1, 29), (1, 1, 29), (2, 1, 29), (3, 1, 29), (4, 1, 29), (5, 1, 29)], 6, 48, [.i .u64 0, .i .u64 0, .i .u64 0, .i .u64 0, .i .u64 0, .i .u64 0]⟩ := by kernel_rfl
theorem ty133 : C0.T 133 = some ⟨.func, 1, 8, [.nf]⟩ := by kernel_rfl
theorem ty134 : C0.T 134 = some ⟨.func, 1, 8, [.nf]⟩ := by kernel_rfl
theorem ty135 : C0.T 135 = some ⟨.int .u64, 1, 8, [.i .u64 0]⟩ := by kernel_rfl
theorem ty137 : C0.T 137 = some ⟨.func, 1, 8, [.nf]⟩ := by kernel_rfl
theorem ty139 : C0.T 139 = some ⟨.func, 1, 8, [.nf]⟩ := by kernel_rfl
theorem ty140 : C0.T 140 = some ⟨.ptr 97, 1, 8, [.np]⟩ := by kernel_rfl
theorem ty141 : C0.T 141 = some ⟨.func, 1, 8, [.nf]⟩ := by kernel_rfl
theorem ty142 : C0.T 142 = some ⟨.func, 1, 8, [.nf]⟩ := by kernel_rfl
theorem ty143 : C0.T 143 = some ⟨.arr 4 142, 4, 32, [.nf, .nf, .nf, .nf]⟩ := by kernel_rfl
theorem ty145 : C0.T 145 = some ⟨.func, 1, 8, [.nf]⟩ := by kernel_rfl
theorem ty146 : C0.T 146 = some ⟨.struct [(0, 1, 29), (1, 1, 29), (2, 1, 29), (3, 1, 29), (4, 1, 29), (5, 1, 29), (6, 1, 29), (7, 1, 29), (8, 1, 29), (9, 1, 29)], 10, 80, [.i .u64 0, .i .u64 0, .i .u64 0, .i .u64 0, .i .u64 0, .i .u64 0, .i .u64 0, .i .u64 0, .i .u64 0, .i .u64 0]⟩ := by kernel_rfl
theorem ty147 : C0.T 147 = some ⟨.struct [(0, 1, 29), (1, 1, 29), (2, 1, 29), (3, 1, 29), (4, 1, 29), (5, 1, 29), (6, 1, 29), (7, 1, 29)], 8, 64, [.i .u64 0, .i .u64 0, .i .u64 0, .i .u64 0, .i .u64 0, .i .u64 0, .i .u64 0, .i .u64 0]⟩ := by kernel_rfl
theorem ty148 : C0.T 148 = some ⟨.func, 1, 8, [.nf]⟩ := by kernel_rfl
theorem ty149 : C0.T 149 = some ⟨.func, 1, 8, [.nf]⟩ := by kernel_rfl
theorem ty150 : C0.T 150 = some ⟨.func, 1, 8, [.nf]⟩ := by kernel_rfl
theorem ty151 : C0.T 151 = some ⟨.func, 1, 8, [.nf]⟩ := by kernel_rfl
theorem ty152 : C0.T 152 = some ⟨.slice 5, 1, 24, [.ns]⟩ := by kernel_rfl
theorem ty153 : C0.T 153 = some ⟨.func, 1, 8, [.nf]⟩ := by kernel_rfl
theorem ty155 : C0.T 155 = some ⟨.func, 1, 8, [.nf]⟩ := by kernel_rfl
theorem ty156 : C0.T 156 = some ⟨.func, 1, 8, [.nf]⟩ := by kernel_rfl
theorem ty157 : C0.T 157 = some ⟨.slice 162, 1, 24, [.ns]⟩ := by kernel_rfl
theorem ty159 : C0.T 159 = some ⟨.func, 1, 8, [.nf]⟩ := by kernel_rfl
theorem ty160 : C0.T 160 = some ⟨.ptr 206, 1, 8, [.np]⟩ := by kernel_rfl
theorem ty161 : C0.T 161 = some ⟨.func, 1, 8, [.nf]⟩ := by kernel_rfl
theorem ty162 : C0.T 162 = some ⟨.ptr 29, 1, 8, [.np]⟩ := by kernel_rfl
theorem ty163 : C0.T 163 = some ⟨.func, 1, 8, [.nf]⟩ := by kernel_rfl
theorem ty164 : C0.T 164 = some ⟨.func, 1, 8, [.nf]⟩ := by kernel_rfl
theorem ty165 : C0.T 165 = some ⟨.func, 1, 8, [.nf]⟩ := by kernel_rfl
theorem ty166 : C0.T 166 = some ⟨.func, 1, 8, [.nf]⟩ := by kernel_rfl
theorem ty168 : C0.T 168 = some ⟨.func, 1, 8, [.nf]⟩ := by kernel_rfl
theorem ty169 : C0.T 169 = some ⟨.func, 1, 8, [.nf]⟩ := by kernel_rfl
theorem ty170 : C0.T 170 = some ⟨.func, 1, 8, [.nf]⟩ := by kernel_rfl
theorem ty171 : C0.T 171 = some ⟨.func, 1, 8, [.nf]⟩ := by kernel_rfl
theorem ty172 : C0.T 172 = some ⟨.func, 1, 8, [.nf]⟩ := by kernel_rfl
theorem ty173 : C0.T 173 = some ⟨.struct [(0, 1, 29), (1, 1, 29)], 2, 16, [.i .u64 0, .i .u64 0]⟩ := by kernel_rfl
theorem ty174 : C0.T 174 = some ⟨.struct [(0, 1, 29), (1, 1, 29)], 2, 16, [.i .u64 0, .i .u64 0]⟩ := by kernel_rfl
theorem ty175 : C0.T 175 = some ⟨.func, 1, 8, [.nf]⟩ := by kernel_rfl
theorem ty176 : C0.T 176 = some ⟨.func, 1, 8, [.nf]⟩ := by kernel_rfl
theorem ty178 : C0.T 178 = some ⟨.func, 1, 8, [.nf]⟩ := by kernel_rfl
theorem ty179 : C0.T 179 = some ⟨.func, 1, 8, [.nf]⟩ := by kernel_rfl
theorem ty180 : C0.T 180 = some ⟨.func, 1, 8, [.nf]⟩ := by kernel_rfl
theorem ty181 : C0.T 181 = some ⟨.func, 1, 8, [.nf]⟩ := by kernel_rfl
theorem ty182 : C0.T 182 = some ⟨.func, 1, 8, [.nf]⟩ := by kernel_rfl
theorem ty183 : C0.T 183 = some ⟨.func, 1, 8, [.nf]⟩ := by kernel_rfl
theorem ty184 : C0.T 184 = some ⟨.func, 1, 8, [.nf]⟩ := by kernel_rfl
theorem ty186 : C0.T 186 = some ⟨.func, 1, 8, [.nf]⟩ := by kernel_rfl
theorem ty187 : C0.T 187 = some ⟨.struct [(0, 1, 29), (1, 1, 29), (2, 1, 29), (3, 1, 29), (4, 1, 29), (5, 1, 29)], 6, 48, [.i .u64 0, .i .u64 0, .i .u64 0, .i .u64 0, .i .u64 0, .i .u64 0]⟩ := by kernel_rfl
theorem ty189 : C0.T 189 = some ⟨.func, 1, 8, [.nf]⟩ := by kernel_rfl
theorem ty191 : C0.T 191 = some ⟨.func, 1, 8, [.nf]⟩ := by kernel_rfl
theorem ty193 : C0.T 193 = some ⟨.func, 1, 8, [.nf]⟩ := by kernel_rfl
theorem ty194 : C0.T 194 = some ⟨.func, 1, 8, [.nf]⟩ := by kernel_rfl
theorem ty195 : C0.T 195 = some ⟨.func, 1, 8, [.nf]⟩ := by kernel_rfl
theorem ty197 : C0.T 197 = some ⟨.func, 1, 8, [.nf]⟩ := by kernel_rfl
theorem ty198 : C0.T 198 = some ⟨.func, 1, 8, [.nf]⟩ := by kernel_rfl
theorem ty199 : C0.T 199 = some ⟨.func, 1, 8, [.nf]⟩ := by kernel_rfl
theorem ty200 : C0.T 200 = some ⟨.ptr 93, 1, 8, [.np]⟩ := by kernel_rfl
theorem ty202 : C0.T 202 = some ⟨.func, 1, 8, [.nf]⟩ := by kernel_rfl
theorem ty203 : C0.T 203 = some ⟨.arr 13 3, 13, 104, [.i .i64 0, .i .i64 0, .i .i64 0, .i .i64 0, .i .i64 0, .i .i64 0, .i .i64 0, .i .i64 0, .i .i64 0, .i .i64 0, .i .i64 0, .i .i64 0, .i .i64 0]⟩ := by kernel_rfl
theorem ty204 : C0.T 204 = some ⟨.func, 1, 8, [.nf]⟩ := by kernel_rfl
theorem ty205 : C0.T 205 = some ⟨.struct [(0, 1, 36), (1, 1, 9), (2, 1, 29), (3, 1, 4)], 4, 40, [.b false, .s [], .i .u64 0, .b false]⟩ := by kernel_rfl
theorem ty206 : C0.T 206 = some ⟨.struct [(0, 1, 36), (1, 1, 9), (2, 1, 29), (3, 1, 4)], 4, 40, [.b false, .s [], .i .u64 0, .b false]⟩ := by kernel_rfl
theorem ty207 : C0.T 207 = some ⟨.func, 1, 8, [.nf]⟩ := by kernel_rfl
theorem ty208 : C0.T 208 = some ⟨.func, 1, 8, [.nf]⟩ := by kernel_rfl
theorem ty209 : C0.T 209 = some ⟨.ptr 146, 1, 8, [.np]⟩ := by kernel_rfl
theorem ty210 : C0.T 210 = some ⟨.func, 1, 8, [.nf]⟩ := by kernel_rfl
theorem ty211 : C0.T 211 = some ⟨.ptr 147, 1, 8, [.np]⟩ := by kernel_rfl
theorem ty213 : C0.T 213 = some ⟨.func, 1, 8, [.nf]⟩ := by kernel_rfl
theorem ty214 : C0.T 214 = some ⟨.func, 1, 8, [.nf]⟩ := by kernel_rfl
theorem ty215 : C0.T 215 = some ⟨.func, 1, 8, [.nf]⟩ := by kernel_rfl
theorem ty216 : C0.T 216 = some ⟨.func, 1, 8, [.nf]⟩ := by kernel_rfl
theorem ty217 : C0.T 217 = some ⟨.ptr 187, 1, 8, [.np]⟩ := by kernel_rfl
theorem ty218 : C0.T 218 = some ⟨.func, 1, 8, [.nf]⟩ := by kernel_rfl
theorem ty222 : C0.T 222 = some ⟨.func, 1, 8, [.nf]⟩ := by kernel_rfl
theorem ty223 : C0.T 223 = some ⟨.func, 1, 8, [.nf]⟩ := by kernel_rfl
theorem ty224 : C0.T 224 = some ⟨.ptr 220, 1, 8, [.np]⟩ := by kernel_rfl
theorem ty226 : C0.T 226 = some ⟨.func, 1, 8, [.nf]⟩ := by kernel_rfl
theorem ty227 : C0.T 227 = some ⟨.func, 1, 8, [.nf]⟩ := by kernel_rfl
theorem ty228 : C0.T 228 = some ⟨.func, 1, 8, [.nf]⟩ := by kernel_rfl
theorem ty229 : C0.T 229 = some ⟨.func, 1, 8, [.nf]⟩ := by kernel_rfl
theorem ty230 : C0.T 230 = some ⟨.func, 1, 8, [.nf]⟩ := by kernel_rfl
theorem ty231 : C0.T 231 = some ⟨.func, 1, 8, [.nf]⟩ := by kernel_rfl
theorem ty233 : C0.T 233 = some ⟨.func, 1, 8, [.nf]⟩ := by kernel_rfl
theorem ty234 : C0.T 234 = some ⟨.func, 1, 8, [.nf]⟩ := by kernel_rfl
theorem ty235 : C0.T 235 = some ⟨.func, 1, 8, [.nf]⟩ := by kernel_rfl
theorem ty236 : C0.T 236 = some ⟨.arr 10 3, 10, 80, [.i .i64 0, .i .i64 0, .i .i64 0, .i .i64 0, .i .i64 0, .i .i64 0, .i .i64 0, .i .i64 0, .i .i64 0, .i .i64 0]⟩ := by kernel_rfl
theorem ty238 : C0.T 238 = some ⟨.func, 1, 8, [.nf]⟩ := by kernel_rfl
theorem ty239 : C0.T 239 = some ⟨.arr 8 3, 8, 64, [.i .i64 0, .i .i64 0, .i .i64 0, .i .i64 0, .i .i64 0, .i .i64 0, .i .i64 0, .i .i64 0]⟩ := by kernel_rfl
theorem ty240 : C0.T 240 = some ⟨.func, 1, 8, [.nf]⟩ := by kernel_rfl
theorem ty242 : C0.T 242 = some ⟨.func, 1, 8, [.nf]⟩ := by kernel_rfl
theorem ty243 : C0.T 243 = some ⟨.arr 6 3, 6, 48, [.i .i64 0, .i .i64 0, .i .i64 0, .i .i64 0, .i .i64 0, .i .i64 0]⟩ := by kernel_rfl
theorem ty244 : C0.T 244 = some ⟨.func, 1, 8, [.nf]⟩ := by kernel_rfl
theorem ty246 : C0.T 246 = some ⟨.func, 1, 8, [.nf]⟩ := by kernel_rfl
theorem ty247 : C0.T 247 = some ⟨.func, 1, 8, [.nf]⟩ := by kernel_rfl
theorem ty248 : C0.T 248 = some ⟨.func, 1, 8, [.nf]⟩ := by kernel_rfl
theorem ty249 : C0.T 249 = some ⟨.func, 1, 8, [.nf]⟩ := by kernel_rfl
theorem ty250 : C0.T 250 = some ⟨.func, 1, 8, [.nf]⟩ := by kernel_rfl
theorem ty252 : C0.T 252 = some ⟨.struct [(0, 1, 5), (1, 1, 5)], 2, 2, [.i .u8 0, .i .u8 0]⟩ := by kernel_rfl
theorem ty253 : C0.T 253 = some ⟨.struct [(0, 1, 5), (1, 1, 5)], 2, 2, [.i .u8 0, .i .u8 0]⟩ := by kernel_rfl
theorem ty254 : C0.T 254 = some ⟨.arr 16 253, 32, 32, [.i .u8 0, .i .u8 0, .i .u8 0, .i .u8 0, .i .u8 0, .i .u8 0, .i .u8 0, .i .u8 0, .i .u8 0, .i .u8 0, .i .u8 0, .i .u8 0, .i .u8 0, .i .u8 0, .i .u8 0, .i .u8 0, .i .u8 0, .i .u8 0, .i .u8 0, .i .u8 0, .i .u8 0, .i .u8 0, .i .u8 0, .i .u8 0, .i .u8 0, .i .u8 0, .i .u8 0, .i .u8 0, .i .u8 0, .i .u8 0, .i .u8 0, .i .u8 0]⟩ := by kernel_rfl
theorem ty255 : C0.T 255 = some ⟨.func, 1, 8, [.nf]⟩ := by kernel_rfl
theorem ty256 : C0.T 256 = some ⟨.func, 1, 8, [.nf]⟩ := by kernel_rfl
theorem ty257 : C0.T 257 = some ⟨.func, 1, 8, [.nf]⟩ := by kernel_rfl
theorem ty258 : C0.T 258 = some ⟨.int .u32, 1, 4, [.i .u32 0]⟩ := by kernel_rfl
theorem ty260 : C0.T 260 = some ⟨.func, 1, 8, [.nf]⟩ := by kernel_rfl
theorem ty261 : C0.T 261 = some ⟨.func, 1, 8, [.nf]⟩ := by kernel_rfl
theorem ty262 : C0.T 262 = some ⟨.struct [(0, 1, 17), (1, 1, 17), (2, 1, 17), (3, 1, 9)], 4, 40, [.np, .np, .np, .s []]⟩ := by kernel_rfl
theorem ty263 : C0.T 263 = some ⟨.struct [(0, 1, 17), (1, 1, 17), (2, 1, 17), (3, 1, 9)], 4, 40, [.np, .np, .np, .s []]⟩ := by kernel_rfl
theorem ty264 : C0.T 264 = some ⟨.arr 0 16, 0, 0, []⟩ := by kernel_rfl
theorem ty265 : C0.T 265 = some ⟨.struct [(0, 0, 264)], 0, 0, []⟩ := by kernel_rfl
theorem ty266 : C0.T 266 = some ⟨.struct [(0, 0, 264)], 0, 0, []⟩ := by kernel_rfl
theorem ty267 : C0.T 267 = some ⟨.int .u8, 1, 1, [.i .u8 0]⟩ := by kernel_rfl
theorem ty268 : C0.T 268 = some ⟨.int .u8, 1, 1, [.i .u8 0]⟩ := by kernel_rfl
theorem ty269 : C0.T 269 = some ⟨.func, 1, 8, [.nf]⟩ := by kernel_rfl
theorem ty270 : C0.T 270 = some ⟨.ptr 5, 1, 8, [.np]⟩ := by kernel_rfl
theorem ty271 : C0.T 271 = some ⟨.int .i32, 1, 4, [.i .i32 0]⟩ := by kernel_rfl
theorem ty272 : C0.T 272 = some ⟨.int .i32, 1, 4, [.i .i32 0]⟩ := by kernel_rfl
theorem ty273 : C0.T 273 = some ⟨.struct [(0, 1, 12), (1, 1, 12), (2, 1, 258), (3, 1, 267), (4, 1, 5), (5, 1, 5), (6, 1, 268), (7, 1, 269), (8, 1, 270), (9, 1, 271), (10, 1, 272)], 11, 48, [.i .u64 0, .i .u64 0, .i .u32 0, .i .u8 0, .i .u8 0, .i .u8 0, .i .u8 0, .nf, .np, .i .i32 0, .i .i32 0]⟩ := by kernel_rfl
theorem ty274 : C0.T 274 = some ⟨.struct [(0, 1, 12), (1, 1, 12), (2, 1, 258), (3, 1, 267), (4, 1, 5), (5, 1, 5), (6, 1, 268), (7, 1, 269), (8, 1, 270), (9, 1, 271), (10, 1, 272)], 11, 48, [.i .u64 0, .i .u64 0, .i .u32 0, .i .u8 0, .i .u8 0, .i .u8 0, .i .u8 0, .nf, .np, .i .i32 0, .i .i32 0]⟩ := by kernel_rfl
theorem ty275 : C0.T 275 = some ⟨.func, 1, 8, [.nf]⟩ := by kernel_rfl
theorem ty276 : C0.T 276 = some ⟨.func, 1, 8, [.nf]⟩ := by kernel_rfl
theorem ty277 : C0.T 277 = some ⟨.other, 1, 8, [.np]⟩ := by kernel_rfl
theorem eq35 : C0.E 35 = true := by kernel_rfl
theorem eq36 : C0.E 36 = true := by kernel_rfl
theorem eq37 : C0.E 37 = true := by kernel_rfl
theorem eq38 : C0.E 38 = true := by kernel_rfl
theorem eq39 : C0.E 39 = true := by kernel_rfl
theorem eq40 : C0.E 40 = true := by kernel_rfl
theorem eq52 : C0.E 52 = true := by kernel_rfl
theorem eq53 : C0.E 53 = true := by kernel_rfl
theorem eq54 : C0.E 54 = true := by kernel_rfl
theorem eq60 : C0.E 60 = true := by kernel_rfl
theorem eq61 : C0.E 61 = true := by kernel_rfl
theorem eq62 : C0.E 62 = true := by kernel_rfl
theorem eq63 : C0.E 63 = true := by kernel_rfl
theorem eq74 : C0.E 74 = true := by kernel_rfl
theorem eq75 : C0.E 75 = true := by kernel_rfl
theorem eq81 : C0.E 81 = true := by kernel_rfl
theorem eq83 : C0.E 83 = true := by kernel_rfl
theorem eq84 : C0.E 84 = true := by kernel_rfl
theorem eq90 : C0.E 90 = true := by kernel_rfl
theorem eq91 : C0.E 91 = true := by kernel_rfl
theorem eq92 : C0.E 92 = true := by kernel_rfl
theorem eq93 : C0.E 93 = true := by kernel_rfl
theorem eq109 : C0.E 109 = true := by kernel_rfl
theorem eq110 : C0.E 110 = true := by kernel_rfl
theorem eq114 : C0.E 114 = true := by kernel_rfl
theorem eq115 : C0.E 115 = true := by kernel_rfl
theorem eq116 : C0.E 116 = true := by kernel_rfl
theorem eq120 : C0.E 120 = true := by kernel_rfl
theorem eq131 : C0.E 131 = true := by kernel_rfl
theorem eq132 : C0.E 132 = true := by kernel_rfl
theorem eq146 : C0.E 146 = true := by kernel_rfl
theorem eq147 : C0.E 147 = true := by kernel_rfl
theorem eq173 : C0.E 173 = true := by kernel_rfl
theorem eq174 : C0.E 174 = true := by kernel_rfl
theorem eq187 : C0.E 187 = true := by kernel_rfl
theorem eq203 : C0.E 203 = true := by kernel_rfl
theorem eq205 : C0.E 205 = true := by kernel_rfl
theorem eq206 : C0.E 206 = true := by kernel_rfl
theorem eq219 : C0.E 219 = true := by kernel_rfl
theorem eq220 : C0.E 220 = true := by kernel_rfl
theorem eq236 : C0.E 236 = true := by kernel_rfl
theorem eq239 : C0.E 239 = true := by kernel_rfl
theorem eq243 : C0.E 243 = true := by kernel_rfl
theorem eq251 : C0.E 251 = true := by kernel_rfl
end Go.Proofs.YtnladombaepkkaaGreatDoor
