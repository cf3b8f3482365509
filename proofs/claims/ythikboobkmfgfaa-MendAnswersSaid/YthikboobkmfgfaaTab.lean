import Derived.Test.YthikboobkmfgfaaL1
import Derived.Test.YthikboobkmfgfaaProg
set_option linter.all false
set_option maxRecDepth 100000
namespace Go.Proofs.Ythikboobkmfgfaa
open Go.Abs

noncomputable def fns : Tree Func :=
  (.node (.node (.node (.node (.node (.node (.node .leaf 2 Try.f2 .leaf) 3 Try.f3 .leaf) 4 Try.f4 (.node (.node .leaf 5 Try.f5 .leaf) 6 Try.f6 .leaf)) 7 Try.f7 (.node (.node (.node .leaf 8 Try.f8 .leaf) 9 Try.f9 .leaf) 10 Try.f10 (.node (.node .leaf 11 Try.f11 .leaf) 12 Try.f12 .leaf))) 13 Try.f13 (.node (.node (.node (.node .leaf 14 Try.f14 .leaf) 15 Try.f15 .leaf) 16 Try.f16 (.node (.node .leaf 17 Try.f17 .leaf) 18 Try.f18 .leaf)) 19 Try.f19 (.node (.node (.node .leaf 20 Try.f20 .leaf) 21 Try.f21 .leaf) 22 Try.f22 (.node (.node .leaf 23 Try.f23 .leaf) 24 Try.f24 .leaf)))) 25 Try.f25 (.node (.node (.node (.node (.node .leaf 26 Try.f26 .leaf) 27 Try.f27 .leaf) 28 Try.f28 (.node (.node .leaf 29 Try.f29 .leaf) 30 Try.f30 .leaf)) 31 Try.f31 (.node (.node (.node .leaf 32 Try.f32 .leaf) 33 Try.f33 .leaf) 34 Try.f34 (.node (.node .leaf 35 Try.f35 .leaf) 36 Try.f36 .leaf))) 37 Try.f37 (.node (.node (.node (.node .leaf 38 Try.f38 .leaf) 39 Try.f39 .leaf) 40 Try.f40 (.node (.node .leaf 41 Try.f41 .leaf) 42 Try.f42 .leaf)) 43 Try.f43 (.node (.node (.node .leaf 44 Try.f44 .leaf) 45 Try.f45 .leaf) 46 Try.f46 (.node (.node .leaf 47 Try.f47 .leaf) 48 Try.f48 .leaf))))) 49 Try.f49 (.node (.node (.node (.node (.node (.node .leaf 50 Try.f50 .leaf) 51 Try.f51 .leaf) 52 Try.f52 (.node (.node .leaf 53 Try.f53 .leaf) 54 Try.f54 .leaf)) 55 Try.f55 (.node (.node (.node .leaf 56 Try.f56 .leaf) 57 Try.f57 .leaf) 58 Try.f58 (.node (.node .leaf 59 Try.f59 .leaf) 60 Try.f60 .leaf))) 61 Try.f61 (.node (.node (.node (.node .leaf 62 Try.f62 .leaf) 63 Try.f63 .leaf) 64 Try.f64 (.node (.node .leaf 65 Try.f65 .leaf) 67 Try.f67 .leaf)) 68 Try.f68 (.node (.node (.node .leaf 69 Try.f69 .leaf) 70 Try.f70 .leaf) 72 Try.f72 (.node (.node .leaf 73 Try.f73 .leaf) 74 Try.f74 .leaf)))) 75 Try.f75 (.node (.node (.node (.node (.node .leaf 76 Try.f76 .leaf) 77 Try.f77 .leaf) 78 Try.f78 (.node (.node .leaf 79 Try.f79 .leaf) 80 Try.f80 .leaf)) 81 Try.f81 (.node (.node (.node .leaf 82 Try.f82 .leaf) 83 Try.f83 .leaf) 84 Try.f84 (.node (.node .leaf 85 Try.f85 .leaf) 86 Try.f86 .leaf))) 87 Try.f87 (.node (.node (.node (.node .leaf 88 Try.f88 .leaf) 89 Try.f89 .leaf) 90 Try.f90 (.node (.node .leaf 91 Try.f91 .leaf) 92 Try.f92 .leaf)) 93 Try.f93 (.node (.node (.node .leaf 94 Try.f94 .leaf) 95 Try.f95 .leaf) 97 Try.f97 (.node (.node .leaf 98 Try.f98 .leaf) 99 Try.f99 .leaf))))))
/-- A long row of zeros. -/
def zt_126 : List V := reps 4096 [.int .i64 0, .bool false]
@[go_sem] theorem zt_126_len : zt_126.length = 8192 := by kernel_rfl
@[go_sem] theorem zt_126_own : nilOffs 0 zt_126 = [] := by kernel_rfl
/-- A long row of zeros. -/
def zt_127 : List V := reps 4096 [.int .u32 0]
@[go_sem] theorem zt_127_len : zt_127.length = 4096 := by kernel_rfl
@[go_sem] theorem zt_127_own : nilOffs 0 zt_127 = [] := by kernel_rfl
/-- A long row of zeros. -/
def zt_128 : List V := reps 256 [.int .u32 0]
@[go_sem] theorem zt_128_len : zt_128.length = 256 := by kernel_rfl
@[go_sem] theorem zt_128_own : nilOffs 0 zt_128 = [] := by kernel_rfl
/-- A long row of zeros. -/
def zt_130 : List V := reps 4096 [.int .i64 0, .bool false] ++ (reps 4369 [.int .u32 0])
@[go_sem] theorem zt_130_len : zt_130.length = 12561 := by kernel_rfl
@[go_sem] theorem zt_130_own : nilOffs 0 zt_130 = [] := by kernel_rfl
/-- A long row of zeros. -/
def zt_131 : List V := reps 4096 [.int .i64 0, .bool false] ++ (reps 4369 [.int .u32 0])
@[go_sem] theorem zt_131_len : zt_131.length = 12561 := by kernel_rfl
@[go_sem] theorem zt_131_own : nilOffs 0 zt_131 = [] := by kernel_rfl
noncomputable def tys : Tree TI :=
  (.node (.node (.node (.node (.node (.node (.node (.node .leaf 1 ⟨.func, 1, 8, [.nilf]⟩ .leaf) 2 ⟨(.int .i64), 1, 8, [.int .i64 0]⟩ .leaf) 3 ⟨(.int .i64), 1, 8, [.int .i64 0]⟩ (.node .leaf 4 ⟨.bool, 1, 1, [.bool false]⟩ .leaf)) 5 ⟨(.int .u8), 1, 1, [.int .u8 0]⟩ (.node (.node (.node .leaf 7 ⟨(.struct false [(0, 2), (1, 3), (2, 4), (3, 6)]), 4, 24, [.int .i64 0, .int .i64 0, .bool false, .int .u8 0]⟩ .leaf) 8 ⟨(.struct false [(0, 2), (1, 3), (2, 4), (3, 6)]), 4, 24, [.int .i64 0, .int .i64 0, .bool false, .int .u8 0]⟩ .leaf) 9 ⟨.str, 1, 16, [.str []]⟩ (.node .leaf 10 ⟨.str, 1, 16, [.str []]⟩ .leaf))) 11 ⟨.str, 1, 16, [.str []]⟩ (.node (.node (.node (.node .leaf 12 ⟨(.int .u64), 1, 8, [.int .u64 0]⟩ .leaf) 13 ⟨(.struct false [(0, 9), (1, 12)]), 2, 24, [.str [], .int .u64 0]⟩ .leaf) 14 ⟨(.struct false [(0, 9), (1, 12)]), 2, 24, [.str [], .int .u64 0]⟩ (.node .leaf 15 ⟨(.ptr 162), 1, 8, [.nilp]⟩ .leaf)) 16 ⟨(.ptr 165), 1, 8, [.nilp]⟩ (.node (.node (.node .leaf 17 ⟨(.ptr 172), 1, 8, [.nilp]⟩ .leaf) 18 ⟨(.struct false [(0, 17)]), 1, 8, [.nilp]⟩ .leaf) 19 ⟨(.struct false [(0, 17)]), 1, 8, [.nilp]⟩ (.node .leaf 21 ⟨(.int .i32), 1, 4, [.int .i32 0]⟩ .leaf)))) 22 ⟨(.slice 66), 1, 24, [.sl true []]⟩ (.node (.node (.node (.node (.node .leaf 23 ⟨(.slice 3), 1, 24, [.sl true []]⟩ .leaf) 24 ⟨(.struct true [(0, 3), (1, 23)]), 2, 32, [.int .i64 0, .sl true []]⟩ .leaf) 25 ⟨(.struct true [(0, 3), (1, 23)]), 2, 32, [.int .i64 0, .sl true []]⟩ (.node .leaf 26 ⟨.func, 1, 8, [.nilf]⟩ .leaf)) 27 ⟨(.slice 89), 1, 24, [.sl true []]⟩ (.node (.node (.node .leaf 28 ⟨(.slice 74), 1, 24, [.sl true []]⟩ .leaf) 29 ⟨(.struct true [(0, 25), (2, 27), (3, 28)]), 4, 80, [.int .i64 0, .sl true [], .sl true [], .sl true []]⟩ .leaf) 30 ⟨(.struct true [(0, 25), (2, 27), (3, 28)]), 4, 80, [.int .i64 0, .sl true [], .sl true [], .sl true []]⟩ (.node .leaf 31 ⟨.func, 1, 8, [.nilf]⟩ .leaf))) 32 ⟨(.ptr 131), 1, 8, [.nilp]⟩ (.node (.node (.node (.node .leaf 33 ⟨(.int .i64), 1, 8, [.int .i64 0]⟩ .leaf) 35 ⟨.func, 1, 8, [.nilf]⟩ .leaf) 37 ⟨.func, 1, 8, [.nilf]⟩ (.node .leaf 38 ⟨(.struct true [(0, 3), (1, 23)]), 2, 32, [.int .i64 0, .sl true []]⟩ .leaf)) 39 ⟨(.slice 85), 1, 24, [.sl true []]⟩ (.node (.node .leaf 40 ⟨(.struct true [(0, 38), (2, 27), (3, 39)]), 4, 80, [.int .i64 0, .sl true [], .sl true [], .sl true []]⟩ .leaf) 41 ⟨(.struct true [(0, 38), (2, 27), (3, 39)]), 4, 80, [.int .i64 0, .sl true [], .sl true [], .sl true []]⟩ (.node .leaf 43 ⟨.func, 1, 8, [.nilf]⟩ .leaf))))) 44 ⟨(.slice 90), 1, 24, [.sl true []]⟩ (.node (.node (.node (.node (.node (.node .leaf 45 ⟨.func, 1, 8, [.nilf]⟩ .leaf) 46 ⟨.func, 1, 8, [.nilf]⟩ .leaf) 47 ⟨.func, 1, 8, [.nilf]⟩ (.node .leaf 48 ⟨.func, 1, 8, [.nilf]⟩ .leaf)) 49 ⟨.func, 1, 8, [.nilf]⟩ (.node (.node (.node .leaf 51 ⟨.func, 1, 8, [.nilf]⟩ .leaf) 53 ⟨.func, 1, 8, [.nilf]⟩ .leaf) 54 ⟨.func, 1, 8, [.nilf]⟩ (.node .leaf 55 ⟨.func, 1, 8, [.nilf]⟩ .leaf))) 56 ⟨.func, 1, 8, [.nilf]⟩ (.node (.node (.node (.node .leaf 57 ⟨.func, 1, 8, [.nilf]⟩ .leaf) 58 ⟨.func, 1, 8, [.nilf]⟩ .leaf) 59 ⟨.func, 1, 8, [.nilf]⟩ (.node .leaf 60 ⟨.func, 1, 8, [.nilf]⟩ .leaf)) 61 ⟨.func, 1, 8, [.nilf]⟩ (.node (.node (.node .leaf 62 ⟨(.ptr 121), 1, 8, [.nilp]⟩ .leaf) 64 ⟨.func, 1, 8, [.nilf]⟩ .leaf) 65 ⟨(.struct true [(0, 3), (1, 3)]), 2, 16, [.int .i64 0, .int .i64 0]⟩ (.node .leaf 66 ⟨(.struct true [(0, 3), (1, 3)]), 2, 16, [.int .i64 0, .int .i64 0]⟩ .leaf)))) 68 ⟨.func, 1, 8, [.nilf]⟩ (.node (.node (.node (.node (.node .leaf 69 ⟨.func, 1, 8, [.nilf]⟩ .leaf) 70 ⟨(.slice 76), 1, 24, [.sl true []]⟩ .leaf) 72 ⟨.func, 1, 8, [.nilf]⟩ (.node .leaf 73 ⟨(.struct true [(0, 3), (1, 4)]), 2, 16, [.int .i64 0, .bool false]⟩ .leaf)) 74 ⟨(.struct true [(0, 3), (1, 4)]), 2, 16, [.int .i64 0, .bool false]⟩ (.node (.node (.node .leaf 75 ⟨(.struct true [(0, 3), (1, 74), (3, 74)]), 5, 40, [.int .i64 0, .int .i64 0, .bool false, .int .i64 0, .bool false]⟩ .leaf) 76 ⟨(.struct true [(0, 3), (1, 74), (3, 74)]), 5, 40, [.int .i64 0, .int .i64 0, .bool false, .int .i64 0, .bool false]⟩ .leaf) 77 ⟨.func, 1, 8, [.nilf]⟩ (.node .leaf 78 ⟨.func, 1, 8, [.nilf]⟩ .leaf))) 79 ⟨.func, 1, 8, [.nilf]⟩ (.node (.node (.node (.node .leaf 80 ⟨.func, 1, 8, [.nilf]⟩ .leaf) 81 ⟨.func, 1, 8, [.nilf]⟩ .leaf) 82 ⟨.func, 1, 8, [.nilf]⟩ (.node .leaf 83 ⟨.func, 1, 8, [.nilf]⟩ .leaf)) 84 ⟨.func, 1, 8, [.nilf]⟩ (.node (.node .leaf 85 ⟨(.struct true [(0, 3), (1, 4)]), 2, 16, [.int .i64 0, .bool false]⟩ .leaf) 86 ⟨.func, 1, 8, [.nilf]⟩ (.node .leaf 87 ⟨(.slice 27), 1, 24, [.sl true []]⟩ .leaf)))))) 88 ⟨.func, 1, 8, [.nilf]⟩ (.node (.node (.node (.node (.node (.node (.node .leaf 89 ⟨(.int .u32), 1, 4, [.int .u32 0]⟩ .leaf) 90 ⟨(.struct true [(0, 3), (1, 3)]), 2, 16, [.int .i64 0, .int .i64 0]⟩ .leaf) 91 ⟨.func, 1, 8, [.nilf]⟩ (.node .leaf 92 ⟨(.struct true [(0, 9), (1, 3)]), 2, 24, [.str [], .int .i64 0]⟩ .leaf)) 93 ⟨(.struct true [(0, 9), (1, 3)]), 2, 24, [.str [], .int .i64 0]⟩ (.node (.node (.node .leaf 95 ⟨.func, 1, 8, [.nilf]⟩ .leaf) 96 ⟨(.ptr 144), 1, 8, [.nilp]⟩ .leaf) 97 ⟨.func, 1, 8, [.nilf]⟩ (.node .leaf 98 ⟨.func, 1, 8, [.nilf]⟩ .leaf))) 99 ⟨.func, 1, 8, [.nilf]⟩ (.node (.node (.node (.node .leaf 100 ⟨.func, 1, 8, [.nilf]⟩ .leaf) 101 ⟨.func, 1, 8, [.nilf]⟩ .leaf) 103 ⟨.func, 1, 8, [.nilf]⟩ (.node .leaf 105 ⟨.func, 1, 8, [.nilf]⟩ .leaf)) 106 ⟨.func, 1, 8, [.nilf]⟩ (.node (.node (.node .leaf 107 ⟨(.ptr 110), 1, 8, [.nilp]⟩ .leaf) 108 ⟨(.slice 5), 1, 24, [.sl true []]⟩ .leaf) 109 ⟨(.struct false [(0, 107), (1, 108)]), 2, 32, [.nilp, .sl true []]⟩ (.node .leaf 110 ⟨(.struct false [(0, 107), (1, 108)]), 2, 32, [.nilp, .sl true []]⟩ .leaf)))) 114 ⟨.func, 1, 8, [.nilf]⟩ (.node (.node (.node (.node (.node .leaf 115 ⟨.func, 1, 8, [.nilf]⟩ .leaf) 116 ⟨.func, 1, 8, [.nilf]⟩ .leaf) 117 ⟨.func, 1, 8, [.nilf]⟩ (.node .leaf 118 ⟨.func, 1, 8, [.nilf]⟩ .leaf)) 119 ⟨.func, 1, 8, [.nilf]⟩ (.node (.node (.node .leaf 120 ⟨(.struct true [(0, 32), (1, 25), (3, 70), (4, 4)]), 5, 72, [.nilp, .int .i64 0, .sl true [], .sl true [], .bool false]⟩ .leaf) 121 ⟨(.struct true [(0, 32), (1, 25), (3, 70), (4, 4)]), 5, 72, [.nilp, .int .i64 0, .sl true [], .sl true [], .bool false]⟩ .leaf) 122 ⟨.func, 1, 8, [.nilf]⟩ (.node .leaf 123 ⟨.func, 1, 8, [.nilf]⟩ .leaf))) 124 ⟨.func, 1, 8, [.nilf]⟩ (.node (.node (.node (.node .leaf 125 ⟨.func, 1, 8, [.nilf]⟩ .leaf) 126 ⟨(.array 4096 74), 8192, 65536, zt_126⟩ .leaf) 127 ⟨(.array 4096 89), 4096, 16384, zt_127⟩ (.node .leaf 128 ⟨(.array 256 89), 256, 1024, zt_128⟩ .leaf)) 129 ⟨(.array 16 89), 16, 64, [.int .u32 0, .int .u32 0, .int .u32 0, .int .u32 0, .int .u32 0, .int .u32 0, .int .u32 0, .int .u32 0, .int .u32 0, .int .u32 0, .int .u32 0, .int .u32 0, .int .u32 0, .int .u32 0, .int .u32 0, .int .u32 0]⟩ (.node (.node .leaf 130 ⟨(.struct true [(0, 126), (8192, 127), (12288, 128), (12544, 129), (12560, 89)]), 12561, 83016, zt_130⟩ .leaf) 131 ⟨(.struct true [(0, 126), (8192, 127), (12288, 128), (12544, 129), (12560, 89)]), 12561, 83016, zt_131⟩ (.node .leaf 132 ⟨.func, 1, 8, [.nilf]⟩ .leaf))))) 133 ⟨.func, 1, 8, [.nilf]⟩ (.node (.node (.node (.node (.node (.node .leaf 134 ⟨.func, 1, 8, [.nilf]⟩ .leaf) 135 ⟨.func, 1, 8, [.nilf]⟩ .leaf) 136 ⟨.func, 1, 8, [.nilf]⟩ (.node .leaf 137 ⟨.func, 1, 8, [.nilf]⟩ .leaf)) 138 ⟨.func, 1, 8, [.nilf]⟩ (.node (.node (.node .leaf 139 ⟨.func, 1, 8, [.nilf]⟩ .leaf) 140 ⟨.func, 1, 8, [.nilf]⟩ .leaf) 141 ⟨.func, 1, 8, [.nilf]⟩ (.node .leaf 142 ⟨.func, 1, 8, [.nilf]⟩ .leaf))) 143 ⟨(.struct true [(0, 9), (1, 33)]), 2, 24, [.str [], .int .i64 0]⟩ (.node (.node (.node (.node .leaf 144 ⟨(.struct true [(0, 9), (1, 33)]), 2, 24, [.str [], .int .i64 0]⟩ .leaf) 145 ⟨.func, 1, 8, [.nilf]⟩ .leaf) 146 ⟨(.int .u64), 1, 8, [.int .u64 0]⟩ (.node .leaf 147 ⟨.func, 1, 8, [.nilf]⟩ .leaf)) 148 ⟨(.ptr 5), 1, 8, [.nilp]⟩ (.node (.node .leaf 149 ⟨.func, 1, 8, [.nilf]⟩ .leaf) 150 ⟨.func, 1, 8, [.nilf]⟩ (.node .leaf 151 ⟨(.int .u64), 1, 8, [.int .u64 0]⟩ .leaf)))) 153 ⟨.func, 1, 8, [.nilf]⟩ (.node (.node (.node (.node (.node .leaf 154 ⟨.func, 1, 8, [.nilf]⟩ .leaf) 155 ⟨.func, 1, 8, [.nilf]⟩ .leaf) 156 ⟨.func, 1, 8, [.nilf]⟩ (.node .leaf 157 ⟨.rawp, 1, 8, [.nilp]⟩ .leaf)) 158 ⟨.func, 1, 8, [.nilf]⟩ (.node (.node (.node .leaf 159 ⟨.func, 1, 8, [.nilf]⟩ .leaf) 160 ⟨.func, 1, 8, [.nilf]⟩ .leaf) 161 ⟨(.struct false [(0, 17), (1, 17), (2, 17), (3, 9)]), 4, 40, [.nilp, .nilp, .nilp, .str []]⟩ (.node .leaf 162 ⟨(.struct false [(0, 17), (1, 17), (2, 17), (3, 9)]), 4, 40, [.nilp, .nilp, .nilp, .str []]⟩ .leaf))) 163 ⟨(.array 0 16), 0, 0, []⟩ (.node (.node (.node (.node .leaf 164 ⟨(.struct false [(0, 163)]), 0, 0, []⟩ .leaf) 165 ⟨(.struct false [(0, 163)]), 0, 0, []⟩ .leaf) 168 ⟨.func, 1, 8, [.nilf]⟩ (.node .leaf 169 ⟨(.int .i32), 1, 4, [.int .i32 0]⟩ .leaf)) 170 ⟨(.int .i32), 1, 4, [.int .i32 0]⟩ (.node (.node .leaf 171 ⟨(.struct false [(0, 12), (1, 12), (2, 89), (3, 166), (4, 5), (5, 5), (6, 167), (7, 168), (8, 148), (9, 169), (10, 170)]), 11, 48, [.int .u64 0, .int .u64 0, .int .u32 0, .int .u8 0, .int .u8 0, .int .u8 0, .int .u8 0, .nilf, .nilp, .int .i32 0, .int .i32 0]⟩ .leaf) 172 ⟨(.struct false [(0, 12), (1, 12), (2, 89), (3, 166), (4, 5), (5, 5), (6, 167), (7, 168), (8, 148), (9, 169), (10, 170)]), 11, 48, [.int .u64 0, .int .u64 0, .int .u32 0, .int .u8 0, .int .u8 0, .int .u8 0, .int .u8 0, .nilf, .nilp, .int .i32 0, .int .i32 0]⟩ (.node .leaf 173 ⟨.func, 1, 8, [.nilf]⟩ .leaf)))))))
/-- All slots but these. -/
def kl (n : Nat) (l : List Nat) : List Nat := (List.range n).filter fun i => !l.contains i
noncomputable def kills : Tree (Tree (List Nat)) :=
  (.node (.node (.node (.node (.node (.node .leaf 7 (.node .leaf 5 (kl 94 [1, 2, 3, 4, 5, 6, 7]) .leaf) .leaf) 8 (.node .leaf 5 (kl 26 [4, 11, 12, 13]) .leaf) .leaf) 10 (.node (.node .leaf 6 (kl 74 [0, 3, 4, 6, 7]) .leaf) 12 (kl 74 [3, 4, 6, 8, 9]) (.node .leaf 15 (kl 74 [3, 4, 6, 8, 9, 10]) .leaf)) (.node (.node .leaf 11 (.node .leaf 3 (kl 19 [0, 3, 4]) .leaf) .leaf) 13 (.node (.node .leaf 4 (kl 67 [2, 3, 5]) .leaf) 9 (kl 67 [2, 3, 6]) .leaf) .leaf)) 14 (.node .leaf 3 (kl 29 [1, 2, 3, 4]) .leaf) (.node (.node (.node .leaf 16 (.node .leaf 7 (kl 68 [0, 2, 4, 7, 8, 9, 10]) .leaf) .leaf) 17 (.node (.node .leaf 9 (kl 74 [0, 2, 4, 7, 32, 33]) .leaf) 16 (kl 74 [0, 2, 7, 8]) .leaf) .leaf) 18 (.node (.node .leaf 8 (kl 122 [0, 2, 4, 6, 8, 9]) .leaf) 21 (kl 122 [0, 2, 4, 8, 15]) .leaf) (.node .leaf 20 (.node .leaf 7 (kl 35 [3, 4, 20, 21, 22]) .leaf) .leaf))) 21 (.node .leaf 5 (kl 49 [1, 3, 4]) .leaf) (.node (.node (.node (.node .leaf 22 (.node (.node .leaf 6 (kl 55 [1, 3, 18, 19, 20]) .leaf) 9 (kl 55 [1, 3, 5, 18, 19, 20, 24]) (.node .leaf 15 (kl 55 [3, 37, 38, 39]) .leaf)) .leaf) 23 (.node (.node .leaf 6 (kl 86 [1, 3, 4, 5]) .leaf) 15 (kl 86 [1, 3, 7]) .leaf) .leaf) 26 (.node .leaf 9 (kl 99 [0, 5, 6, 52, 53, 54]) .leaf) (.node (.node .leaf 28 (.node .leaf 2 (kl 46 [0, 5, 6, 7]) .leaf) .leaf) 29 (.node (.node .leaf 3 (kl 43 [1, 6]) .leaf) 8 (kl 43 [1, 20]) .leaf) .leaf)) 31 (.node .leaf 4 (kl 51 [1, 20, 21, 22]) .leaf) (.node (.node (.node .leaf 33 (.node .leaf 3 (kl 22 [0, 5, 8, 9, 10]) .leaf) .leaf) 34 (.node (.node .leaf 3 (kl 33 [0, 3, 5, 10, 11, 12]) .leaf) 6 (kl 33 [0, 3, 5, 7, 10, 11, 12, 16]) .leaf) .leaf) 35 (.node .leaf 2 (kl 60 [1, 3]) .leaf) (.node .leaf 36 (.node .leaf 2 (kl 26 [0, 1, 4, 5]) .leaf) .leaf)))) 38 (.node .leaf 5 (kl 42 [2, 3, 4, 5, 6, 7]) .leaf) (.node (.node (.node (.node (.node .leaf 40 (.node (.node .leaf 4 (kl 70 [1, 2, 4]) .leaf) 12 (kl 70 [1, 2, 4, 5, 6]) .leaf) .leaf) 46 (.node .leaf 3 (kl 17 [0, 3, 5]) .leaf) .leaf) 49 (.node .leaf 4 (kl 26 [0, 1, 5]) .leaf) (.node (.node .leaf 52 (.node .leaf 4 (kl 23 [0, 3]) .leaf) .leaf) 55 (.node .leaf 4 (kl 24 [0, 3]) .leaf) .leaf)) 60 (.node .leaf 4 (kl 72 [1, 3]) .leaf) (.node (.node (.node .leaf 64 (.node .leaf 2 (kl 50 [0, 1, 14, 15, 16]) .leaf) .leaf) 65 (.node .leaf 2 (kl 55 [0, 5, 6, 7]) .leaf) .leaf) 67 (.node .leaf 3 (kl 30 [3, 6, 7, 8]) .leaf) (.node .leaf 68 (.node .leaf 5 (kl 27 [1, 3, 9]) .leaf) .leaf))) 70 (.node .leaf 3 (kl 12 [3, 5, 6]) .leaf) (.node (.node (.node (.node .leaf 75 (.node (.node .leaf 3 (kl 34 [0, 3, 4]) .leaf) 7 (kl 34 [0, 3, 5]) .leaf) .leaf) 76 (.node (.node .leaf 3 (kl 56 [0, 3, 4]) .leaf) 9 (kl 56 [0, 5, 6, 7]) (.node .leaf 13 (kl 56 [0, 5, 6, 7, 8, 9]) .leaf)) .leaf) 77 (.node .leaf 5 (kl 72 [0, 3, 13, 14]) .leaf) (.node (.node .leaf 87 (.node .leaf 4 (kl 26 [0, 1, 12, 13]) .leaf) .leaf) 89 (.node (.node .leaf 3 (kl 29 [0, 3, 6, 7]) .leaf) 7 (kl 29 [0, 3, 6, 7, 16]) .leaf) .leaf)) 93 (.node .leaf 6 (kl 29 [3, 4, 5]) .leaf) (.node (.node (.node .leaf 94 (.node .leaf 3 (kl 49 [0, 3, 4]) .leaf) .leaf) 95 (.node .leaf 2 (kl 18 [0, 5, 6]) .leaf) .leaf) 97 (.node .leaf 2 (kl 19 [0, 1, 7, 8]) .leaf) (.node .leaf 99 (.node (.node .leaf 3 (kl 37 [0, 3, 4]) .leaf) 6 (kl 37 [0, 3, 4, 5]) .leaf) .leaf)))))
@[go_sem] def dr_3_8 : List (Bool × List Nat) := [(true, []), (false, [2, 8]), (true, [1]), (false, [8]), (false, [8]), (true, []), (true, []), (true, []), (true, [1, 3, 4]), (false, []), (false, [])]
@[go_sem] def dr_3_9 : List (Bool × List Nat) := [(false, []), (false, []), (true, []), (false, [4]), (true, [3]), (false, []), (false, []), (false, []), (true, []), (true, []), (false, []), (false, []), (false, [])]
@[go_sem] def dr_4_7 : List (Bool × List Nat) := [(true, []), (false, [2]), (true, [1]), (false, []), (false, []), (false, []), (true, []), (true, []), (false, []), (false, []), (false, []), (true, []), (false, [13]), (true, [12]), (false, []), (false, []), (false, []), (false, []), (true, []), (true, []), (false, []), (false, [])]
@[go_sem] def dr_4_9 : List (Bool × List Nat) := [(false, []), (false, []), (true, []), (true, []), (false, [6]), (true, []), (true, [4]), (false, []), (false, []), (false, []), (false, []), (false, []), (true, []), (false, [14]), (true, [13]), (false, []), (false, []), (false, []), (false, []), (false, [])]
@[go_sem] def dr_5_6 : List (Bool × List Nat) := [(false, []), (false, []), (false, []), (true, []), (false, [6]), (true, []), (true, [4]), (false, []), (false, []), (false, []), (false, [])]
@[go_sem] def dr_5_11 : List (Bool × List Nat) := [(false, []), (false, []), (false, []), (true, []), (false, [5]), (true, [4]), (false, []), (false, []), (false, []), (false, [])]
@[go_sem] def dr_9_4 : List (Bool × List Nat) := [(true, []), (false, [4]), (true, []), (true, []), (true, [1]), (false, []), (false, []), (false, []), (false, [])]
@[go_sem] def dr_9_5 : List (Bool × List Nat) := [(true, []), (false, [3]), (true, []), (true, [1]), (false, []), (false, []), (false, []), (false, [])]
@[go_sem] def dr_10_8 : List (Bool × List Nat) := [(true, []), (false, []), (true, []), (true, []), (true, []), (true, []), (true, []), (true, []), (true, []), (true, []), (false, []), (false, []), (false, [])]
@[go_sem] def dr_10_17 : List (Bool × List Nat) := [(true, []), (false, []), (true, []), (true, []), (true, []), (true, []), (true, []), (true, []), (true, []), (true, []), (true, []), (true, []), (true, []), (true, []), (true, []), (true, []), (true, []), (true, []), (false, []), (false, []), (false, [])]
@[go_sem] def dr_13_6 : List (Bool × List Nat) := [(true, []), (true, []), (true, []), (true, []), (true, []), (true, []), (true, []), (true, []), (true, []), (true, []), (false, [])]
@[go_sem] def dr_13_11 : List (Bool × List Nat) := [(true, []), (true, []), (true, []), (true, []), (true, []), (true, []), (true, []), (true, []), (true, []), (true, []), (false, [])]
@[go_sem] def dr_14_1 : List (Bool × List Nat) := [(true, []), (true, []), (false, [4, 6]), (true, []), (true, [2]), (true, []), (true, [2]), (false, [])]
@[go_sem] def dr_14_5 : List (Bool × List Nat) := [(true, []), (false, []), (true, []), (true, []), (true, []), (true, []), (true, []), (true, []), (false, []), (false, []), (false, [])]
@[go_sem] def dr_17_18 : List (Bool × List Nat) := [(true, []), (false, []), (true, []), (true, []), (true, []), (false, []), (false, []), (false, [])]
@[go_sem] def dr_18_23 : List (Bool × List Nat) := [(true, []), (false, []), (true, []), (true, []), (true, []), (true, []), (true, []), (true, []), (true, []), (true, []), (true, []), (true, []), (true, []), (true, []), (true, []), (true, []), (true, []), (true, []), (true, []), (true, []), (true, []), (true, []), (true, []), (true, []), (true, []), (true, []), (true, []), (true, []), (true, []), (true, []), (true, []), (true, []), (false, []), (false, []), (false, [])]
@[go_sem] def dr_20_4 : List (Bool × List Nat) := [(true, []), (true, []), (false, [4]), (true, []), (true, [2]), (true, []), (false, []), (false, []), (false, [])]
@[go_sem] def dr_21_3 : List (Bool × List Nat) := [(true, []), (true, []), (false, [4]), (true, []), (true, [2]), (true, []), (false, []), (false, []), (false, [])]
@[go_sem] def dr_21_9 : List (Bool × List Nat) := [(true, []), (true, []), (true, []), (true, []), (true, []), (true, []), (true, []), (true, []), (true, []), (true, []), (true, []), (true, []), (true, []), (true, []), (false, []), (false, []), (false, [])]
@[go_sem] def dr_26_1 : List (Bool × List Nat) := [(false, []), (false, []), (false, []), (false, []), (false, []), (false, []), (false, []), (false, []), (false, []), (true, []), (true, []), (true, []), (true, []), (true, []), (true, []), (false, []), (false, []), (false, []), (false, []), (false, []), (false, []), (false, []), (false, [])]
@[go_sem] def dr_26_6 : List (Bool × List Nat) := [(true, []), (true, []), (true, []), (true, []), (true, []), (true, []), (true, []), (true, []), (false, []), (false, [])]
@[go_sem] def dr_28_4 : List (Bool × List Nat) := [(false, []), (false, []), (false, []), (false, []), (false, []), (false, []), (false, []), (false, []), (false, []), (false, []), (false, []), (false, []), (false, []), (false, []), (false, []), (false, []), (false, []), (false, []), (false, []), (false, []), (false, []), (false, []), (true, []), (true, []), (true, []), (true, []), (true, []), (true, []), (true, []), (true, []), (false, []), (false, []), (false, [])]
@[go_sem] def dr_29_5 : List (Bool × List Nat) := [(true, []), (true, []), (true, []), (true, []), (true, []), (false, []), (false, []), (true, []), (true, []), (false, []), (false, [])]
@[go_sem] def dr_29_10 : List (Bool × List Nat) := [(true, []), (true, []), (true, []), (true, []), (true, []), (false, []), (false, []), (true, []), (true, []), (false, []), (false, [])]
@[go_sem] def dr_30_1 : List (Bool × List Nat) := [(true, []), (true, []), (true, []), (true, []), (true, []), (false, []), (false, [])]
@[go_sem] def dr_30_2 : List (Bool × List Nat) := [(true, []), (true, []), (true, []), (false, []), (true, []), (true, []), (false, []), (false, [])]
@[go_sem] def dr_32_1 : List (Bool × List Nat) := [(true, []), (true, [4]), (true, []), (true, []), (false, [1]), (false, []), (false, [])]
@[go_sem] def dr_35_4 : List (Bool × List Nat) := [(true, []), (true, []), (true, []), (false, []), (false, []), (false, []), (false, []), (true, []), (true, [14]), (true, []), (true, []), (true, [14]), (true, []), (true, []), (false, [8, 11]), (false, []), (false, []), (false, []), (false, []), (false, []), (false, []), (true, []), (true, []), (true, []), (true, []), (true, []), (true, []), (true, []), (true, []), (true, []), (true, []), (true, []), (false, []), (false, []), (false, [])]
@[go_sem] def dr_47_8 : List (Bool × List Nat) := [(true, []), (true, []), (true, []), (true, []), (true, []), (true, []), (true, [9]), (true, []), (true, []), (false, [6]), (false, [])]
@[go_sem] def dr_48_7 : List (Bool × List Nat) := [(true, []), (true, []), (false, []), (true, []), (true, []), (true, [8]), (true, []), (true, []), (false, [5]), (false, [])]
@[go_sem] def dr_49_6 : List (Bool × List Nat) := [(true, []), (true, []), (true, []), (true, []), (true, []), (true, []), (true, []), (true, []), (false, [])]
@[go_sem] def dr_53_1 : List (Bool × List Nat) := [(true, []), (true, []), (true, []), (false, []), (false, []), (true, []), (true, []), (true, []), (true, []), (true, []), (false, []), (false, [])]
@[go_sem] def dr_64_5 : List (Bool × List Nat) := [(true, []), (true, []), (true, []), (true, []), (true, []), (false, [])]
@[go_sem] def dr_64_6 : List (Bool × List Nat) := [(true, []), (true, []), (true, []), (true, []), (false, []), (true, []), (true, []), (true, []), (true, []), (true, []), (true, []), (true, []), (true, []), (false, []), (false, []), (false, []), (false, [])]
@[go_sem] def dr_65_4 : List (Bool × List Nat) := [(false, []), (false, []), (false, []), (false, []), (false, []), (false, []), (false, []), (false, []), (false, []), (false, []), (false, []), (false, []), (true, []), (true, []), (true, []), (true, []), (true, []), (true, []), (true, []), (true, []), (false, []), (false, []), (false, []), (false, []), (false, []), (false, []), (false, []), (false, []), (false, []), (false, []), (false, []), (false, []), (false, []), (false, []), (false, []), (false, []), (true, []), (true, []), (true, []), (true, []), (false, []), (false, [])]
@[go_sem] def dr_69_1 : List (Bool × List Nat) := [(true, []), (true, []), (true, []), (true, []), (true, []), (true, []), (true, []), (true, []), (true, []), (true, []), (false, []), (false, []), (true, []), (true, []), (false, []), (false, [])]
@[go_sem] def dr_69_2 : List (Bool × List Nat) := [(true, []), (true, []), (true, []), (true, []), (true, []), (true, []), (true, []), (true, []), (true, []), (true, []), (false, []), (false, []), (true, []), (true, []), (false, []), (false, [])]
@[go_sem] def dr_75_9 : List (Bool × List Nat) := [(true, []), (true, []), (true, []), (true, []), (true, []), (true, [12]), (true, []), (true, []), (true, []), (true, []), (true, []), (true, []), (false, [5]), (false, []), (false, [])]
@[go_sem] def dr_87_6 : List (Bool × List Nat) := [(true, []), (true, []), (true, []), (true, []), (true, []), (true, []), (true, []), (true, []), (false, [])]
def exts : List Nat := [96]
noncomputable def draws : Tree (Tree (List (Bool × List Nat))) :=
  (.node (.node (.node (.node (.node .leaf 3 (.node (.node .leaf 8 dr_3_8 .leaf) 9 dr_3_9 .leaf) .leaf) 4 (.node (.node .leaf 7 dr_4_7 .leaf) 9 dr_4_9 .leaf) (.node .leaf 5 (.node (.node .leaf 6 dr_5_6 .leaf) 11 dr_5_11 .leaf) .leaf)) 9 (.node (.node .leaf 4 dr_9_4 .leaf) 5 dr_9_5 .leaf) (.node (.node .leaf 10 (.node (.node .leaf 8 dr_10_8 .leaf) 17 dr_10_17 .leaf) .leaf) 13 (.node (.node .leaf 6 dr_13_6 .leaf) 11 dr_13_11 .leaf) .leaf)) 14 (.node (.node .leaf 1 dr_14_1 .leaf) 5 dr_14_5 .leaf) (.node (.node (.node .leaf 17 (.node .leaf 18 dr_17_18 .leaf) .leaf) 18 (.node .leaf 23 dr_18_23 .leaf) (.node .leaf 20 (.node .leaf 4 dr_20_4 .leaf) .leaf)) 21 (.node (.node .leaf 3 dr_21_3 .leaf) 9 dr_21_9 .leaf) (.node (.node .leaf 26 (.node (.node .leaf 1 dr_26_1 .leaf) 6 dr_26_6 .leaf) .leaf) 28 (.node .leaf 4 dr_28_4 .leaf) .leaf))) 29 (.node (.node .leaf 5 dr_29_5 .leaf) 10 dr_29_10 .leaf) (.node (.node (.node (.node .leaf 30 (.node (.node .leaf 1 dr_30_1 .leaf) 2 dr_30_2 .leaf) .leaf) 32 (.node .leaf 1 dr_32_1 .leaf) (.node .leaf 35 (.node .leaf 4 dr_35_4 .leaf) .leaf)) 47 (.node .leaf 8 dr_47_8 .leaf) (.node (.node .leaf 48 (.node .leaf 7 dr_48_7 .leaf) .leaf) 49 (.node .leaf 6 dr_49_6 .leaf) .leaf)) 53 (.node .leaf 1 dr_53_1 .leaf) (.node (.node (.node .leaf 64 (.node (.node .leaf 5 dr_64_5 .leaf) 6 dr_64_6 .leaf) .leaf) 65 (.node .leaf 4 dr_65_4 .leaf) .leaf) 69 (.node (.node .leaf 1 dr_69_1 .leaf) 2 dr_69_2 .leaf) (.node (.node .leaf 75 (.node .leaf 9 dr_75_9 .leaf) .leaf) 87 (.node .leaf 6 dr_87_6 .leaf) .leaf))))
def inpls : List Nat := [68, 75, 93]
def births : List Nat := [68, 75, 93]
def solos : List Nat := [110]
def nilts : List Nat := [25, 30, 41, 121]
def nilbs : Nat → Nat → Bool := fun k c => (k == 121 && c == 33) || (k == 41 && c == 33) || (k == 41 && c == 1) || (k == 30 && c == 1) || (k == 25 && c == 1)
def srts : List (Nat × Nat × TypeId × Nat) := []
def clns : List (Nat × TypeId) := [(66, 70), (71, 23)]
noncomputable def frzs : Tree (Tree (List (Nat × Nat))) :=
  (.node .leaf 75 (.node .leaf 10 [(1, 2)] .leaf) .leaf)
noncomputable def cfg : Cfg := { fn := fns.find, ty := tys.find, kill := fun f l => match kills.find f with | some t => (t.find l).getD [] | none => [], draw := fun f l => match draws.find f with | some t => (t.find l).getD [] | none => [], ext := exts.contains, inpl := inpls.contains, birth := births.contains, frz := fun f l => match frzs.find f with | some t => (t.find l).getD [] | none => [], solo := solos.contains, cln := clnAt clns, nilB := nilbs, nilT := nilts.contains, srt := srtAt srts }
@[go_sem] theorem ext_all {k : Nat} : cfg.ext k = (k == 96) := by simp only [cfg, exts, List.contains_cons, List.contains_nil, Bool.or_false]
@[go_sem] theorem inpl_all {k : Nat} : cfg.inpl k = (k == 68 || (k == 75 || (k == 93))) := by simp only [cfg, inpls, List.contains_cons, List.contains_nil, Bool.or_false]
@[go_sem] theorem birth_all {k : Nat} : cfg.birth k = (k == 68 || (k == 75 || (k == 93))) := by simp only [cfg, births, List.contains_cons, List.contains_nil, Bool.or_false]
@[go_sem] theorem solo_all {k : Nat} : cfg.solo k = (k == 110) := by simp only [cfg, solos, List.contains_cons, List.contains_nil, Bool.or_false]
@[go_sem] theorem nilt_all {k : Nat} : cfg.nilT k = (k == 25 || (k == 30 || (k == 41 || (k == 121)))) := by simp only [cfg, nilts, List.contains_cons, List.contains_nil, Bool.or_false]
@[go_sem] theorem nilb_all {k c : Nat} : cfg.nilB k c = ((k == 121 && c == 33) || (k == 41 && c == 33) || (k == 41 && c == 1) || (k == 30 && c == 1) || (k == 25 && c == 1)) := rfl
theorem fn_66 : cfg.fn 66 = none := rfl
theorem cln_66 : cfg.cln 66 = some 70 := rfl
theorem fn_71 : cfg.fn 71 = none := rfl
theorem cln_71 : cfg.cln 71 = some 23 := rfl
theorem fn_2 : cfg.fn 2 = some Try.f2 := rfl
theorem fn_3 : cfg.fn 3 = some Try.f3 := rfl
theorem fn_4 : cfg.fn 4 = some Try.f4 := rfl
theorem fn_5 : cfg.fn 5 = some Try.f5 := rfl
theorem fn_6 : cfg.fn 6 = some Try.f6 := rfl
theorem fn_7 : cfg.fn 7 = some Try.f7 := rfl
theorem fn_8 : cfg.fn 8 = some Try.f8 := rfl
theorem fn_9 : cfg.fn 9 = some Try.f9 := rfl
theorem fn_10 : cfg.fn 10 = some Try.f10 := rfl
theorem fn_11 : cfg.fn 11 = some Try.f11 := rfl
theorem fn_12 : cfg.fn 12 = some Try.f12 := rfl
theorem fn_13 : cfg.fn 13 = some Try.f13 := rfl
theorem fn_14 : cfg.fn 14 = some Try.f14 := rfl
theorem fn_15 : cfg.fn 15 = some Try.f15 := rfl
theorem fn_16 : cfg.fn 16 = some Try.f16 := rfl
theorem fn_17 : cfg.fn 17 = some Try.f17 := rfl
theorem fn_18 : cfg.fn 18 = some Try.f18 := rfl
theorem fn_19 : cfg.fn 19 = some Try.f19 := rfl
theorem fn_20 : cfg.fn 20 = some Try.f20 := rfl
theorem fn_21 : cfg.fn 21 = some Try.f21 := rfl
theorem fn_22 : cfg.fn 22 = some Try.f22 := rfl
theorem fn_23 : cfg.fn 23 = some Try.f23 := rfl
theorem fn_24 : cfg.fn 24 = some Try.f24 := rfl
theorem fn_25 : cfg.fn 25 = some Try.f25 := rfl
theorem fn_26 : cfg.fn 26 = some Try.f26 := rfl
theorem fn_27 : cfg.fn 27 = some Try.f27 := rfl
theorem fn_28 : cfg.fn 28 = some Try.f28 := rfl
theorem fn_29 : cfg.fn 29 = some Try.f29 := rfl
theorem fn_30 : cfg.fn 30 = some Try.f30 := rfl
theorem fn_31 : cfg.fn 31 = some Try.f31 := rfl
theorem fn_32 : cfg.fn 32 = some Try.f32 := rfl
theorem fn_33 : cfg.fn 33 = some Try.f33 := rfl
theorem fn_34 : cfg.fn 34 = some Try.f34 := rfl
theorem fn_35 : cfg.fn 35 = some Try.f35 := rfl
theorem fn_36 : cfg.fn 36 = some Try.f36 := rfl
theorem fn_37 : cfg.fn 37 = some Try.f37 := rfl
theorem fn_38 : cfg.fn 38 = some Try.f38 := rfl
theorem fn_39 : cfg.fn 39 = some Try.f39 := rfl
theorem fn_40 : cfg.fn 40 = some Try.f40 := rfl
theorem fn_41 : cfg.fn 41 = some Try.f41 := rfl
theorem fn_42 : cfg.fn 42 = some Try.f42 := rfl
theorem fn_43 : cfg.fn 43 = some Try.f43 := rfl
theorem fn_44 : cfg.fn 44 = some Try.f44 := rfl
theorem fn_45 : cfg.fn 45 = some Try.f45 := rfl
theorem fn_46 : cfg.fn 46 = some Try.f46 := rfl
theorem fn_47 : cfg.fn 47 = some Try.f47 := rfl
theorem fn_48 : cfg.fn 48 = some Try.f48 := rfl
theorem fn_49 : cfg.fn 49 = some Try.f49 := rfl
theorem fn_50 : cfg.fn 50 = some Try.f50 := rfl
theorem fn_51 : cfg.fn 51 = some Try.f51 := rfl
theorem fn_52 : cfg.fn 52 = some Try.f52 := rfl
theorem fn_53 : cfg.fn 53 = some Try.f53 := rfl
theorem fn_54 : cfg.fn 54 = some Try.f54 := rfl
theorem fn_55 : cfg.fn 55 = some Try.f55 := rfl
theorem fn_56 : cfg.fn 56 = some Try.f56 := rfl
theorem fn_57 : cfg.fn 57 = some Try.f57 := rfl
theorem fn_58 : cfg.fn 58 = some Try.f58 := rfl
theorem fn_59 : cfg.fn 59 = some Try.f59 := rfl
theorem fn_60 : cfg.fn 60 = some Try.f60 := rfl
theorem fn_61 : cfg.fn 61 = some Try.f61 := rfl
theorem fn_62 : cfg.fn 62 = some Try.f62 := rfl
theorem fn_63 : cfg.fn 63 = some Try.f63 := rfl
theorem fn_64 : cfg.fn 64 = some Try.f64 := rfl
theorem fn_65 : cfg.fn 65 = some Try.f65 := rfl
theorem fn_67 : cfg.fn 67 = some Try.f67 := rfl
theorem fn_68 : cfg.fn 68 = some Try.f68 := rfl
theorem fn_69 : cfg.fn 69 = some Try.f69 := rfl
theorem fn_70 : cfg.fn 70 = some Try.f70 := rfl
theorem fn_72 : cfg.fn 72 = some Try.f72 := rfl
theorem fn_73 : cfg.fn 73 = some Try.f73 := rfl
theorem fn_74 : cfg.fn 74 = some Try.f74 := rfl
theorem fn_75 : cfg.fn 75 = some Try.f75 := rfl
theorem fn_76 : cfg.fn 76 = some Try.f76 := rfl
theorem fn_77 : cfg.fn 77 = some Try.f77 := rfl
theorem fn_78 : cfg.fn 78 = some Try.f78 := rfl
theorem fn_79 : cfg.fn 79 = some Try.f79 := rfl
theorem fn_80 : cfg.fn 80 = some Try.f80 := rfl
theorem fn_81 : cfg.fn 81 = some Try.f81 := rfl
theorem fn_82 : cfg.fn 82 = some Try.f82 := rfl
theorem fn_83 : cfg.fn 83 = some Try.f83 := rfl
theorem fn_84 : cfg.fn 84 = some Try.f84 := rfl
theorem fn_85 : cfg.fn 85 = some Try.f85 := rfl
theorem fn_86 : cfg.fn 86 = some Try.f86 := rfl
theorem fn_87 : cfg.fn 87 = some Try.f87 := rfl
theorem fn_88 : cfg.fn 88 = some Try.f88 := rfl
theorem fn_89 : cfg.fn 89 = some Try.f89 := rfl
theorem fn_90 : cfg.fn 90 = some Try.f90 := rfl
theorem fn_91 : cfg.fn 91 = some Try.f91 := rfl
theorem fn_92 : cfg.fn 92 = some Try.f92 := rfl
theorem fn_93 : cfg.fn 93 = some Try.f93 := rfl
theorem fn_94 : cfg.fn 94 = some Try.f94 := rfl
theorem fn_95 : cfg.fn 95 = some Try.f95 := rfl
theorem fn_97 : cfg.fn 97 = some Try.f97 := rfl
theorem fn_98 : cfg.fn 98 = some Try.f98 := rfl
theorem fn_99 : cfg.fn 99 = some Try.f99 := rfl
@[go_sem] theorem ty_1 : cfg.ty 1 = some ⟨.func, 1, 8, [.nilf]⟩ := rfl
@[go_sem] theorem ty_2 : cfg.ty 2 = some ⟨(.int .i64), 1, 8, [.int .i64 0]⟩ := rfl
@[go_sem] theorem ty_3 : cfg.ty 3 = some ⟨(.int .i64), 1, 8, [.int .i64 0]⟩ := rfl
@[go_sem] theorem ty_4 : cfg.ty 4 = some ⟨.bool, 1, 1, [.bool false]⟩ := rfl
@[go_sem] theorem ty_5 : cfg.ty 5 = some ⟨(.int .u8), 1, 1, [.int .u8 0]⟩ := rfl
@[go_sem] theorem ty_7 : cfg.ty 7 = some ⟨(.struct false [(0, 2), (1, 3), (2, 4), (3, 6)]), 4, 24, [.int .i64 0, .int .i64 0, .bool false, .int .u8 0]⟩ := rfl
@[go_sem] theorem ty_8 : cfg.ty 8 = some ⟨(.struct false [(0, 2), (1, 3), (2, 4), (3, 6)]), 4, 24, [.int .i64 0, .int .i64 0, .bool false, .int .u8 0]⟩ := rfl
@[go_sem] theorem ty_9 : cfg.ty 9 = some ⟨.str, 1, 16, [.str []]⟩ := rfl
@[go_sem] theorem ty_10 : cfg.ty 10 = some ⟨.str, 1, 16, [.str []]⟩ := rfl
@[go_sem] theorem ty_11 : cfg.ty 11 = some ⟨.str, 1, 16, [.str []]⟩ := rfl
@[go_sem] theorem ty_12 : cfg.ty 12 = some ⟨(.int .u64), 1, 8, [.int .u64 0]⟩ := rfl
@[go_sem] theorem ty_13 : cfg.ty 13 = some ⟨(.struct false [(0, 9), (1, 12)]), 2, 24, [.str [], .int .u64 0]⟩ := rfl
@[go_sem] theorem ty_14 : cfg.ty 14 = some ⟨(.struct false [(0, 9), (1, 12)]), 2, 24, [.str [], .int .u64 0]⟩ := rfl
@[go_sem] theorem ty_15 : cfg.ty 15 = some ⟨(.ptr 162), 1, 8, [.nilp]⟩ := rfl
@[go_sem] theorem ty_16 : cfg.ty 16 = some ⟨(.ptr 165), 1, 8, [.nilp]⟩ := rfl
@[go_sem] theorem ty_17 : cfg.ty 17 = some ⟨(.ptr 172), 1, 8, [.nilp]⟩ := rfl
@[go_sem] theorem ty_18 : cfg.ty 18 = some ⟨(.struct false [(0, 17)]), 1, 8, [.nilp]⟩ := rfl
@[go_sem] theorem ty_19 : cfg.ty 19 = some ⟨(.struct false [(0, 17)]), 1, 8, [.nilp]⟩ := rfl
@[go_sem] theorem ty_21 : cfg.ty 21 = some ⟨(.int .i32), 1, 4, [.int .i32 0]⟩ := rfl
@[go_sem] theorem ty_22 : cfg.ty 22 = some ⟨(.slice 66), 1, 24, [.sl true []]⟩ := rfl
@[go_sem] theorem ty_23 : cfg.ty 23 = some ⟨(.slice 3), 1, 24, [.sl true []]⟩ := rfl
@[go_sem] theorem ty_24 : cfg.ty 24 = some ⟨(.struct true [(0, 3), (1, 23)]), 2, 32, [.int .i64 0, .sl true []]⟩ := rfl
@[go_sem] theorem ty_25 : cfg.ty 25 = some ⟨(.struct true [(0, 3), (1, 23)]), 2, 32, [.int .i64 0, .sl true []]⟩ := rfl
@[go_sem] theorem ty_26 : cfg.ty 26 = some ⟨.func, 1, 8, [.nilf]⟩ := rfl
@[go_sem] theorem ty_27 : cfg.ty 27 = some ⟨(.slice 89), 1, 24, [.sl true []]⟩ := rfl
@[go_sem] theorem ty_28 : cfg.ty 28 = some ⟨(.slice 74), 1, 24, [.sl true []]⟩ := rfl
@[go_sem] theorem ty_29 : cfg.ty 29 = some ⟨(.struct true [(0, 25), (2, 27), (3, 28)]), 4, 80, [.int .i64 0, .sl true [], .sl true [], .sl true []]⟩ := rfl
@[go_sem] theorem ty_30 : cfg.ty 30 = some ⟨(.struct true [(0, 25), (2, 27), (3, 28)]), 4, 80, [.int .i64 0, .sl true [], .sl true [], .sl true []]⟩ := rfl
@[go_sem] theorem ty_31 : cfg.ty 31 = some ⟨.func, 1, 8, [.nilf]⟩ := rfl
@[go_sem] theorem ty_32 : cfg.ty 32 = some ⟨(.ptr 131), 1, 8, [.nilp]⟩ := rfl
@[go_sem] theorem ty_33 : cfg.ty 33 = some ⟨(.int .i64), 1, 8, [.int .i64 0]⟩ := rfl
@[go_sem] theorem ty_35 : cfg.ty 35 = some ⟨.func, 1, 8, [.nilf]⟩ := rfl
@[go_sem] theorem ty_37 : cfg.ty 37 = some ⟨.func, 1, 8, [.nilf]⟩ := rfl
@[go_sem] theorem ty_38 : cfg.ty 38 = some ⟨(.struct true [(0, 3), (1, 23)]), 2, 32, [.int .i64 0, .sl true []]⟩ := rfl
@[go_sem] theorem ty_39 : cfg.ty 39 = some ⟨(.slice 85), 1, 24, [.sl true []]⟩ := rfl
@[go_sem] theorem ty_40 : cfg.ty 40 = some ⟨(.struct true [(0, 38), (2, 27), (3, 39)]), 4, 80, [.int .i64 0, .sl true [], .sl true [], .sl true []]⟩ := rfl
@[go_sem] theorem ty_41 : cfg.ty 41 = some ⟨(.struct true [(0, 38), (2, 27), (3, 39)]), 4, 80, [.int .i64 0, .sl true [], .sl true [], .sl true []]⟩ := rfl
@[go_sem] theorem ty_43 : cfg.ty 43 = some ⟨.func, 1, 8, [.nilf]⟩ := rfl
@[go_sem] theorem ty_44 : cfg.ty 44 = some ⟨(.slice 90), 1, 24, [.sl true []]⟩ := rfl
@[go_sem] theorem ty_45 : cfg.ty 45 = some ⟨.func, 1, 8, [.nilf]⟩ := rfl
@[go_sem] theorem ty_46 : cfg.ty 46 = some ⟨.func, 1, 8, [.nilf]⟩ := rfl
@[go_sem] theorem ty_47 : cfg.ty 47 = some ⟨.func, 1, 8, [.nilf]⟩ := rfl
@[go_sem] theorem ty_48 : cfg.ty 48 = some ⟨.func, 1, 8, [.nilf]⟩ := rfl
@[go_sem] theorem ty_49 : cfg.ty 49 = some ⟨.func, 1, 8, [.nilf]⟩ := rfl
@[go_sem] theorem ty_51 : cfg.ty 51 = some ⟨.func, 1, 8, [.nilf]⟩ := rfl
@[go_sem] theorem ty_53 : cfg.ty 53 = some ⟨.func, 1, 8, [.nilf]⟩ := rfl
@[go_sem] theorem ty_54 : cfg.ty 54 = some ⟨.func, 1, 8, [.nilf]⟩ := rfl
@[go_sem] theorem ty_55 : cfg.ty 55 = some ⟨.func, 1, 8, [.nilf]⟩ := rfl
@[go_sem] theorem ty_56 : cfg.ty 56 = some ⟨.func, 1, 8, [.nilf]⟩ := rfl
@[go_sem] theorem ty_57 : cfg.ty 57 = some ⟨.func, 1, 8, [.nilf]⟩ := rfl
@[go_sem] theorem ty_58 : cfg.ty 58 = some ⟨.func, 1, 8, [.nilf]⟩ := rfl
@[go_sem] theorem ty_59 : cfg.ty 59 = some ⟨.func, 1, 8, [.nilf]⟩ := rfl
@[go_sem] theorem ty_60 : cfg.ty 60 = some ⟨.func, 1, 8, [.nilf]⟩ := rfl
@[go_sem] theorem ty_61 : cfg.ty 61 = some ⟨.func, 1, 8, [.nilf]⟩ := rfl
@[go_sem] theorem ty_62 : cfg.ty 62 = some ⟨(.ptr 121), 1, 8, [.nilp]⟩ := rfl
@[go_sem] theorem ty_64 : cfg.ty 64 = some ⟨.func, 1, 8, [.nilf]⟩ := rfl
@[go_sem] theorem ty_65 : cfg.ty 65 = some ⟨(.struct true [(0, 3), (1, 3)]), 2, 16, [.int .i64 0, .int .i64 0]⟩ := rfl
@[go_sem] theorem ty_66 : cfg.ty 66 = some ⟨(.struct true [(0, 3), (1, 3)]), 2, 16, [.int .i64 0, .int .i64 0]⟩ := rfl
@[go_sem] theorem ty_68 : cfg.ty 68 = some ⟨.func, 1, 8, [.nilf]⟩ := rfl
@[go_sem] theorem ty_69 : cfg.ty 69 = some ⟨.func, 1, 8, [.nilf]⟩ := rfl
@[go_sem] theorem ty_70 : cfg.ty 70 = some ⟨(.slice 76), 1, 24, [.sl true []]⟩ := rfl
@[go_sem] theorem ty_72 : cfg.ty 72 = some ⟨.func, 1, 8, [.nilf]⟩ := rfl
@[go_sem] theorem ty_73 : cfg.ty 73 = some ⟨(.struct true [(0, 3), (1, 4)]), 2, 16, [.int .i64 0, .bool false]⟩ := rfl
@[go_sem] theorem ty_74 : cfg.ty 74 = some ⟨(.struct true [(0, 3), (1, 4)]), 2, 16, [.int .i64 0, .bool false]⟩ := rfl
@[go_sem] theorem ty_75 : cfg.ty 75 = some ⟨(.struct true [(0, 3), (1, 74), (3, 74)]), 5, 40, [.int .i64 0, .int .i64 0, .bool false, .int .i64 0, .bool false]⟩ := rfl
@[go_sem] theorem ty_76 : cfg.ty 76 = some ⟨(.struct true [(0, 3), (1, 74), (3, 74)]), 5, 40, [.int .i64 0, .int .i64 0, .bool false, .int .i64 0, .bool false]⟩ := rfl
@[go_sem] theorem ty_77 : cfg.ty 77 = some ⟨.func, 1, 8, [.nilf]⟩ := rfl
@[go_sem] theorem ty_78 : cfg.ty 78 = some ⟨.func, 1, 8, [.nilf]⟩ := rfl
@[go_sem] theorem ty_79 : cfg.ty 79 = some ⟨.func, 1, 8, [.nilf]⟩ := rfl
@[go_sem] theorem ty_80 : cfg.ty 80 = some ⟨.func, 1, 8, [.nilf]⟩ := rfl
@[go_sem] theorem ty_81 : cfg.ty 81 = some ⟨.func, 1, 8, [.nilf]⟩ := rfl
@[go_sem] theorem ty_82 : cfg.ty 82 = some ⟨.func, 1, 8, [.nilf]⟩ := rfl
@[go_sem] theorem ty_83 : cfg.ty 83 = some ⟨.func, 1, 8, [.nilf]⟩ := rfl
@[go_sem] theorem ty_84 : cfg.ty 84 = some ⟨.func, 1, 8, [.nilf]⟩ := rfl
@[go_sem] theorem ty_85 : cfg.ty 85 = some ⟨(.struct true [(0, 3), (1, 4)]), 2, 16, [.int .i64 0, .bool false]⟩ := rfl
@[go_sem] theorem ty_86 : cfg.ty 86 = some ⟨.func, 1, 8, [.nilf]⟩ := rfl
@[go_sem] theorem ty_87 : cfg.ty 87 = some ⟨(.slice 27), 1, 24, [.sl true []]⟩ := rfl
@[go_sem] theorem ty_88 : cfg.ty 88 = some ⟨.func, 1, 8, [.nilf]⟩ := rfl
@[go_sem] theorem ty_89 : cfg.ty 89 = some ⟨(.int .u32), 1, 4, [.int .u32 0]⟩ := rfl
@[go_sem] theorem ty_90 : cfg.ty 90 = some ⟨(.struct true [(0, 3), (1, 3)]), 2, 16, [.int .i64 0, .int .i64 0]⟩ := rfl
@[go_sem] theorem ty_91 : cfg.ty 91 = some ⟨.func, 1, 8, [.nilf]⟩ := rfl
@[go_sem] theorem ty_92 : cfg.ty 92 = some ⟨(.struct true [(0, 9), (1, 3)]), 2, 24, [.str [], .int .i64 0]⟩ := rfl
@[go_sem] theorem ty_93 : cfg.ty 93 = some ⟨(.struct true [(0, 9), (1, 3)]), 2, 24, [.str [], .int .i64 0]⟩ := rfl
@[go_sem] theorem ty_95 : cfg.ty 95 = some ⟨.func, 1, 8, [.nilf]⟩ := rfl
@[go_sem] theorem ty_96 : cfg.ty 96 = some ⟨(.ptr 144), 1, 8, [.nilp]⟩ := rfl
@[go_sem] theorem ty_97 : cfg.ty 97 = some ⟨.func, 1, 8, [.nilf]⟩ := rfl
@[go_sem] theorem ty_98 : cfg.ty 98 = some ⟨.func, 1, 8, [.nilf]⟩ := rfl
@[go_sem] theorem ty_99 : cfg.ty 99 = some ⟨.func, 1, 8, [.nilf]⟩ := rfl
@[go_sem] theorem ty_100 : cfg.ty 100 = some ⟨.func, 1, 8, [.nilf]⟩ := rfl
@[go_sem] theorem ty_101 : cfg.ty 101 = some ⟨.func, 1, 8, [.nilf]⟩ := rfl
@[go_sem] theorem ty_103 : cfg.ty 103 = some ⟨.func, 1, 8, [.nilf]⟩ := rfl
@[go_sem] theorem ty_105 : cfg.ty 105 = some ⟨.func, 1, 8, [.nilf]⟩ := rfl
@[go_sem] theorem ty_106 : cfg.ty 106 = some ⟨.func, 1, 8, [.nilf]⟩ := rfl
@[go_sem] theorem ty_107 : cfg.ty 107 = some ⟨(.ptr 110), 1, 8, [.nilp]⟩ := rfl
@[go_sem] theorem ty_108 : cfg.ty 108 = some ⟨(.slice 5), 1, 24, [.sl true []]⟩ := rfl
@[go_sem] theorem ty_109 : cfg.ty 109 = some ⟨(.struct false [(0, 107), (1, 108)]), 2, 32, [.nilp, .sl true []]⟩ := rfl
@[go_sem] theorem ty_110 : cfg.ty 110 = some ⟨(.struct false [(0, 107), (1, 108)]), 2, 32, [.nilp, .sl true []]⟩ := rfl
@[go_sem] theorem ty_114 : cfg.ty 114 = some ⟨.func, 1, 8, [.nilf]⟩ := rfl
@[go_sem] theorem ty_115 : cfg.ty 115 = some ⟨.func, 1, 8, [.nilf]⟩ := rfl
@[go_sem] theorem ty_116 : cfg.ty 116 = some ⟨.func, 1, 8, [.nilf]⟩ := rfl
@[go_sem] theorem ty_117 : cfg.ty 117 = some ⟨.func, 1, 8, [.nilf]⟩ := rfl
@[go_sem] theorem ty_118 : cfg.ty 118 = some ⟨.func, 1, 8, [.nilf]⟩ := rfl
@[go_sem] theorem ty_119 : cfg.ty 119 = some ⟨.func, 1, 8, [.nilf]⟩ := rfl
@[go_sem] theorem ty_120 : cfg.ty 120 = some ⟨(.struct true [(0, 32), (1, 25), (3, 70), (4, 4)]), 5, 72, [.nilp, .int .i64 0, .sl true [], .sl true [], .bool false]⟩ := rfl
@[go_sem] theorem ty_121 : cfg.ty 121 = some ⟨(.struct true [(0, 32), (1, 25), (3, 70), (4, 4)]), 5, 72, [.nilp, .int .i64 0, .sl true [], .sl true [], .bool false]⟩ := rfl
@[go_sem] theorem ty_122 : cfg.ty 122 = some ⟨.func, 1, 8, [.nilf]⟩ := rfl
@[go_sem] theorem ty_123 : cfg.ty 123 = some ⟨.func, 1, 8, [.nilf]⟩ := rfl
@[go_sem] theorem ty_124 : cfg.ty 124 = some ⟨.func, 1, 8, [.nilf]⟩ := rfl
@[go_sem] theorem ty_125 : cfg.ty 125 = some ⟨.func, 1, 8, [.nilf]⟩ := rfl
@[go_sem] theorem ty_126 : cfg.ty 126 = some ⟨(.array 4096 74), 8192, 65536, zt_126⟩ := rfl
@[go_sem] theorem ty_127 : cfg.ty 127 = some ⟨(.array 4096 89), 4096, 16384, zt_127⟩ := rfl
@[go_sem] theorem ty_128 : cfg.ty 128 = some ⟨(.array 256 89), 256, 1024, zt_128⟩ := rfl
@[go_sem] theorem ty_129 : cfg.ty 129 = some ⟨(.array 16 89), 16, 64, [.int .u32 0, .int .u32 0, .int .u32 0, .int .u32 0, .int .u32 0, .int .u32 0, .int .u32 0, .int .u32 0, .int .u32 0, .int .u32 0, .int .u32 0, .int .u32 0, .int .u32 0, .int .u32 0, .int .u32 0, .int .u32 0]⟩ := rfl
@[go_sem] theorem ty_130 : cfg.ty 130 = some ⟨(.struct true [(0, 126), (8192, 127), (12288, 128), (12544, 129), (12560, 89)]), 12561, 83016, zt_130⟩ := rfl
@[go_sem] theorem ty_131 : cfg.ty 131 = some ⟨(.struct true [(0, 126), (8192, 127), (12288, 128), (12544, 129), (12560, 89)]), 12561, 83016, zt_131⟩ := rfl
@[go_sem] theorem ty_132 : cfg.ty 132 = some ⟨.func, 1, 8, [.nilf]⟩ := rfl
@[go_sem] theorem ty_133 : cfg.ty 133 = some ⟨.func, 1, 8, [.nilf]⟩ := rfl
@[go_sem] theorem ty_134 : cfg.ty 134 = some ⟨.func, 1, 8, [.nilf]⟩ := rfl
@[go_sem] theorem ty_135 : cfg.ty 135 = some ⟨.func, 1, 8, [.nilf]⟩ := rfl
@[go_sem] theorem ty_136 : cfg.ty 136 = some ⟨.func, 1, 8, [.nilf]⟩ := rfl
@[go_sem] theorem ty_137 : cfg.ty 137 = some ⟨.func, 1, 8, [.nilf]⟩ := rfl
@[go_sem] theorem ty_138 : cfg.ty 138 = some ⟨.func, 1, 8, [.nilf]⟩ := rfl
@[go_sem] theorem ty_139 : cfg.ty 139 = some ⟨.func, 1, 8, [.nilf]⟩ := rfl
@[go_sem] theorem ty_140 : cfg.ty 140 = some ⟨.func, 1, 8, [.nilf]⟩ := rfl
@[go_sem] theorem ty_141 : cfg.ty 141 = some ⟨.func, 1, 8, [.nilf]⟩ := rfl
@[go_sem] theorem ty_142 : cfg.ty 142 = some ⟨.func, 1, 8, [.nilf]⟩ := rfl
@[go_sem] theorem ty_143 : cfg.ty 143 = some ⟨(.struct true [(0, 9), (1, 33)]), 2, 24, [.str [], .int .i64 0]⟩ := rfl
@[go_sem] theorem ty_144 : cfg.ty 144 = some ⟨(.struct true [(0, 9), (1, 33)]), 2, 24, [.str [], .int .i64 0]⟩ := rfl
@[go_sem] theorem ty_145 : cfg.ty 145 = some ⟨.func, 1, 8, [.nilf]⟩ := rfl
@[go_sem] theorem ty_146 : cfg.ty 146 = some ⟨(.int .u64), 1, 8, [.int .u64 0]⟩ := rfl
@[go_sem] theorem ty_147 : cfg.ty 147 = some ⟨.func, 1, 8, [.nilf]⟩ := rfl
@[go_sem] theorem ty_148 : cfg.ty 148 = some ⟨(.ptr 5), 1, 8, [.nilp]⟩ := rfl
@[go_sem] theorem ty_149 : cfg.ty 149 = some ⟨.func, 1, 8, [.nilf]⟩ := rfl
@[go_sem] theorem ty_150 : cfg.ty 150 = some ⟨.func, 1, 8, [.nilf]⟩ := rfl
@[go_sem] theorem ty_151 : cfg.ty 151 = some ⟨(.int .u64), 1, 8, [.int .u64 0]⟩ := rfl
@[go_sem] theorem ty_153 : cfg.ty 153 = some ⟨.func, 1, 8, [.nilf]⟩ := rfl
@[go_sem] theorem ty_154 : cfg.ty 154 = some ⟨.func, 1, 8, [.nilf]⟩ := rfl
@[go_sem] theorem ty_155 : cfg.ty 155 = some ⟨.func, 1, 8, [.nilf]⟩ := rfl
@[go_sem] theorem ty_156 : cfg.ty 156 = some ⟨.func, 1, 8, [.nilf]⟩ := rfl
@[go_sem] theorem ty_157 : cfg.ty 157 = some ⟨.rawp, 1, 8, [.nilp]⟩ := rfl
@[go_sem] theorem ty_158 : cfg.ty 158 = some ⟨.func, 1, 8, [.nilf]⟩ := rfl
@[go_sem] theorem ty_159 : cfg.ty 159 = some ⟨.func, 1, 8, [.nilf]⟩ := rfl
@[go_sem] theorem ty_160 : cfg.ty 160 = some ⟨.func, 1, 8, [.nilf]⟩ := rfl
@[go_sem] theorem ty_161 : cfg.ty 161 = some ⟨(.struct false [(0, 17), (1, 17), (2, 17), (3, 9)]), 4, 40, [.nilp, .nilp, .nilp, .str []]⟩ := rfl
@[go_sem] theorem ty_162 : cfg.ty 162 = some ⟨(.struct false [(0, 17), (1, 17), (2, 17), (3, 9)]), 4, 40, [.nilp, .nilp, .nilp, .str []]⟩ := rfl
@[go_sem] theorem ty_163 : cfg.ty 163 = some ⟨(.array 0 16), 0, 0, []⟩ := rfl
@[go_sem] theorem ty_164 : cfg.ty 164 = some ⟨(.struct false [(0, 163)]), 0, 0, []⟩ := rfl
@[go_sem] theorem ty_165 : cfg.ty 165 = some ⟨(.struct false [(0, 163)]), 0, 0, []⟩ := rfl
@[go_sem] theorem ty_168 : cfg.ty 168 = some ⟨.func, 1, 8, [.nilf]⟩ := rfl
@[go_sem] theorem ty_169 : cfg.ty 169 = some ⟨(.int .i32), 1, 4, [.int .i32 0]⟩ := rfl
@[go_sem] theorem ty_170 : cfg.ty 170 = some ⟨(.int .i32), 1, 4, [.int .i32 0]⟩ := rfl
@[go_sem] theorem ty_171 : cfg.ty 171 = some ⟨(.struct false [(0, 12), (1, 12), (2, 89), (3, 166), (4, 5), (5, 5), (6, 167), (7, 168), (8, 148), (9, 169), (10, 170)]), 11, 48, [.int .u64 0, .int .u64 0, .int .u32 0, .int .u8 0, .int .u8 0, .int .u8 0, .int .u8 0, .nilf, .nilp, .int .i32 0, .int .i32 0]⟩ := rfl
@[go_sem] theorem ty_172 : cfg.ty 172 = some ⟨(.struct false [(0, 12), (1, 12), (2, 89), (3, 166), (4, 5), (5, 5), (6, 167), (7, 168), (8, 148), (9, 169), (10, 170)]), 11, 48, [.int .u64 0, .int .u64 0, .int .u32 0, .int .u8 0, .int .u8 0, .int .u8 0, .int .u8 0, .nilf, .nilp, .int .i32 0, .int .i32 0]⟩ := rfl
@[go_sem] theorem ty_173 : cfg.ty 173 = some ⟨.func, 1, 8, [.nilf]⟩ := rfl
@[go_sem] theorem draw_3_8 : cfg.draw 3 8 = dr_3_8 := rfl
@[go_sem] theorem draw_3_9 : cfg.draw 3 9 = dr_3_9 := rfl
@[go_sem] theorem draw_4_7 : cfg.draw 4 7 = dr_4_7 := rfl
@[go_sem] theorem draw_4_9 : cfg.draw 4 9 = dr_4_9 := rfl
@[go_sem] theorem draw_5_6 : cfg.draw 5 6 = dr_5_6 := rfl
@[go_sem] theorem draw_5_11 : cfg.draw 5 11 = dr_5_11 := rfl
@[go_sem] theorem draw_9_4 : cfg.draw 9 4 = dr_9_4 := rfl
@[go_sem] theorem draw_9_5 : cfg.draw 9 5 = dr_9_5 := rfl
@[go_sem] theorem draw_10_8 : cfg.draw 10 8 = dr_10_8 := rfl
@[go_sem] theorem draw_10_17 : cfg.draw 10 17 = dr_10_17 := rfl
@[go_sem] theorem draw_13_6 : cfg.draw 13 6 = dr_13_6 := rfl
@[go_sem] theorem draw_13_11 : cfg.draw 13 11 = dr_13_11 := rfl
@[go_sem] theorem draw_14_1 : cfg.draw 14 1 = dr_14_1 := rfl
@[go_sem] theorem draw_14_5 : cfg.draw 14 5 = dr_14_5 := rfl
@[go_sem] theorem draw_17_18 : cfg.draw 17 18 = dr_17_18 := rfl
@[go_sem] theorem draw_18_23 : cfg.draw 18 23 = dr_18_23 := rfl
@[go_sem] theorem draw_20_4 : cfg.draw 20 4 = dr_20_4 := rfl
@[go_sem] theorem draw_21_3 : cfg.draw 21 3 = dr_21_3 := rfl
@[go_sem] theorem draw_21_9 : cfg.draw 21 9 = dr_21_9 := rfl
@[go_sem] theorem draw_26_1 : cfg.draw 26 1 = dr_26_1 := rfl
@[go_sem] theorem draw_26_6 : cfg.draw 26 6 = dr_26_6 := rfl
@[go_sem] theorem draw_28_4 : cfg.draw 28 4 = dr_28_4 := rfl
@[go_sem] theorem draw_29_5 : cfg.draw 29 5 = dr_29_5 := rfl
@[go_sem] theorem draw_29_10 : cfg.draw 29 10 = dr_29_10 := rfl
@[go_sem] theorem draw_30_1 : cfg.draw 30 1 = dr_30_1 := rfl
@[go_sem] theorem draw_30_2 : cfg.draw 30 2 = dr_30_2 := rfl
@[go_sem] theorem draw_32_1 : cfg.draw 32 1 = dr_32_1 := rfl
@[go_sem] theorem draw_35_4 : cfg.draw 35 4 = dr_35_4 := rfl
@[go_sem] theorem draw_47_8 : cfg.draw 47 8 = dr_47_8 := rfl
@[go_sem] theorem draw_48_7 : cfg.draw 48 7 = dr_48_7 := rfl
@[go_sem] theorem draw_49_6 : cfg.draw 49 6 = dr_49_6 := rfl
@[go_sem] theorem draw_53_1 : cfg.draw 53 1 = dr_53_1 := rfl
@[go_sem] theorem draw_64_5 : cfg.draw 64 5 = dr_64_5 := rfl
@[go_sem] theorem draw_64_6 : cfg.draw 64 6 = dr_64_6 := rfl
@[go_sem] theorem draw_65_4 : cfg.draw 65 4 = dr_65_4 := rfl
@[go_sem] theorem frz_68_0 : cfg.frz 68 0 = [] := rfl
@[go_sem] theorem frz_68_1 : cfg.frz 68 1 = [] := rfl
@[go_sem] theorem frz_68_2 : cfg.frz 68 2 = [] := rfl
@[go_sem] theorem frz_68_3 : cfg.frz 68 3 = [] := rfl
@[go_sem] theorem frz_68_4 : cfg.frz 68 4 = [] := rfl
@[go_sem] theorem frz_68_5 : cfg.frz 68 5 = [] := rfl
@[go_sem] theorem frz_68_6 : cfg.frz 68 6 = [] := rfl
@[go_sem] theorem frz_68_7 : cfg.frz 68 7 = [] := rfl
@[go_sem] theorem frz_68_8 : cfg.frz 68 8 = [] := rfl
@[go_sem] theorem frz_68_9 : cfg.frz 68 9 = [] := rfl
@[go_sem] theorem draw_69_1 : cfg.draw 69 1 = dr_69_1 := rfl
@[go_sem] theorem draw_69_2 : cfg.draw 69 2 = dr_69_2 := rfl
@[go_sem] theorem frz_75_0 : cfg.frz 75 0 = [] := rfl
@[go_sem] theorem frz_75_1 : cfg.frz 75 1 = [] := rfl
@[go_sem] theorem frz_75_2 : cfg.frz 75 2 = [] := rfl
@[go_sem] theorem frz_75_3 : cfg.frz 75 3 = [] := rfl
@[go_sem] theorem frz_75_5 : cfg.frz 75 5 = [] := rfl
@[go_sem] theorem frz_75_4 : cfg.frz 75 4 = [] := rfl
@[go_sem] theorem frz_75_6 : cfg.frz 75 6 = [] := rfl
@[go_sem] theorem frz_75_7 : cfg.frz 75 7 = [] := rfl
@[go_sem] theorem frz_75_8 : cfg.frz 75 8 = [] := rfl
@[go_sem] theorem frz_75_10 : cfg.frz 75 10 = [(1, 2)] := rfl
@[go_sem] theorem draw_75_9 : cfg.draw 75 9 = dr_75_9 := rfl
@[go_sem] theorem draw_87_6 : cfg.draw 87 6 = dr_87_6 := rfl
@[go_sem] theorem frz_93_0 : cfg.frz 93 0 = [] := rfl
@[go_sem] theorem frz_93_1 : cfg.frz 93 1 = [] := rfl
@[go_sem] theorem frz_93_2 : cfg.frz 93 2 = [] := rfl
@[go_sem] theorem frz_93_3 : cfg.frz 93 3 = [] := rfl
@[go_sem] theorem frz_93_4 : cfg.frz 93 4 = [] := rfl
@[go_sem] theorem frz_93_5 : cfg.frz 93 5 = [] := rfl
@[go_sem] theorem frz_93_6 : cfg.frz 93 6 = [] := rfl
@[go_sem] theorem frz_93_8 : cfg.frz 93 8 = [] := rfl
@[go_sem] theorem frz_93_7 : cfg.frz 93 7 = [] := rfl
@[go_sem] theorem frz_93_9 : cfg.frz 93 9 = [] := rfl

end Go.Proofs.Ythikboobkmfgfaa
