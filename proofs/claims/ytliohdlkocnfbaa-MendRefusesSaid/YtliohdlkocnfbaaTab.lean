import Derived.Test.YtliohdlkocnfbaaL1
import Derived.Test.YtliohdlkocnfbaaProg
set_option linter.all false
set_option maxRecDepth 100000
namespace Go.Proofs.Ytliohdlkocnfbaa
open Go.Abs

noncomputable def fns : Tree Func :=
  (.node (.node (.node (.node (.node (.node (.node .leaf 2 Try.f2 .leaf) 3 Try.f3 (.node .leaf 4 Try.f4 .leaf)) 5 Try.f5 (.node (.node .leaf 6 Try.f6 .leaf) 7 Try.f7 .leaf)) 8 Try.f8 (.node (.node (.node .leaf 9 Try.f9 .leaf) 10 Try.f10 .leaf) 11 Try.f11 (.node (.node .leaf 12 Try.f12 .leaf) 13 Try.f13 .leaf))) 14 Try.f14 (.node (.node (.node (.node .leaf 15 Try.f15 .leaf) 16 Try.f16 .leaf) 17 Try.f17 (.node (.node .leaf 18 Try.f18 .leaf) 19 Try.f19 .leaf)) 20 Try.f20 (.node (.node (.node .leaf 21 Try.f21 .leaf) 22 Try.f22 .leaf) 23 Try.f23 (.node (.node .leaf 24 Try.f24 .leaf) 25 Try.f25 .leaf)))) 26 Try.f26 (.node (.node (.node (.node (.node .leaf 27 Try.f27 .leaf) 28 Try.f28 (.node .leaf 29 Try.f29 .leaf)) 30 Try.f30 (.node (.node .leaf 31 Try.f31 .leaf) 32 Try.f32 .leaf)) 33 Try.f33 (.node (.node (.node .leaf 34 Try.f34 .leaf) 35 Try.f35 .leaf) 36 Try.f36 (.node (.node .leaf 37 Try.f37 .leaf) 38 Try.f38 .leaf))) 39 Try.f39 (.node (.node (.node (.node .leaf 40 Try.f40 .leaf) 41 Try.f41 .leaf) 42 Try.f42 (.node (.node .leaf 44 Try.f44 .leaf) 45 Try.f45 .leaf)) 46 Try.f46 (.node (.node (.node .leaf 47 Try.f47 .leaf) 48 Try.f48 .leaf) 49 Try.f49 (.node (.node .leaf 50 Try.f50 .leaf) 51 Try.f51 .leaf))))) 52 Try.f52 (.node (.node (.node (.node (.node (.node .leaf 53 Try.f53 .leaf) 54 Try.f54 (.node .leaf 55 Try.f55 .leaf)) 56 Try.f56 (.node (.node .leaf 57 Try.f57 .leaf) 58 Try.f58 .leaf)) 59 Try.f59 (.node (.node (.node .leaf 60 Try.f60 .leaf) 61 Try.f61 .leaf) 62 Try.f62 (.node (.node .leaf 63 Try.f63 .leaf) 64 Try.f64 .leaf))) 65 Try.f65 (.node (.node (.node (.node .leaf 66 Try.f66 .leaf) 67 Try.f67 .leaf) 68 Try.f68 (.node (.node .leaf 69 Try.f69 .leaf) 70 Try.f70 .leaf)) 71 Try.f71 (.node (.node (.node .leaf 72 Try.f72 .leaf) 73 Try.f73 .leaf) 75 Try.f75 (.node (.node .leaf 76 Try.f76 .leaf) 77 Try.f77 .leaf)))) 78 Try.f78 (.node (.node (.node (.node (.node .leaf 79 Try.f79 .leaf) 80 Try.f80 .leaf) 81 Try.f81 (.node (.node .leaf 82 Try.f82 .leaf) 83 Try.f83 .leaf)) 84 Try.f84 (.node (.node (.node .leaf 85 Try.f85 .leaf) 86 Try.f86 .leaf) 87 Try.f87 (.node (.node .leaf 88 Try.f88 .leaf) 89 Try.f89 .leaf))) 90 Try.f90 (.node (.node (.node (.node .leaf 91 Try.f91 .leaf) 92 Try.f92 .leaf) 93 Try.f93 (.node (.node .leaf 94 Try.f94 .leaf) 95 Try.f95 .leaf)) 96 Try.f96 (.node (.node (.node .leaf 97 Try.f97 .leaf) 98 Try.f98 .leaf) 99 Try.f99 (.node (.node .leaf 101 Try.f101 .leaf) 102 Try.f102 .leaf))))))
/-- A long row of zeros. -/
def zt_128 : List V := reps 4096 [.int .i64 0, .bool false]
@[go_sem] theorem zt_128_len : zt_128.length = 8192 := by kernel_rfl
@[go_sem] theorem zt_128_own : nilOffs 0 zt_128 = [] := by kernel_rfl
/-- A long row of zeros. -/
def zt_129 : List V := reps 4096 [.int .u32 0]
@[go_sem] theorem zt_129_len : zt_129.length = 4096 := by kernel_rfl
@[go_sem] theorem zt_129_own : nilOffs 0 zt_129 = [] := by kernel_rfl
/-- A long row of zeros. -/
def zt_130 : List V := reps 256 [.int .u32 0]
@[go_sem] theorem zt_130_len : zt_130.length = 256 := by kernel_rfl
@[go_sem] theorem zt_130_own : nilOffs 0 zt_130 = [] := by kernel_rfl
/-- A long row of zeros. -/
def zt_132 : List V := reps 4096 [.int .i64 0, .bool false] ++ (reps 4369 [.int .u32 0])
@[go_sem] theorem zt_132_len : zt_132.length = 12561 := by kernel_rfl
@[go_sem] theorem zt_132_own : nilOffs 0 zt_132 = [] := by kernel_rfl
/-- A long row of zeros. -/
def zt_133 : List V := reps 4096 [.int .i64 0, .bool false] ++ (reps 4369 [.int .u32 0])
@[go_sem] theorem zt_133_len : zt_133.length = 12561 := by kernel_rfl
@[go_sem] theorem zt_133_own : nilOffs 0 zt_133 = [] := by kernel_rfl
noncomputable def tys : Tree TI :=
  (.node (.node (.node (.node (.node (.node (.node (.node .leaf 1 ⟨.func, 1, 8, [.nilf]⟩ .leaf) 2 ⟨(.int .i64), 1, 8, [.int .i64 0]⟩ .leaf) 3 ⟨(.int .i64), 1, 8, [.int .i64 0]⟩ (.node .leaf 4 ⟨.bool, 1, 1, [.bool false]⟩ .leaf)) 5 ⟨(.int .u8), 1, 1, [.int .u8 0]⟩ (.node (.node (.node .leaf 7 ⟨(.struct false [(0, 2), (1, 3), (2, 4), (3, 6)]), 4, 24, [.int .i64 0, .int .i64 0, .bool false, .int .u8 0]⟩ .leaf) 8 ⟨(.struct false [(0, 2), (1, 3), (2, 4), (3, 6)]), 4, 24, [.int .i64 0, .int .i64 0, .bool false, .int .u8 0]⟩ .leaf) 9 ⟨.str, 1, 16, [.str []]⟩ (.node .leaf 10 ⟨.str, 1, 16, [.str []]⟩ .leaf))) 11 ⟨.str, 1, 16, [.str []]⟩ (.node (.node (.node (.node .leaf 12 ⟨(.int .u64), 1, 8, [.int .u64 0]⟩ .leaf) 13 ⟨(.struct false [(0, 9), (1, 12)]), 2, 24, [.str [], .int .u64 0]⟩ .leaf) 14 ⟨(.struct false [(0, 9), (1, 12)]), 2, 24, [.str [], .int .u64 0]⟩ (.node .leaf 15 ⟨(.ptr 164), 1, 8, [.nilp]⟩ .leaf)) 16 ⟨(.ptr 167), 1, 8, [.nilp]⟩ (.node (.node (.node .leaf 17 ⟨(.ptr 174), 1, 8, [.nilp]⟩ .leaf) 18 ⟨(.struct false [(0, 17)]), 1, 8, [.nilp]⟩ .leaf) 19 ⟨(.struct false [(0, 17)]), 1, 8, [.nilp]⟩ (.node .leaf 21 ⟨(.int .i32), 1, 4, [.int .i32 0]⟩ .leaf)))) 22 ⟨(.slice 75), 1, 24, [.sl true []]⟩ (.node (.node (.node (.node (.node .leaf 23 ⟨(.slice 3), 1, 24, [.sl true []]⟩ .leaf) 24 ⟨(.struct true [(0, 3), (1, 23)]), 2, 32, [.int .i64 0, .sl true []]⟩ .leaf) 25 ⟨(.struct true [(0, 3), (1, 23)]), 2, 32, [.int .i64 0, .sl true []]⟩ (.node .leaf 26 ⟨.func, 1, 8, [.nilf]⟩ .leaf)) 27 ⟨(.slice 92), 1, 24, [.sl true []]⟩ (.node (.node (.node .leaf 28 ⟨(.slice 77), 1, 24, [.sl true []]⟩ .leaf) 29 ⟨(.struct true [(0, 25), (2, 27), (3, 28)]), 4, 80, [.int .i64 0, .sl true [], .sl true [], .sl true []]⟩ .leaf) 30 ⟨(.struct true [(0, 25), (2, 27), (3, 28)]), 4, 80, [.int .i64 0, .sl true [], .sl true [], .sl true []]⟩ (.node .leaf 31 ⟨.func, 1, 8, [.nilf]⟩ .leaf))) 32 ⟨(.ptr 133), 1, 8, [.nilp]⟩ (.node (.node (.node (.node .leaf 33 ⟨(.int .i64), 1, 8, [.int .i64 0]⟩ .leaf) 35 ⟨.func, 1, 8, [.nilf]⟩ .leaf) 37 ⟨.func, 1, 8, [.nilf]⟩ (.node .leaf 38 ⟨(.struct true [(0, 3), (1, 23)]), 2, 32, [.int .i64 0, .sl true []]⟩ .leaf)) 39 ⟨(.slice 88), 1, 24, [.sl true []]⟩ (.node (.node (.node .leaf 40 ⟨(.struct true [(0, 38), (2, 27), (3, 39)]), 4, 80, [.int .i64 0, .sl true [], .sl true [], .sl true []]⟩ .leaf) 41 ⟨(.struct true [(0, 38), (2, 27), (3, 39)]), 4, 80, [.int .i64 0, .sl true [], .sl true [], .sl true []]⟩ .leaf) 43 ⟨.func, 1, 8, [.nilf]⟩ (.node .leaf 44 ⟨(.slice 93), 1, 24, [.sl true []]⟩ .leaf))))) 45 ⟨.func, 1, 8, [.nilf]⟩ (.node (.node (.node (.node (.node (.node .leaf 46 ⟨.func, 1, 8, [.nilf]⟩ .leaf) 47 ⟨.func, 1, 8, [.nilf]⟩ .leaf) 48 ⟨.func, 1, 8, [.nilf]⟩ (.node .leaf 49 ⟨.func, 1, 8, [.nilf]⟩ .leaf)) 50 ⟨(.ptr 95), 1, 8, [.nilp]⟩ (.node (.node (.node .leaf 52 ⟨.func, 1, 8, [.nilf]⟩ .leaf) 54 ⟨.func, 1, 8, [.nilf]⟩ .leaf) 55 ⟨(.slice 79), 1, 24, [.sl true []]⟩ (.node .leaf 57 ⟨.func, 1, 8, [.nilf]⟩ .leaf))) 58 ⟨.func, 1, 8, [.nilf]⟩ (.node (.node (.node (.node .leaf 59 ⟨.func, 1, 8, [.nilf]⟩ .leaf) 60 ⟨.func, 1, 8, [.nilf]⟩ .leaf) 61 ⟨.func, 1, 8, [.nilf]⟩ (.node .leaf 62 ⟨.func, 1, 8, [.nilf]⟩ .leaf)) 64 ⟨.func, 1, 8, [.nilf]⟩ (.node (.node (.node .leaf 66 ⟨.func, 1, 8, [.nilf]⟩ .leaf) 67 ⟨.func, 1, 8, [.nilf]⟩ .leaf) 68 ⟨.func, 1, 8, [.nilf]⟩ (.node .leaf 69 ⟨.func, 1, 8, [.nilf]⟩ .leaf)))) 70 ⟨.func, 1, 8, [.nilf]⟩ (.node (.node (.node (.node (.node .leaf 71 ⟨.func, 1, 8, [.nilf]⟩ .leaf) 72 ⟨.func, 1, 8, [.nilf]⟩ .leaf) 73 ⟨.func, 1, 8, [.nilf]⟩ (.node .leaf 74 ⟨(.struct true [(0, 3), (1, 3)]), 2, 16, [.int .i64 0, .int .i64 0]⟩ .leaf)) 75 ⟨(.struct true [(0, 3), (1, 3)]), 2, 16, [.int .i64 0, .int .i64 0]⟩ (.node (.node (.node .leaf 76 ⟨(.struct true [(0, 3), (1, 4)]), 2, 16, [.int .i64 0, .bool false]⟩ .leaf) 77 ⟨(.struct true [(0, 3), (1, 4)]), 2, 16, [.int .i64 0, .bool false]⟩ .leaf) 78 ⟨(.struct true [(0, 3), (1, 77), (3, 77)]), 5, 40, [.int .i64 0, .int .i64 0, .bool false, .int .i64 0, .bool false]⟩ (.node .leaf 79 ⟨(.struct true [(0, 3), (1, 77), (3, 77)]), 5, 40, [.int .i64 0, .int .i64 0, .bool false, .int .i64 0, .bool false]⟩ .leaf))) 80 ⟨.func, 1, 8, [.nilf]⟩ (.node (.node (.node (.node .leaf 81 ⟨.func, 1, 8, [.nilf]⟩ .leaf) 82 ⟨.func, 1, 8, [.nilf]⟩ .leaf) 83 ⟨.func, 1, 8, [.nilf]⟩ (.node .leaf 84 ⟨.func, 1, 8, [.nilf]⟩ .leaf)) 85 ⟨.func, 1, 8, [.nilf]⟩ (.node (.node .leaf 86 ⟨.func, 1, 8, [.nilf]⟩ .leaf) 87 ⟨.func, 1, 8, [.nilf]⟩ (.node .leaf 88 ⟨(.struct true [(0, 3), (1, 4)]), 2, 16, [.int .i64 0, .bool false]⟩ .leaf)))))) 89 ⟨.func, 1, 8, [.nilf]⟩ (.node (.node (.node (.node (.node (.node (.node .leaf 90 ⟨(.slice 27), 1, 24, [.sl true []]⟩ .leaf) 91 ⟨.func, 1, 8, [.nilf]⟩ .leaf) 92 ⟨(.int .u32), 1, 4, [.int .u32 0]⟩ (.node .leaf 93 ⟨(.struct true [(0, 3), (1, 3)]), 2, 16, [.int .i64 0, .int .i64 0]⟩ .leaf)) 94 ⟨(.struct true [(0, 32), (1, 25), (3, 55), (4, 4)]), 5, 72, [.nilp, .int .i64 0, .sl true [], .sl true [], .bool false]⟩ (.node (.node (.node .leaf 95 ⟨(.struct true [(0, 32), (1, 25), (3, 55), (4, 4)]), 5, 72, [.nilp, .int .i64 0, .sl true [], .sl true [], .bool false]⟩ .leaf) 96 ⟨.func, 1, 8, [.nilf]⟩ .leaf) 97 ⟨.func, 1, 8, [.nilf]⟩ (.node .leaf 98 ⟨.func, 1, 8, [.nilf]⟩ .leaf))) 99 ⟨.func, 1, 8, [.nilf]⟩ (.node (.node (.node (.node .leaf 100 ⟨.func, 1, 8, [.nilf]⟩ .leaf) 101 ⟨.func, 1, 8, [.nilf]⟩ .leaf) 102 ⟨.func, 1, 8, [.nilf]⟩ (.node .leaf 103 ⟨(.struct true [(0, 9), (1, 3)]), 2, 24, [.str [], .int .i64 0]⟩ .leaf)) 104 ⟨(.struct true [(0, 9), (1, 3)]), 2, 24, [.str [], .int .i64 0]⟩ (.node (.node (.node .leaf 106 ⟨.func, 1, 8, [.nilf]⟩ .leaf) 107 ⟨(.ptr 148), 1, 8, [.nilp]⟩ .leaf) 108 ⟨.func, 1, 8, [.nilf]⟩ (.node .leaf 109 ⟨.func, 1, 8, [.nilf]⟩ .leaf)))) 110 ⟨.func, 1, 8, [.nilf]⟩ (.node (.node (.node (.node (.node .leaf 111 ⟨.func, 1, 8, [.nilf]⟩ .leaf) 112 ⟨.func, 1, 8, [.nilf]⟩ .leaf) 114 ⟨.func, 1, 8, [.nilf]⟩ (.node .leaf 116 ⟨.func, 1, 8, [.nilf]⟩ .leaf)) 117 ⟨(.ptr 120), 1, 8, [.nilp]⟩ (.node (.node (.node .leaf 118 ⟨(.slice 5), 1, 24, [.sl true []]⟩ .leaf) 119 ⟨(.struct false [(0, 117), (1, 118)]), 2, 32, [.nilp, .sl true []]⟩ .leaf) 120 ⟨(.struct false [(0, 117), (1, 118)]), 2, 32, [.nilp, .sl true []]⟩ (.node .leaf 124 ⟨.func, 1, 8, [.nilf]⟩ .leaf))) 125 ⟨.func, 1, 8, [.nilf]⟩ (.node (.node (.node (.node .leaf 126 ⟨.func, 1, 8, [.nilf]⟩ .leaf) 127 ⟨.func, 1, 8, [.nilf]⟩ .leaf) 128 ⟨(.array 4096 77), 8192, 65536, zt_128⟩ (.node .leaf 129 ⟨(.array 4096 92), 4096, 16384, zt_129⟩ .leaf)) 130 ⟨(.array 256 92), 256, 1024, zt_130⟩ (.node (.node .leaf 131 ⟨(.array 16 92), 16, 64, [.int .u32 0, .int .u32 0, .int .u32 0, .int .u32 0, .int .u32 0, .int .u32 0, .int .u32 0, .int .u32 0, .int .u32 0, .int .u32 0, .int .u32 0, .int .u32 0, .int .u32 0, .int .u32 0, .int .u32 0, .int .u32 0]⟩ .leaf) 132 ⟨(.struct true [(0, 128), (8192, 129), (12288, 130), (12544, 131), (12560, 92)]), 12561, 83016, zt_132⟩ (.node .leaf 133 ⟨(.struct true [(0, 128), (8192, 129), (12288, 130), (12544, 131), (12560, 92)]), 12561, 83016, zt_133⟩ .leaf))))) 134 ⟨.func, 1, 8, [.nilf]⟩ (.node (.node (.node (.node (.node (.node .leaf 135 ⟨.func, 1, 8, [.nilf]⟩ .leaf) 136 ⟨.func, 1, 8, [.nilf]⟩ .leaf) 137 ⟨.func, 1, 8, [.nilf]⟩ (.node .leaf 138 ⟨.func, 1, 8, [.nilf]⟩ .leaf)) 139 ⟨.func, 1, 8, [.nilf]⟩ (.node (.node (.node .leaf 140 ⟨.func, 1, 8, [.nilf]⟩ .leaf) 141 ⟨.func, 1, 8, [.nilf]⟩ .leaf) 142 ⟨.func, 1, 8, [.nilf]⟩ (.node .leaf 143 ⟨.func, 1, 8, [.nilf]⟩ .leaf))) 144 ⟨.func, 1, 8, [.nilf]⟩ (.node (.node (.node (.node .leaf 145 ⟨.func, 1, 8, [.nilf]⟩ .leaf) 146 ⟨.func, 1, 8, [.nilf]⟩ .leaf) 147 ⟨(.struct true [(0, 9), (1, 33)]), 2, 24, [.str [], .int .i64 0]⟩ (.node .leaf 148 ⟨(.struct true [(0, 9), (1, 33)]), 2, 24, [.str [], .int .i64 0]⟩ .leaf)) 149 ⟨.func, 1, 8, [.nilf]⟩ (.node (.node (.node .leaf 150 ⟨(.int .u64), 1, 8, [.int .u64 0]⟩ .leaf) 151 ⟨.func, 1, 8, [.nilf]⟩ .leaf) 152 ⟨(.ptr 5), 1, 8, [.nilp]⟩ (.node .leaf 153 ⟨(.int .u64), 1, 8, [.int .u64 0]⟩ .leaf)))) 155 ⟨.func, 1, 8, [.nilf]⟩ (.node (.node (.node (.node (.node .leaf 156 ⟨.func, 1, 8, [.nilf]⟩ .leaf) 157 ⟨.func, 1, 8, [.nilf]⟩ .leaf) 158 ⟨.func, 1, 8, [.nilf]⟩ (.node .leaf 159 ⟨.func, 1, 8, [.nilf]⟩ .leaf)) 160 ⟨.rawp, 1, 8, [.nilp]⟩ (.node (.node (.node .leaf 161 ⟨.func, 1, 8, [.nilf]⟩ .leaf) 162 ⟨.func, 1, 8, [.nilf]⟩ .leaf) 163 ⟨(.struct false [(0, 17), (1, 17), (2, 17), (3, 9)]), 4, 40, [.nilp, .nilp, .nilp, .str []]⟩ (.node .leaf 164 ⟨(.struct false [(0, 17), (1, 17), (2, 17), (3, 9)]), 4, 40, [.nilp, .nilp, .nilp, .str []]⟩ .leaf))) 165 ⟨(.array 0 16), 0, 0, []⟩ (.node (.node (.node (.node .leaf 166 ⟨(.struct false [(0, 165)]), 0, 0, []⟩ .leaf) 167 ⟨(.struct false [(0, 165)]), 0, 0, []⟩ .leaf) 170 ⟨.func, 1, 8, [.nilf]⟩ (.node .leaf 171 ⟨(.int .i32), 1, 4, [.int .i32 0]⟩ .leaf)) 172 ⟨(.int .i32), 1, 4, [.int .i32 0]⟩ (.node (.node .leaf 173 ⟨(.struct false [(0, 12), (1, 12), (2, 92), (3, 168), (4, 5), (5, 5), (6, 169), (7, 170), (8, 152), (9, 171), (10, 172)]), 11, 48, [.int .u64 0, .int .u64 0, .int .u32 0, .int .u8 0, .int .u8 0, .int .u8 0, .int .u8 0, .nilf, .nilp, .int .i32 0, .int .i32 0]⟩ .leaf) 174 ⟨(.struct false [(0, 12), (1, 12), (2, 92), (3, 168), (4, 5), (5, 5), (6, 169), (7, 170), (8, 152), (9, 171), (10, 172)]), 11, 48, [.int .u64 0, .int .u64 0, .int .u32 0, .int .u8 0, .int .u8 0, .int .u8 0, .int .u8 0, .nilf, .nilp, .int .i32 0, .int .i32 0]⟩ (.node .leaf 175 ⟨.func, 1, 8, [.nilf]⟩ .leaf)))))))
noncomputable def kills : Tree (Tree (List Nat)) :=
  (.node (.node (.node (.node (.node (.node .leaf 4 (.node .leaf 8 [0, 1, 2, 3, 4, 6, 8, 10, 12, 13, 14, 15, 16, 17, 18, 19, 20, 21, 22, 23, 24, 25, 26, 27, 28, 29, 30, 31, 32, 33, 34, 35, 36, 37, 38, 39, 40, 41, 42, 43, 44, 45, 46, 47, 48, 49, 50, 51, 52, 53, 54, 55, 56, 57, 58, 59, 60, 61, 62, 63, 64, 65, 66, 67, 68, 69, 70, 71, 72, 73, 74, 75, 76, 77, 78, 79, 80, 81, 82, 83, 84, 85, 86, 87, 88, 89, 90, 91, 92, 93, 94, 95, 96, 97, 98, 99, 100, 101, 102, 103, 104, 105, 106, 107, 108, 109, 110, 111, 112, 113, 114, 115, 116, 117, 118, 119, 120, 121, 122, 123, 124, 125, 126, 127] .leaf) .leaf) 9 (.node .leaf 5 [0, 8, 9, 10, 11, 12, 13, 14, 15, 16, 17, 18, 19, 20, 21, 22, 23, 24, 25, 26, 27, 28, 29, 30, 31, 32, 33, 34, 35, 36, 37, 38, 39, 40, 41, 42, 43, 44, 45, 46, 47, 48, 49, 50, 51, 52, 53, 54, 55, 56, 57, 58, 59, 60, 61, 62, 63, 64, 65, 66, 67, 68, 69, 70, 71, 72, 73, 74, 75, 76, 77, 78, 79, 80, 81, 82, 83, 84, 85, 86, 87, 88, 89, 90, 91, 92, 93] .leaf) .leaf) 10 (.node .leaf 5 [0, 1, 2, 3, 5, 6, 7, 8, 9, 10, 14, 15, 16, 17, 18, 19, 20, 21, 22, 23, 24, 25] .leaf) (.node (.node .leaf 12 (.node (.node .leaf 6 [1, 2, 5, 8, 9, 10, 11, 12, 13, 14, 15, 16, 17, 18, 19, 20, 21, 22, 23, 24, 25, 26, 27, 28, 29, 30, 31, 32, 33, 34, 35, 36, 37, 38, 39, 40, 41, 42, 43, 44, 45, 46, 47, 48, 49, 50, 51, 52, 53, 54, 55, 56, 57, 58, 59, 60, 61, 62, 63, 64, 65, 66, 67, 68, 69, 70, 71, 72, 73] .leaf) 12 [0, 1, 2, 5, 7, 10, 11, 12, 13, 14, 15, 16, 17, 18, 19, 20, 21, 22, 23, 24, 25, 26, 27, 28, 29, 30, 31, 32, 33, 34, 35, 36, 37, 38, 39, 40, 41, 42, 43, 44, 45, 46, 47, 48, 49, 50, 51, 52, 53, 54, 55, 56, 57, 58, 59, 60, 61, 62, 63, 64, 65, 66, 67, 68, 69, 70, 71, 72, 73] (.node .leaf 15 [0, 1, 2, 5, 7, 11, 12, 13, 14, 15, 16, 17, 18, 19, 20, 21, 22, 23, 24, 25, 26, 27, 28, 29, 30, 31, 32, 33, 34, 35, 36, 37, 38, 39, 40, 41, 42, 43, 44, 45, 46, 47, 48, 49, 50, 51, 52, 53, 54, 55, 56, 57, 58, 59, 60, 61, 62, 63, 64, 65, 66, 67, 68, 69, 70, 71, 72, 73] .leaf)) .leaf) 13 (.node .leaf 3 [1, 2, 5, 6, 7, 8, 9, 10, 11, 12, 13, 14, 15, 16, 17, 18] .leaf) .leaf)) 15 (.node (.node .leaf 4 [0, 1, 4, 6, 7, 8, 9, 10, 11, 12, 13, 14, 15, 16, 17, 18, 19, 20, 21, 22, 23, 24, 25, 26, 27, 28, 29, 30, 31, 32, 33, 34, 35, 36, 37, 38, 39, 40, 41, 42, 43, 44, 45, 46, 47, 48, 49, 50, 51, 52, 53, 54, 55, 56, 57, 58, 59, 60, 61, 62, 63, 64, 65, 66] .leaf) 9 [0, 1, 4, 5, 7, 8, 9, 10, 11, 12, 13, 14, 15, 16, 17, 18, 19, 20, 21, 22, 23, 24, 25, 26, 27, 28, 29, 30, 31, 32, 33, 34, 35, 36, 37, 38, 39, 40, 41, 42, 43, 44, 45, 46, 47, 48, 49, 50, 51, 52, 53, 54, 55, 56, 57, 58, 59, 60, 61, 62, 63, 64, 65, 66] .leaf) (.node (.node (.node .leaf 16 (.node .leaf 3 [0, 5, 6, 7, 8, 9, 10, 11, 12, 13, 14, 15, 16, 17, 18, 19, 20, 21, 22, 23, 24, 25, 26, 27, 28] .leaf) .leaf) 21 (.node .leaf 4 [0, 2, 4, 5, 6, 7, 8, 9, 10, 11, 12, 13, 14, 15, 16, 17, 18, 19, 20, 21, 22, 23, 24, 25, 26, 27, 28, 29, 30, 31, 32, 33, 34, 35, 36, 37, 38, 39, 40, 41, 42, 43, 44, 45, 46, 47, 48, 49, 50, 51, 52, 53, 54, 55, 56, 57, 58, 59, 60, 61, 62, 63, 64, 65, 66, 67, 68, 69, 70, 71] .leaf) .leaf) 22 (.node .leaf 9 [1, 2, 3, 4, 7, 8, 9, 10, 11, 12, 13, 14, 15, 16, 17, 18, 19, 20, 21, 22, 23, 24, 25, 26, 27, 28, 29, 30, 31, 32, 33, 34, 35, 36, 37, 38, 39, 40, 41, 42, 43, 44, 45, 46, 47, 48, 49, 50, 51, 55, 56, 57, 58, 59, 60, 61, 62, 63, 64, 65, 66, 67, 68, 69, 70, 71, 72, 73, 74, 75, 76, 77, 78, 79, 80, 81, 82, 83, 84, 85, 86, 87, 88, 89, 90, 91, 92, 93, 94, 95, 96, 97, 98] .leaf) (.node (.node .leaf 23 (.node .leaf 2 [1, 2, 4, 5, 6, 7, 8, 9, 10, 11, 12, 13, 14, 15, 16, 17, 18, 19, 20, 21, 22, 23, 24, 25, 26, 27, 28, 29, 30, 31, 32, 33, 34, 35, 36, 37, 38, 39, 40, 41, 42, 43, 44, 45, 46, 47, 48, 49, 50, 51, 52, 53, 54, 55] .leaf) .leaf) 25 (.node .leaf 7 [1, 3, 5, 6, 11, 12, 13, 14, 15, 16, 17, 18, 19, 20, 21, 22, 23, 24, 25, 26, 27, 28, 29, 30, 31, 32, 33, 34, 35, 36, 37, 38, 39, 40, 41, 42, 43, 44, 45, 46, 47, 48, 49, 50, 51, 52, 53, 54, 55, 56, 57, 58, 59, 60, 61, 62, 63, 64, 65, 66, 67] .leaf) .leaf))) 26 (.node (.node .leaf 9 [1, 3, 5, 6, 8, 9, 10, 11, 12, 13, 14, 15, 16, 17, 18, 19, 20, 21, 22, 23, 24, 25, 26, 27, 28, 29, 30, 31, 34, 35, 36, 37, 38, 39, 40, 41, 42, 43, 44, 45, 46, 47, 48, 49, 50, 51, 52, 53, 54, 55, 56, 57, 58, 59, 60, 61, 62, 63, 64, 65, 66, 67, 68, 69, 70, 71, 72, 73] .leaf) 16 [1, 3, 4, 5, 6, 9, 10, 11, 12, 13, 14, 15, 16, 17, 18, 19, 20, 21, 22, 23, 24, 25, 26, 27, 28, 29, 30, 31, 32, 33, 34, 35, 36, 37, 38, 39, 40, 41, 42, 43, 44, 45, 46, 47, 48, 49, 50, 51, 52, 53, 54, 55, 56, 57, 58, 59, 60, 61, 62, 63, 64, 65, 66, 67, 68, 69, 70, 71, 72, 73] .leaf) (.node (.node (.node (.node .leaf 27 (.node (.node .leaf 8 [1, 3, 5, 7, 10, 11, 12, 13, 14, 15, 16, 17, 18, 19, 20, 21, 22, 23, 24, 25, 26, 27, 28, 29, 30, 31, 32, 33, 34, 35, 36, 37, 38, 39, 40, 41, 42, 43, 44, 45, 46, 47, 48, 49, 50, 51, 52, 53, 54, 55, 56, 57, 58, 59, 60, 61, 62, 63, 64, 65, 66, 67, 68, 69, 70, 71, 72, 73, 74, 75, 76, 77, 78, 79, 80, 81, 82, 83, 84, 85, 86, 87, 88, 89, 90, 91, 92, 93, 94, 95, 96, 97, 98, 99, 100, 101, 102, 103, 104, 105, 106, 107, 108, 109, 110, 111, 112, 113, 114, 115, 116, 117, 118, 119, 120, 121] .leaf) 21 [1, 3, 5, 6, 7, 9, 10, 11, 12, 13, 14, 16, 17, 18, 19, 20, 21, 22, 23, 24, 25, 26, 27, 28, 29, 30, 31, 32, 33, 34, 35, 36, 37, 38, 39, 40, 41, 42, 43, 44, 45, 46, 47, 48, 49, 50, 51, 52, 53, 54, 55, 56, 57, 58, 59, 60, 61, 62, 63, 64, 65, 66, 67, 68, 69, 70, 71, 72, 73, 74, 75, 76, 77, 78, 79, 80, 81, 82, 83, 84, 85, 86, 87, 88, 89, 90, 91, 92, 93, 94, 95, 96, 97, 98, 99, 100, 101, 102, 103, 104, 105, 106, 107, 108, 109, 110, 111, 112, 113, 114, 115, 116, 117, 118, 119, 120, 121] .leaf) .leaf) 28 (.node .leaf 7 [0, 1, 2, 5, 6, 7, 8, 9, 10, 11, 12, 13, 14, 15, 16, 17, 18, 19, 23, 24, 25, 26, 27, 28, 29, 30, 31, 32, 33, 34] .leaf) .leaf) 29 (.node .leaf 5 [0, 2, 5, 6, 7, 8, 9, 10, 11, 12, 13, 14, 15, 16, 17, 18, 19, 20, 21, 22, 23, 24, 25, 26, 27, 28, 29, 30, 31, 32, 33, 34, 35, 36, 37, 38, 39, 40, 41, 42, 43, 44, 45, 46, 47, 48] .leaf) (.node (.node .leaf 30 (.node (.node .leaf 6 [0, 2, 4, 5, 6, 7, 8, 9, 10, 11, 12, 13, 14, 15, 16, 17, 21, 22, 23, 24, 25, 26, 27, 28, 29, 30, 31, 32, 33, 34, 35, 36, 37, 38, 39, 40, 41, 42, 43, 44, 45, 46, 47, 48, 49, 50, 51, 52, 53, 54] .leaf) 9 [0, 2, 4, 6, 7, 8, 9, 10, 11, 12, 13, 14, 15, 16, 17, 21, 22, 23, 25, 26, 27, 28, 29, 30, 31, 32, 33, 34, 35, 36, 37, 38, 39, 40, 41, 42, 43, 44, 45, 46, 47, 48, 49, 50, 51, 52, 53, 54] (.node .leaf 15 [0, 1, 2, 4, 5, 6, 7, 8, 9, 10, 11, 12, 13, 14, 15, 16, 17, 18, 19, 20, 21, 22, 23, 24, 25, 26, 27, 28, 29, 30, 31, 32, 33, 34, 35, 36, 40, 41, 42, 43, 44, 45, 46, 47, 48, 49, 50, 51, 52, 53, 54] .leaf)) .leaf) 31 (.node (.node .leaf 6 [0, 2, 6, 7, 8, 9, 10, 11, 12, 13, 14, 15, 16, 17, 18, 19, 20, 21, 22, 23, 24, 25, 26, 27, 28, 29, 30, 31, 32, 33, 34, 35, 36, 37, 38, 39, 40, 41, 42, 43, 44, 45, 46, 47, 48, 49, 50, 51, 52, 53, 54, 55, 56, 57, 58, 59, 60, 61, 62, 63, 64, 65, 66, 67, 68, 69, 70, 71, 72, 73, 74, 75, 76, 77, 78, 79, 80, 81, 82, 83, 84, 85] .leaf) 15 [0, 2, 4, 5, 6, 8, 9, 10, 11, 12, 13, 14, 15, 16, 17, 18, 19, 20, 21, 22, 23, 24, 25, 26, 27, 28, 29, 30, 31, 32, 33, 34, 35, 36, 37, 38, 39, 40, 41, 42, 43, 44, 45, 46, 47, 48, 49, 50, 51, 52, 53, 54, 55, 56, 57, 58, 59, 60, 61, 62, 63, 64, 65, 66, 67, 68, 69, 70, 71, 72, 73, 74, 75, 76, 77, 78, 79, 80, 81, 82, 83, 84, 85] .leaf) .leaf)) 32 (.node .leaf 2 [1, 2, 3, 4, 8, 9, 10, 11, 12, 13, 14, 15, 16, 17, 18, 19, 20, 21, 22, 23, 24, 25, 26, 27, 28, 29, 30, 31, 32, 33, 34, 35, 36, 37, 38, 39, 40, 41, 42, 43, 44, 45] .leaf) (.node (.node (.node .leaf 33 (.node (.node .leaf 3 [0, 2, 3, 4, 5, 7, 8, 9, 10, 11, 12, 13, 14, 15, 16, 17, 18, 19, 20, 21, 22, 23, 24, 25, 26, 27, 28, 29, 30, 31, 32, 33, 34, 35, 36, 37, 38, 39, 40, 41, 42] .leaf) 8 [0, 2, 3, 4, 5, 6, 7, 8, 9, 10, 11, 12, 13, 14, 15, 16, 17, 18, 19, 21, 22, 23, 24, 25, 26, 27, 28, 29, 30, 31, 32, 33, 34, 35, 36, 37, 38, 39, 40, 41, 42] .leaf) .leaf) 35 (.node .leaf 4 [0, 2, 3, 4, 5, 6, 7, 8, 9, 10, 11, 12, 13, 14, 15, 16, 17, 18, 19, 23, 24, 25, 26, 27, 28, 29, 30, 31, 32, 33, 34, 35, 36, 37, 38, 39, 40, 41, 42, 43, 44, 45, 46, 47, 48, 49, 50] .leaf) .leaf) 37 (.node .leaf 3 [1, 2, 3, 4, 6, 7, 11, 12, 13, 14, 15, 16, 17, 18, 19, 20, 21] .leaf) (.node .leaf 38 (.node (.node .leaf 3 [1, 2, 4, 6, 7, 8, 9, 13, 14, 15, 16, 17, 18, 19, 20, 21, 22, 23, 24, 25, 26, 27, 28, 29, 30, 31, 32] .leaf) 6 [1, 2, 4, 6, 8, 9, 13, 14, 15, 17, 18, 19, 20, 21, 22, 23, 24, 25, 26, 27, 28, 29, 30, 31, 32] .leaf) .leaf)))) 39 (.node .leaf 2 [0, 2, 4, 5, 6, 7, 8, 9, 10, 11, 12, 13, 14, 15, 16, 17, 18, 19, 20, 21, 22, 23, 24, 25, 26, 27, 28, 29, 30, 31, 32, 33, 34, 35, 36, 37, 38, 39, 40, 41, 42, 43, 44, 45, 46, 47, 48, 49, 50, 51, 52, 53, 54, 55, 56, 57, 58, 59] .leaf) (.node (.node (.node (.node (.node .leaf 40 (.node .leaf 2 [2, 3, 6, 7, 8, 9, 10, 11, 12, 13, 14, 15, 16, 17, 18, 19, 20, 21, 22, 23, 24, 25] .leaf) .leaf) 42 (.node .leaf 2 [1, 2, 3, 4, 8, 9, 10, 11, 12, 13, 14, 15, 16, 17, 18, 19, 20, 21, 22, 23, 24, 25, 26, 27, 28, 29, 30, 31, 32, 33, 34, 35, 36, 37, 38, 39, 40, 41, 42, 43, 44, 45, 46, 47, 48, 49, 50, 51, 52, 53, 54] .leaf) .leaf) 44 (.node .leaf 4 [2, 3, 4, 6, 7, 8, 9, 10, 11, 12, 13, 14, 15, 16, 17, 18, 19, 20, 21, 22, 23, 24, 25] .leaf) (.node (.node .leaf 47 (.node .leaf 2 [2, 3, 4, 5, 6, 7, 8, 9, 10, 11, 12, 13, 17, 18, 19, 20, 21, 22, 23, 24, 25, 26, 27, 28, 29, 30, 31, 32, 33, 34, 35, 36, 37, 38, 39, 40, 41, 42, 43, 44, 45, 46, 47, 48, 49] .leaf) .leaf) 48 (.node .leaf 5 [0, 1, 8, 9, 10, 11, 12, 13, 14, 15, 16, 17, 18, 19, 20, 21, 22, 23, 24, 25, 26, 27, 28, 29, 30, 31, 32, 33, 34, 35, 36, 37, 38, 39, 40, 41] .leaf) .leaf)) 50 (.node (.node .leaf 4 [0, 3, 5, 6, 7, 8, 9, 10, 11, 12, 13, 14, 15, 16, 17, 18, 19, 20, 21, 22, 23, 24, 25, 26, 27, 28, 29, 30, 31, 32, 33, 34, 35, 36, 37, 38, 39, 40, 41, 42, 43, 44, 45, 46, 47, 48, 49, 50, 51, 52, 53, 54, 55, 56, 57, 58, 59, 60, 61, 62, 63, 64, 65, 66, 67, 68, 69] .leaf) 12 [0, 3, 7, 8, 9, 10, 11, 12, 13, 14, 15, 16, 17, 18, 19, 20, 21, 22, 23, 24, 25, 26, 27, 28, 29, 30, 31, 32, 33, 34, 35, 36, 37, 38, 39, 40, 41, 42, 43, 44, 45, 46, 47, 48, 49, 50, 51, 52, 53, 54, 55, 56, 57, 58, 59, 60, 61, 62, 63, 64, 65, 66, 67, 68, 69] .leaf) (.node (.node (.node .leaf 56 (.node .leaf 3 [1, 2, 4, 6, 7, 8, 9, 10, 11, 12, 13, 14, 15, 16] .leaf) .leaf) 61 (.node .leaf 4 [1, 2, 4, 5, 6, 7, 8, 9, 10, 11, 12, 13, 14, 15, 16, 17, 18, 19, 20, 21, 22] .leaf) .leaf) 64 (.node .leaf 4 [1, 2, 4, 5, 6, 7, 8, 9, 10, 11, 12, 13, 14, 15, 16, 17, 18, 19, 20, 21, 22, 23] .leaf) (.node (.node .leaf 70 (.node .leaf 3 [0, 1, 2, 4, 5, 9, 10, 11, 12, 13, 14, 15, 16, 17, 18, 19, 20, 21, 22, 23, 24, 25, 26, 27, 28, 29] .leaf) .leaf) 71 (.node .leaf 5 [0, 2, 4, 5, 6, 7, 8, 10, 11, 12, 13, 14, 15, 16, 17, 18, 19, 20, 21, 22, 23, 24, 25, 26] .leaf) .leaf))) 73 (.node .leaf 3 [0, 1, 2, 4, 7, 8, 9, 10, 11] .leaf) (.node (.node (.node (.node .leaf 78 (.node (.node .leaf 3 [1, 2, 5, 6, 7, 8, 9, 10, 11, 12, 13, 14, 15, 16, 17, 18, 19, 20, 21, 22, 23, 24, 25, 26, 27, 28, 29, 30, 31, 32, 33] .leaf) 7 [1, 2, 4, 6, 7, 8, 9, 10, 11, 12, 13, 14, 15, 16, 17, 18, 19, 20, 21, 22, 23, 24, 25, 26, 27, 28, 29, 30, 31, 32, 33] .leaf) .leaf) 79 (.node (.node .leaf 3 [1, 2, 5, 6, 7, 8, 9, 10, 11, 12, 13, 14, 15, 16, 17, 18, 19, 20, 21, 22, 23, 24, 25, 26, 27, 28, 29, 30, 31, 32, 33, 34, 35, 36, 37, 38, 39, 40, 41, 42, 43, 44, 45, 46, 47, 48, 49, 50, 51, 52, 53, 54, 55] .leaf) 9 [1, 2, 3, 4, 8, 9, 10, 11, 12, 13, 14, 15, 16, 17, 18, 19, 20, 21, 22, 23, 24, 25, 26, 27, 28, 29, 30, 31, 32, 33, 34, 35, 36, 37, 38, 39, 40, 41, 42, 43, 44, 45, 46, 47, 48, 49, 50, 51, 52, 53, 54, 55] (.node .leaf 13 [1, 2, 3, 4, 10, 11, 12, 13, 14, 15, 16, 17, 18, 19, 20, 21, 22, 23, 24, 25, 26, 27, 28, 29, 30, 31, 32, 33, 34, 35, 36, 37, 38, 39, 40, 41, 42, 43, 44, 45, 46, 47, 48, 49, 50, 51, 52, 53, 54, 55] .leaf)) .leaf) 81 (.node .leaf 4 [2, 3, 4, 5, 6, 7, 8, 9, 10, 11, 14, 15, 16, 17, 18, 19, 20, 21, 22, 23, 24, 25] .leaf) (.node (.node .leaf 85 (.node .leaf 5 [1, 2, 4, 5, 6, 7, 8, 9, 10, 11, 12, 15, 16, 17, 18, 19, 20, 21, 22, 23, 24, 25, 26, 27, 28, 29, 30, 31, 32, 33, 34, 35, 36, 37, 38, 39, 40, 41, 42, 43, 44, 45, 46, 47, 48, 49, 50, 51, 52, 53, 54, 55, 56, 57, 58, 59, 60, 61, 62, 63, 64, 65, 66, 67, 68, 69, 70, 71] .leaf) .leaf) 92 (.node (.node .leaf 3 [1, 2, 4, 5, 8, 9, 10, 11, 12, 13, 14, 15, 16, 17, 18, 19, 20, 21, 22, 23, 24, 25, 26, 27, 28] .leaf) 7 [1, 2, 4, 5, 8, 9, 10, 11, 12, 13, 14, 15, 17, 18, 19, 20, 21, 22, 23, 24, 25, 26, 27, 28] .leaf) .leaf)) 96 (.node .leaf 6 [0, 1, 2, 6, 7, 8, 9, 10, 11, 12, 13, 14, 15, 16, 17, 18, 19, 20, 21, 22, 23, 24, 25, 26, 27, 28] .leaf) (.node (.node (.node .leaf 97 (.node .leaf 3 [1, 2, 5, 6, 7, 8, 9, 10, 11, 12, 13, 14, 15, 16, 17, 18, 19, 20, 21, 22, 23, 24, 25, 26, 27, 28, 29, 30, 31, 32, 33, 34, 35, 36, 37, 38, 39, 40, 41, 42, 43, 44, 45, 46, 47, 48] .leaf) .leaf) 98 (.node .leaf 2 [2, 3, 4, 5, 6, 9, 10, 11, 12, 13, 14, 15, 16, 17, 18] .leaf) .leaf) 99 (.node .leaf 2 [1, 2, 3, 4, 7, 8, 9, 10, 11, 12, 13, 14, 15, 16, 17] .leaf) (.node .leaf 102 (.node (.node .leaf 3 [1, 2, 5, 6, 7, 8, 9, 10, 11, 12, 13, 14, 15, 16, 17, 18, 19, 20, 21, 22, 23, 24, 25, 26, 27, 28, 29, 30, 31, 32, 33, 34, 35, 36] .leaf) 6 [1, 2, 6, 7, 8, 9, 10, 11, 12, 13, 14, 15, 16, 17, 18, 19, 20, 21, 22, 23, 24, 25, 26, 27, 28, 29, 30, 31, 32, 33, 34, 35, 36] .leaf) .leaf)))))
def exts : List Nat := [100]
noncomputable def draws : Tree (Tree (List (Bool × List Nat))) :=
  (.node (.node (.node (.node (.node .leaf 3 (.node (.node .leaf 8 [(true, []), (false, [2, 8]), (true, [1]), (false, [8]), (false, [8]), (true, []), (true, []), (true, []), (true, [1, 3, 4]), (false, []), (false, [])] .leaf) 9 [(false, []), (false, []), (true, []), (false, [4]), (true, [3]), (false, []), (false, []), (false, []), (true, []), (true, []), (false, []), (false, []), (false, [])] .leaf) .leaf) 4 (.node (.node .leaf 14 [(false, []), (false, []), (true, []), (true, []), (false, [5]), (true, [4]), (false, []), (false, []), (false, []), (false, []), (false, []), (false, []), (false, []), (false, []), (false, [])] .leaf) 19 [(true, []), (true, []), (false, []), (false, []), (true, []), (false, [6]), (true, [5]), (false, []), (false, []), (false, []), (false, [])] .leaf) (.node .leaf 6 (.node (.node .leaf 7 [(true, []), (false, [2]), (true, [1]), (false, []), (false, []), (false, []), (true, []), (true, []), (false, []), (false, []), (false, []), (true, []), (false, [13]), (true, [12]), (false, []), (false, []), (false, []), (false, []), (true, []), (true, []), (false, []), (false, [])] .leaf) 9 [(false, []), (false, []), (true, []), (true, []), (false, [6]), (true, []), (true, [4]), (false, []), (false, []), (false, []), (false, []), (false, []), (true, []), (false, [14]), (true, [13]), (false, []), (false, []), (false, []), (false, []), (false, [])] .leaf) .leaf)) 7 (.node (.node .leaf 6 [(false, []), (false, []), (false, []), (true, []), (false, [6]), (true, []), (true, [4]), (false, []), (false, []), (false, []), (false, [])] .leaf) 11 [(false, []), (false, []), (false, []), (true, []), (false, [5]), (true, [4]), (false, []), (false, []), (false, []), (false, [])] .leaf) (.node (.node .leaf 11 (.node (.node .leaf 4 [(true, []), (false, [4]), (true, []), (true, []), (true, [1]), (false, []), (false, []), (false, []), (false, [])] .leaf) 5 [(true, []), (false, [3]), (true, []), (true, [1]), (false, []), (false, []), (false, []), (false, [])] .leaf) .leaf) 12 (.node (.node .leaf 8 [(true, []), (true, [8]), (true, []), (true, []), (true, []), (true, []), (true, []), (true, []), (false, [1]), (true, []), (false, []), (false, []), (false, [])] .leaf) 17 [(true, []), (false, []), (true, []), (true, []), (true, []), (true, []), (true, []), (true, []), (true, []), (true, []), (true, []), (true, []), (true, []), (true, []), (true, []), (true, []), (true, []), (true, []), (false, []), (false, []), (false, [])] .leaf) (.node .leaf 15 (.node (.node .leaf 6 [(true, []), (true, []), (true, []), (true, []), (true, []), (true, []), (true, []), (true, []), (true, []), (true, []), (false, [])] .leaf) 11 [(true, []), (true, []), (true, []), (true, []), (true, []), (true, []), (true, []), (true, []), (true, []), (true, []), (false, [])] .leaf) .leaf))) 16 (.node (.node .leaf 1 [(true, []), (true, []), (false, [4, 6]), (true, []), (true, [2]), (true, []), (true, [2]), (false, [])] .leaf) 5 [(true, []), (false, []), (true, []), (true, []), (true, []), (true, []), (true, []), (true, []), (false, []), (false, []), (false, [])] .leaf) (.node (.node (.node .leaf 22 (.node (.node .leaf 1 [(false, []), (false, []), (false, []), (false, []), (false, []), (false, []), (false, []), (false, []), (false, []), (true, []), (true, []), (true, []), (true, []), (true, []), (true, []), (false, []), (false, []), (false, []), (false, []), (false, []), (false, []), (false, []), (false, [])] .leaf) 6 [(true, []), (true, []), (true, []), (true, []), (true, []), (true, []), (true, []), (true, []), (false, []), (false, [])] .leaf) .leaf) 23 (.node .leaf 6 [(false, []), (false, []), (false, []), (true, []), (true, []), (true, []), (true, []), (true, []), (true, []), (true, []), (true, []), (true, []), (true, []), (true, []), (false, []), (false, [])] .leaf) (.node .leaf 26 (.node .leaf 18 [(true, []), (true, [3]), (true, []), (false, [1]), (true, []), (false, []), (false, []), (false, [])] .leaf) .leaf)) 27 (.node .leaf 23 [(true, []), (false, []), (true, []), (true, []), (true, []), (true, []), (true, []), (true, []), (true, []), (true, []), (true, []), (true, []), (true, []), (true, []), (true, []), (true, []), (true, []), (true, []), (true, []), (true, []), (true, []), (true, []), (true, []), (true, []), (true, []), (true, []), (true, []), (true, []), (true, []), (true, []), (true, []), (true, []), (false, []), (false, []), (false, [])] .leaf) (.node (.node .leaf 28 (.node .leaf 4 [(true, []), (true, []), (false, [4]), (true, []), (true, [2]), (true, []), (false, []), (false, []), (false, [])] .leaf) .leaf) 29 (.node (.node .leaf 3 [(true, []), (true, []), (false, [4]), (true, []), (true, [2]), (true, []), (false, []), (false, []), (false, [])] .leaf) 9 [(true, []), (true, []), (true, []), (true, []), (true, []), (true, []), (true, []), (true, []), (true, []), (true, []), (true, []), (true, []), (true, []), (true, []), (false, []), (false, []), (false, [])] .leaf) .leaf))) 32 (.node .leaf 4 [(false, []), (false, []), (false, []), (false, []), (false, []), (false, []), (false, []), (false, []), (false, []), (false, []), (false, []), (false, []), (false, []), (false, []), (false, []), (false, []), (false, []), (false, []), (false, []), (false, []), (false, []), (false, []), (true, []), (true, []), (true, []), (true, []), (true, []), (true, []), (true, []), (true, []), (false, []), (false, []), (false, [])] .leaf) (.node (.node (.node (.node .leaf 33 (.node (.node .leaf 5 [(true, []), (true, []), (true, []), (true, []), (true, []), (false, []), (false, []), (true, []), (true, []), (false, []), (false, [])] .leaf) 10 [(true, []), (true, []), (true, []), (true, []), (true, []), (false, []), (false, []), (true, []), (true, []), (false, []), (false, [])] .leaf) .leaf) 34 (.node (.node .leaf 1 [(true, []), (true, []), (true, []), (true, []), (true, []), (false, []), (false, [])] .leaf) 2 [(true, []), (true, []), (true, []), (false, []), (true, []), (true, []), (false, []), (false, [])] .leaf) (.node .leaf 36 (.node .leaf 1 [(true, []), (true, [4]), (true, []), (true, []), (false, [1]), (false, []), (false, [])] .leaf) .leaf)) 39 (.node .leaf 4 [(true, []), (true, []), (true, []), (false, []), (false, []), (false, []), (false, []), (true, []), (true, [14]), (true, []), (true, []), (true, [14]), (true, []), (true, []), (false, [8, 11]), (false, []), (false, []), (false, []), (false, []), (false, []), (false, []), (true, []), (true, []), (true, []), (true, []), (true, []), (true, []), (true, []), (true, []), (true, []), (true, []), (true, []), (false, []), (false, []), (false, [])] .leaf) (.node (.node .leaf 42 (.node .leaf 4 [(false, []), (false, []), (false, []), (false, []), (false, []), (false, []), (false, []), (false, []), (false, []), (false, []), (false, []), (false, []), (true, []), (true, []), (true, []), (true, []), (true, []), (true, []), (true, []), (true, []), (false, []), (false, []), (false, []), (false, []), (false, []), (false, []), (false, []), (false, []), (false, []), (false, []), (false, []), (false, []), (false, []), (false, []), (false, []), (false, []), (true, []), (true, []), (true, []), (true, []), (false, []), (false, [])] .leaf) .leaf) 44 (.node .leaf 6 [(true, []), (true, []), (true, []), (true, []), (true, []), (true, []), (true, []), (true, []), (false, [])] .leaf) .leaf)) 47 (.node (.node .leaf 5 [(true, []), (true, []), (true, []), (true, []), (true, []), (false, [])] .leaf) 6 [(true, []), (true, []), (true, []), (true, []), (false, []), (true, []), (true, []), (true, []), (true, []), (true, []), (true, []), (true, []), (true, []), (false, []), (false, []), (false, []), (false, [])] .leaf) (.node (.node (.node .leaf 57 (.node .leaf 8 [(true, []), (true, []), (true, []), (true, []), (true, []), (true, []), (true, [9]), (true, []), (true, []), (false, [6]), (false, [])] .leaf) .leaf) 58 (.node .leaf 7 [(true, []), (true, []), (false, []), (true, []), (true, []), (true, [8]), (true, []), (true, []), (false, [5]), (false, [])] .leaf) (.node .leaf 62 (.node .leaf 1 [(true, []), (true, []), (true, []), (false, []), (false, []), (true, []), (true, []), (true, []), (true, []), (true, []), (false, []), (false, [])] .leaf) .leaf)) 72 (.node (.node .leaf 1 [(true, []), (true, []), (true, []), (true, []), (true, []), (true, []), (true, []), (true, []), (true, []), (true, []), (false, []), (false, []), (true, []), (true, []), (false, []), (false, [])] .leaf) 2 [(true, []), (true, []), (true, []), (true, []), (true, []), (true, []), (true, []), (true, []), (true, []), (true, []), (false, []), (false, []), (true, []), (true, []), (false, []), (false, [])] .leaf) (.node (.node .leaf 78 (.node .leaf 9 [(true, []), (true, []), (true, []), (true, []), (true, []), (true, [12]), (true, []), (true, []), (true, []), (true, []), (true, []), (true, []), (false, [5]), (false, []), (false, [])] .leaf) .leaf) 81 (.node .leaf 6 [(true, []), (true, []), (true, []), (true, []), (true, []), (true, []), (true, []), (true, []), (false, [])] .leaf) .leaf))))
def inpls : List Nat := [71]
def births : List Nat := [71]
def solos : List Nat := [120]
def nilts : List Nat := [25, 30, 41, 95]
def nilbs : Nat → Nat → Bool := fun k c => (k == 95 && c == 33) || (k == 41 && c == 33) || (k == 41 && c == 1) || (k == 30 && c == 1) || (k == 25 && c == 1)
def srts : List (Nat × Nat × TypeId × Nat) := []
def clns : List (Nat × TypeId) := [(43, 55), (74, 23)]
noncomputable def frzs : Tree (Tree (List (Nat × Nat))) :=
  .leaf
noncomputable def cfg : Cfg := { fn := fns.find, ty := tys.find, kill := fun f l => match kills.find f with | some t => (t.find l).getD [] | none => [], draw := fun f l => match draws.find f with | some t => (t.find l).getD [] | none => [], ext := exts.contains, inpl := inpls.contains, birth := births.contains, frz := fun f l => match frzs.find f with | some t => (t.find l).getD [] | none => [], solo := solos.contains, cln := clnAt clns, nilB := nilbs, nilT := nilts.contains, srt := srtAt srts }
@[go_sem] theorem ext_all {k : Nat} : cfg.ext k = (k == 100) := by simp only [cfg, exts, List.contains_cons, List.contains_nil, Bool.or_false]
@[go_sem] theorem inpl_all {k : Nat} : cfg.inpl k = (k == 71) := by simp only [cfg, inpls, List.contains_cons, List.contains_nil, Bool.or_false]
@[go_sem] theorem birth_all {k : Nat} : cfg.birth k = (k == 71) := by simp only [cfg, births, List.contains_cons, List.contains_nil, Bool.or_false]
@[go_sem] theorem solo_all {k : Nat} : cfg.solo k = (k == 120) := by simp only [cfg, solos, List.contains_cons, List.contains_nil, Bool.or_false]
@[go_sem] theorem nilt_all {k : Nat} : cfg.nilT k = (k == 25 || (k == 30 || (k == 41 || (k == 95)))) := by simp only [cfg, nilts, List.contains_cons, List.contains_nil, Bool.or_false]
@[go_sem] theorem nilb_all {k c : Nat} : cfg.nilB k c = ((k == 95 && c == 33) || (k == 41 && c == 33) || (k == 41 && c == 1) || (k == 30 && c == 1) || (k == 25 && c == 1)) := rfl
theorem fn_43 : cfg.fn 43 = none := rfl
theorem cln_43 : cfg.cln 43 = some 55 := rfl
theorem fn_74 : cfg.fn 74 = none := rfl
theorem cln_74 : cfg.cln 74 = some 23 := rfl
theorem fn_2 : cfg.fn 2 = some Try.f2 := rfl
theorem fn_3 : cfg.fn 3 = some Try.f3 := rfl
theorem fn_4 : cfg.fn 4 = some Try.f4 := rfl
theorem fn_5 : cfg.fn 5 = some Try.f5 := rfl
theorem fn_6 : cfg.fn 6 = some Try.f6 := rfl
theorem fn_7 : cfg.fn 7 = some Try.f7 := rfl
theorem fn_8 : cfg.fn 8 = some Try.f8 := rfl
theorem fn_9 : cfg.fn 9 = some Try.f9 := rfl
theorem fn_10 : cfg.fn 10 = some Try.f10 := rfl
theorem fn_11 : cfg.fn 11 = some Try.f11 := rfl
theorem fn_12 : cfg.fn 12 = some Try.f12 := rfl
theorem fn_13 : cfg.fn 13 = some Try.f13 := rfl
theorem fn_14 : cfg.fn 14 = some Try.f14 := rfl
theorem fn_15 : cfg.fn 15 = some Try.f15 := rfl
theorem fn_16 : cfg.fn 16 = some Try.f16 := rfl
theorem fn_17 : cfg.fn 17 = some Try.f17 := rfl
theorem fn_18 : cfg.fn 18 = some Try.f18 := rfl
theorem fn_19 : cfg.fn 19 = some Try.f19 := rfl
theorem fn_20 : cfg.fn 20 = some Try.f20 := rfl
theorem fn_21 : cfg.fn 21 = some Try.f21 := rfl
theorem fn_22 : cfg.fn 22 = some Try.f22 := rfl
theorem fn_23 : cfg.fn 23 = some Try.f23 := rfl
theorem fn_24 : cfg.fn 24 = some Try.f24 := rfl
theorem fn_25 : cfg.fn 25 = some Try.f25 := rfl
theorem fn_26 : cfg.fn 26 = some Try.f26 := rfl
theorem fn_27 : cfg.fn 27 = some Try.f27 := rfl
theorem fn_28 : cfg.fn 28 = some Try.f28 := rfl
theorem fn_29 : cfg.fn 29 = some Try.f29 := rfl
theorem fn_30 : cfg.fn 30 = some Try.f30 := rfl
theorem fn_31 : cfg.fn 31 = some Try.f31 := rfl
theorem fn_32 : cfg.fn 32 = some Try.f32 := rfl
theorem fn_33 : cfg.fn 33 = some Try.f33 := rfl
theorem fn_34 : cfg.fn 34 = some Try.f34 := rfl
theorem fn_35 : cfg.fn 35 = some Try.f35 := rfl
theorem fn_36 : cfg.fn 36 = some Try.f36 := rfl
theorem fn_37 : cfg.fn 37 = some Try.f37 := rfl
theorem fn_38 : cfg.fn 38 = some Try.f38 := rfl
theorem fn_39 : cfg.fn 39 = some Try.f39 := rfl
theorem fn_40 : cfg.fn 40 = some Try.f40 := rfl
theorem fn_41 : cfg.fn 41 = some Try.f41 := rfl
theorem fn_42 : cfg.fn 42 = some Try.f42 := rfl
theorem fn_44 : cfg.fn 44 = some Try.f44 := rfl
theorem fn_45 : cfg.fn 45 = some Try.f45 := rfl
theorem fn_46 : cfg.fn 46 = some Try.f46 := rfl
theorem fn_47 : cfg.fn 47 = some Try.f47 := rfl
theorem fn_48 : cfg.fn 48 = some Try.f48 := rfl
theorem fn_49 : cfg.fn 49 = some Try.f49 := rfl
theorem fn_50 : cfg.fn 50 = some Try.f50 := rfl
theorem fn_51 : cfg.fn 51 = some Try.f51 := rfl
theorem fn_52 : cfg.fn 52 = some Try.f52 := rfl
theorem fn_53 : cfg.fn 53 = some Try.f53 := rfl
theorem fn_54 : cfg.fn 54 = some Try.f54 := rfl
theorem fn_55 : cfg.fn 55 = some Try.f55 := rfl
theorem fn_56 : cfg.fn 56 = some Try.f56 := rfl
theorem fn_57 : cfg.fn 57 = some Try.f57 := rfl
theorem fn_58 : cfg.fn 58 = some Try.f58 := rfl
theorem fn_59 : cfg.fn 59 = some Try.f59 := rfl
theorem fn_60 : cfg.fn 60 = some Try.f60 := rfl
theorem fn_61 : cfg.fn 61 = some Try.f61 := rfl
theorem fn_62 : cfg.fn 62 = some Try.f62 := rfl
theorem fn_63 : cfg.fn 63 = some Try.f63 := rfl
theorem fn_64 : cfg.fn 64 = some Try.f64 := rfl
theorem fn_65 : cfg.fn 65 = some Try.f65 := rfl
theorem fn_66 : cfg.fn 66 = some Try.f66 := rfl
theorem fn_67 : cfg.fn 67 = some Try.f67 := rfl
theorem fn_68 : cfg.fn 68 = some Try.f68 := rfl
theorem fn_69 : cfg.fn 69 = some Try.f69 := rfl
theorem fn_70 : cfg.fn 70 = some Try.f70 := rfl
theorem fn_71 : cfg.fn 71 = some Try.f71 := rfl
theorem fn_72 : cfg.fn 72 = some Try.f72 := rfl
theorem fn_73 : cfg.fn 73 = some Try.f73 := rfl
theorem fn_75 : cfg.fn 75 = some Try.f75 := rfl
theorem fn_76 : cfg.fn 76 = some Try.f76 := rfl
theorem fn_77 : cfg.fn 77 = some Try.f77 := rfl
theorem fn_78 : cfg.fn 78 = some Try.f78 := rfl
theorem fn_79 : cfg.fn 79 = some Try.f79 := rfl
theorem fn_80 : cfg.fn 80 = some Try.f80 := rfl
theorem fn_81 : cfg.fn 81 = some Try.f81 := rfl
theorem fn_82 : cfg.fn 82 = some Try.f82 := rfl
theorem fn_83 : cfg.fn 83 = some Try.f83 := rfl
theorem fn_84 : cfg.fn 84 = some Try.f84 := rfl
theorem fn_85 : cfg.fn 85 = some Try.f85 := rfl
theorem fn_86 : cfg.fn 86 = some Try.f86 := rfl
theorem fn_87 : cfg.fn 87 = some Try.f87 := rfl
theorem fn_88 : cfg.fn 88 = some Try.f88 := rfl
theorem fn_89 : cfg.fn 89 = some Try.f89 := rfl
theorem fn_90 : cfg.fn 90 = some Try.f90 := rfl
theorem fn_91 : cfg.fn 91 = some Try.f91 := rfl
theorem fn_92 : cfg.fn 92 = some Try.f92 := rfl
theorem fn_93 : cfg.fn 93 = some Try.f93 := rfl
theorem fn_94 : cfg.fn 94 = some Try.f94 := rfl
theorem fn_95 : cfg.fn 95 = some Try.f95 := rfl
theorem fn_96 : cfg.fn 96 = some Try.f96 := rfl
theorem fn_97 : cfg.fn 97 = some Try.f97 := rfl
theorem fn_98 : cfg.fn 98 = some Try.f98 := rfl
theorem fn_99 : cfg.fn 99 = some Try.f99 := rfl
theorem fn_101 : cfg.fn 101 = some Try.f101 := rfl
theorem fn_102 : cfg.fn 102 = some Try.f102 := rfl
@[go_sem] theorem ty_1 : cfg.ty 1 = some ⟨.func, 1, 8, [.nilf]⟩ := rfl
@[go_sem] theorem ty_2 : cfg.ty 2 = some ⟨(.int .i64), 1, 8, [.int .i64 0]⟩ := rfl
@[go_sem] theorem ty_3 : cfg.ty 3 = some ⟨(.int .i64), 1, 8, [.int .i64 0]⟩ := rfl
@[go_sem] theorem ty_4 : cfg.ty 4 = some ⟨.bool, 1, 1, [.bool false]⟩ := rfl
@[go_sem] theorem ty_5 : cfg.ty 5 = some ⟨(.int .u8), 1, 1, [.int .u8 0]⟩ := rfl
@[go_sem] theorem ty_7 : cfg.ty 7 = some ⟨(.struct false [(0, 2), (1, 3), (2, 4), (3, 6)]), 4, 24, [.int .i64 0, .int .i64 0, .bool false, .int .u8 0]⟩ := rfl
@[go_sem] theorem ty_8 : cfg.ty 8 = some ⟨(.struct false [(0, 2), (1, 3), (2, 4), (3, 6)]), 4, 24, [.int .i64 0, .int .i64 0, .bool false, .int .u8 0]⟩ := rfl
@[go_sem] theorem ty_9 : cfg.ty 9 = some ⟨.str, 1, 16, [.str []]⟩ := rfl
@[go_sem] theorem ty_10 : cfg.ty 10 = some ⟨.str, 1, 16, [.str []]⟩ := rfl
@[go_sem] theorem ty_11 : cfg.ty 11 = some ⟨.str, 1, 16, [.str []]⟩ := rfl
@[go_sem] theorem ty_12 : cfg.ty 12 = some ⟨(.int .u64), 1, 8, [.int .u64 0]⟩ := rfl
@[go_sem] theorem ty_13 : cfg.ty 13 = some ⟨(.struct false [(0, 9), (1, 12)]), 2, 24, [.str [], .int .u64 0]⟩ := rfl
@[go_sem] theorem ty_14 : cfg.ty 14 = some ⟨(.struct false [(0, 9), (1, 12)]), 2, 24, [.str [], .int .u64 0]⟩ := rfl
@[go_sem] theorem ty_15 : cfg.ty 15 = some ⟨(.ptr 164), 1, 8, [.nilp]⟩ := rfl
@[go_sem] theorem ty_16 : cfg.ty 16 = some ⟨(.ptr 167), 1, 8, [.nilp]⟩ := rfl
@[go_sem] theorem ty_17 : cfg.ty 17 = some ⟨(.ptr 174), 1, 8, [.nilp]⟩ := rfl
@[go_sem] theorem ty_18 : cfg.ty 18 = some ⟨(.struct false [(0, 17)]), 1, 8, [.nilp]⟩ := rfl
@[go_sem] theorem ty_19 : cfg.ty 19 = some ⟨(.struct false [(0, 17)]), 1, 8, [.nilp]⟩ := rfl
@[go_sem] theorem ty_21 : cfg.ty 21 = some ⟨(.int .i32), 1, 4, [.int .i32 0]⟩ := rfl
@[go_sem] theorem ty_22 : cfg.ty 22 = some ⟨(.slice 75), 1, 24, [.sl true []]⟩ := rfl
@[go_sem] theorem ty_23 : cfg.ty 23 = some ⟨(.slice 3), 1, 24, [.sl true []]⟩ := rfl
@[go_sem] theorem ty_24 : cfg.ty 24 = some ⟨(.struct true [(0, 3), (1, 23)]), 2, 32, [.int .i64 0, .sl true []]⟩ := rfl
@[go_sem] theorem ty_25 : cfg.ty 25 = some ⟨(.struct true [(0, 3), (1, 23)]), 2, 32, [.int .i64 0, .sl true []]⟩ := rfl
@[go_sem] theorem ty_26 : cfg.ty 26 = some ⟨.func, 1, 8, [.nilf]⟩ := rfl
@[go_sem] theorem ty_27 : cfg.ty 27 = some ⟨(.slice 92), 1, 24, [.sl true []]⟩ := rfl
@[go_sem] theorem ty_28 : cfg.ty 28 = some ⟨(.slice 77), 1, 24, [.sl true []]⟩ := rfl
@[go_sem] theorem ty_29 : cfg.ty 29 = some ⟨(.struct true [(0, 25), (2, 27), (3, 28)]), 4, 80, [.int .i64 0, .sl true [], .sl true [], .sl true []]⟩ := rfl
@[go_sem] theorem ty_30 : cfg.ty 30 = some ⟨(.struct true [(0, 25), (2, 27), (3, 28)]), 4, 80, [.int .i64 0, .sl true [], .sl true [], .sl true []]⟩ := rfl
@[go_sem] theorem ty_31 : cfg.ty 31 = some ⟨.func, 1, 8, [.nilf]⟩ := rfl
@[go_sem] theorem ty_32 : cfg.ty 32 = some ⟨(.ptr 133), 1, 8, [.nilp]⟩ := rfl
@[go_sem] theorem ty_33 : cfg.ty 33 = some ⟨(.int .i64), 1, 8, [.int .i64 0]⟩ := rfl
@[go_sem] theorem ty_35 : cfg.ty 35 = some ⟨.func, 1, 8, [.nilf]⟩ := rfl
@[go_sem] theorem ty_37 : cfg.ty 37 = some ⟨.func, 1, 8, [.nilf]⟩ := rfl
@[go_sem] theorem ty_38 : cfg.ty 38 = some ⟨(.struct true [(0, 3), (1, 23)]), 2, 32, [.int .i64 0, .sl true []]⟩ := rfl
@[go_sem] theorem ty_39 : cfg.ty 39 = some ⟨(.slice 88), 1, 24, [.sl true []]⟩ := rfl
@[go_sem] theorem ty_40 : cfg.ty 40 = some ⟨(.struct true [(0, 38), (2, 27), (3, 39)]), 4, 80, [.int .i64 0, .sl true [], .sl true [], .sl true []]⟩ := rfl
@[go_sem] theorem ty_41 : cfg.ty 41 = some ⟨(.struct true [(0, 38), (2, 27), (3, 39)]), 4, 80, [.int .i64 0, .sl true [], .sl true [], .sl true []]⟩ := rfl
@[go_sem] theorem ty_43 : cfg.ty 43 = some ⟨.func, 1, 8, [.nilf]⟩ := rfl
@[go_sem] theorem ty_44 : cfg.ty 44 = some ⟨(.slice 93), 1, 24, [.sl true []]⟩ := rfl
@[go_sem] theorem ty_45 : cfg.ty 45 = some ⟨.func, 1, 8, [.nilf]⟩ := rfl
@[go_sem] theorem ty_46 : cfg.ty 46 = some ⟨.func, 1, 8, [.nilf]⟩ := rfl
@[go_sem] theorem ty_47 : cfg.ty 47 = some ⟨.func, 1, 8, [.nilf]⟩ := rfl
@[go_sem] theorem ty_48 : cfg.ty 48 = some ⟨.func, 1, 8, [.nilf]⟩ := rfl
@[go_sem] theorem ty_49 : cfg.ty 49 = some ⟨.func, 1, 8, [.nilf]⟩ := rfl
@[go_sem] theorem ty_50 : cfg.ty 50 = some ⟨(.ptr 95), 1, 8, [.nilp]⟩ := rfl
@[go_sem] theorem ty_52 : cfg.ty 52 = some ⟨.func, 1, 8, [.nilf]⟩ := rfl
@[go_sem] theorem ty_54 : cfg.ty 54 = some ⟨.func, 1, 8, [.nilf]⟩ := rfl
@[go_sem] theorem ty_55 : cfg.ty 55 = some ⟨(.slice 79), 1, 24, [.sl true []]⟩ := rfl
@[go_sem] theorem ty_57 : cfg.ty 57 = some ⟨.func, 1, 8, [.nilf]⟩ := rfl
@[go_sem] theorem ty_58 : cfg.ty 58 = some ⟨.func, 1, 8, [.nilf]⟩ := rfl
@[go_sem] theorem ty_59 : cfg.ty 59 = some ⟨.func, 1, 8, [.nilf]⟩ := rfl
@[go_sem] theorem ty_60 : cfg.ty 60 = some ⟨.func, 1, 8, [.nilf]⟩ := rfl
@[go_sem] theorem ty_61 : cfg.ty 61 = some ⟨.func, 1, 8, [.nilf]⟩ := rfl
@[go_sem] theorem ty_62 : cfg.ty 62 = some ⟨.func, 1, 8, [.nilf]⟩ := rfl
@[go_sem] theorem ty_64 : cfg.ty 64 = some ⟨.func, 1, 8, [.nilf]⟩ := rfl
@[go_sem] theorem ty_66 : cfg.ty 66 = some ⟨.func, 1, 8, [.nilf]⟩ := rfl
@[go_sem] theorem ty_67 : cfg.ty 67 = some ⟨.func, 1, 8, [.nilf]⟩ := rfl
@[go_sem] theorem ty_68 : cfg.ty 68 = some ⟨.func, 1, 8, [.nilf]⟩ := rfl
@[go_sem] theorem ty_69 : cfg.ty 69 = some ⟨.func, 1, 8, [.nilf]⟩ := rfl
@[go_sem] theorem ty_70 : cfg.ty 70 = some ⟨.func, 1, 8, [.nilf]⟩ := rfl
@[go_sem] theorem ty_71 : cfg.ty 71 = some ⟨.func, 1, 8, [.nilf]⟩ := rfl
@[go_sem] theorem ty_72 : cfg.ty 72 = some ⟨.func, 1, 8, [.nilf]⟩ := rfl
@[go_sem] theorem ty_73 : cfg.ty 73 = some ⟨.func, 1, 8, [.nilf]⟩ := rfl
@[go_sem] theorem ty_74 : cfg.ty 74 = some ⟨(.struct true [(0, 3), (1, 3)]), 2, 16, [.int .i64 0, .int .i64 0]⟩ := rfl
@[go_sem] theorem ty_75 : cfg.ty 75 = some ⟨(.struct true [(0, 3), (1, 3)]), 2, 16, [.int .i64 0, .int .i64 0]⟩ := rfl
@[go_sem] theorem ty_76 : cfg.ty 76 = some ⟨(.struct true [(0, 3), (1, 4)]), 2, 16, [.int .i64 0, .bool false]⟩ := rfl
@[go_sem] theorem ty_77 : cfg.ty 77 = some ⟨(.struct true [(0, 3), (1, 4)]), 2, 16, [.int .i64 0, .bool false]⟩ := rfl
@[go_sem] theorem ty_78 : cfg.ty 78 = some ⟨(.struct true [(0, 3), (1, 77), (3, 77)]), 5, 40, [.int .i64 0, .int .i64 0, .bool false, .int .i64 0, .bool false]⟩ := rfl
@[go_sem] theorem ty_79 : cfg.ty 79 = some ⟨(.struct true [(0, 3), (1, 77), (3, 77)]), 5, 40, [.int .i64 0, .int .i64 0, .bool false, .int .i64 0, .bool false]⟩ := rfl
@[go_sem] theorem ty_80 : cfg.ty 80 = some ⟨.func, 1, 8, [.nilf]⟩ := rfl
@[go_sem] theorem ty_81 : cfg.ty 81 = some ⟨.func, 1, 8, [.nilf]⟩ := rfl
@[go_sem] theorem ty_82 : cfg.ty 82 = some ⟨.func, 1, 8, [.nilf]⟩ := rfl
@[go_sem] theorem ty_83 : cfg.ty 83 = some ⟨.func, 1, 8, [.nilf]⟩ := rfl
@[go_sem] theorem ty_84 : cfg.ty 84 = some ⟨.func, 1, 8, [.nilf]⟩ := rfl
@[go_sem] theorem ty_85 : cfg.ty 85 = some ⟨.func, 1, 8, [.nilf]⟩ := rfl
@[go_sem] theorem ty_86 : cfg.ty 86 = some ⟨.func, 1, 8, [.nilf]⟩ := rfl
@[go_sem] theorem ty_87 : cfg.ty 87 = some ⟨.func, 1, 8, [.nilf]⟩ := rfl
@[go_sem] theorem ty_88 : cfg.ty 88 = some ⟨(.struct true [(0, 3), (1, 4)]), 2, 16, [.int .i64 0, .bool false]⟩ := rfl
@[go_sem] theorem ty_89 : cfg.ty 89 = some ⟨.func, 1, 8, [.nilf]⟩ := rfl
@[go_sem] theorem ty_90 : cfg.ty 90 = some ⟨(.slice 27), 1, 24, [.sl true []]⟩ := rfl
@[go_sem] theorem ty_91 : cfg.ty 91 = some ⟨.func, 1, 8, [.nilf]⟩ := rfl
@[go_sem] theorem ty_92 : cfg.ty 92 = some ⟨(.int .u32), 1, 4, [.int .u32 0]⟩ := rfl
@[go_sem] theorem ty_93 : cfg.ty 93 = some ⟨(.struct true [(0, 3), (1, 3)]), 2, 16, [.int .i64 0, .int .i64 0]⟩ := rfl
@[go_sem] theorem ty_94 : cfg.ty 94 = some ⟨(.struct true [(0, 32), (1, 25), (3, 55), (4, 4)]), 5, 72, [.nilp, .int .i64 0, .sl true [], .sl true [], .bool false]⟩ := rfl
@[go_sem] theorem ty_95 : cfg.ty 95 = some ⟨(.struct true [(0, 32), (1, 25), (3, 55), (4, 4)]), 5, 72, [.nilp, .int .i64 0, .sl true [], .sl true [], .bool false]⟩ := rfl
@[go_sem] theorem ty_96 : cfg.ty 96 = some ⟨.func, 1, 8, [.nilf]⟩ := rfl
@[go_sem] theorem ty_97 : cfg.ty 97 = some ⟨.func, 1, 8, [.nilf]⟩ := rfl
@[go_sem] theorem ty_98 : cfg.ty 98 = some ⟨.func, 1, 8, [.nilf]⟩ := rfl
@[go_sem] theorem ty_99 : cfg.ty 99 = some ⟨.func, 1, 8, [.nilf]⟩ := rfl
@[go_sem] theorem ty_100 : cfg.ty 100 = some ⟨.func, 1, 8, [.nilf]⟩ := rfl
@[go_sem] theorem ty_101 : cfg.ty 101 = some ⟨.func, 1, 8, [.nilf]⟩ := rfl
@[go_sem] theorem ty_102 : cfg.ty 102 = some ⟨.func, 1, 8, [.nilf]⟩ := rfl
@[go_sem] theorem ty_103 : cfg.ty 103 = some ⟨(.struct true [(0, 9), (1, 3)]), 2, 24, [.str [], .int .i64 0]⟩ := rfl
@[go_sem] theorem ty_104 : cfg.ty 104 = some ⟨(.struct true [(0, 9), (1, 3)]), 2, 24, [.str [], .int .i64 0]⟩ := rfl
@[go_sem] theorem ty_106 : cfg.ty 106 = some ⟨.func, 1, 8, [.nilf]⟩ := rfl
@[go_sem] theorem ty_107 : cfg.ty 107 = some ⟨(.ptr 148), 1, 8, [.nilp]⟩ := rfl
@[go_sem] theorem ty_108 : cfg.ty 108 = some ⟨.func, 1, 8, [.nilf]⟩ := rfl
@[go_sem] theorem ty_109 : cfg.ty 109 = some ⟨.func, 1, 8, [.nilf]⟩ := rfl
@[go_sem] theorem ty_110 : cfg.ty 110 = some ⟨.func, 1, 8, [.nilf]⟩ := rfl
@[go_sem] theorem ty_111 : cfg.ty 111 = some ⟨.func, 1, 8, [.nilf]⟩ := rfl
@[go_sem] theorem ty_112 : cfg.ty 112 = some ⟨.func, 1, 8, [.nilf]⟩ := rfl
@[go_sem] theorem ty_114 : cfg.ty 114 = some ⟨.func, 1, 8, [.nilf]⟩ := rfl
@[go_sem] theorem ty_116 : cfg.ty 116 = some ⟨.func, 1, 8, [.nilf]⟩ := rfl
@[go_sem] theorem ty_117 : cfg.ty 117 = some ⟨(.ptr 120), 1, 8, [.nilp]⟩ := rfl
@[go_sem] theorem ty_118 : cfg.ty 118 = some ⟨(.slice 5), 1, 24, [.sl true []]⟩ := rfl
@[go_sem] theorem ty_119 : cfg.ty 119 = some ⟨(.struct false [(0, 117), (1, 118)]), 2, 32, [.nilp, .sl true []]⟩ := rfl
@[go_sem] theorem ty_120 : cfg.ty 120 = some ⟨(.struct false [(0, 117), (1, 118)]), 2, 32, [.nilp, .sl true []]⟩ := rfl
@[go_sem] theorem ty_124 : cfg.ty 124 = some ⟨.func, 1, 8, [.nilf]⟩ := rfl
@[go_sem] theorem ty_125 : cfg.ty 125 = some ⟨.func, 1, 8, [.nilf]⟩ := rfl
@[go_sem] theorem ty_126 : cfg.ty 126 = some ⟨.func, 1, 8, [.nilf]⟩ := rfl
@[go_sem] theorem ty_127 : cfg.ty 127 = some ⟨.func, 1, 8, [.nilf]⟩ := rfl
@[go_sem] theorem ty_128 : cfg.ty 128 = some ⟨(.array 4096 77), 8192, 65536, zt_128⟩ := rfl
@[go_sem] theorem ty_129 : cfg.ty 129 = some ⟨(.array 4096 92), 4096, 16384, zt_129⟩ := rfl
@[go_sem] theorem ty_130 : cfg.ty 130 = some ⟨(.array 256 92), 256, 1024, zt_130⟩ := rfl
@[go_sem] theorem ty_131 : cfg.ty 131 = some ⟨(.array 16 92), 16, 64, [.int .u32 0, .int .u32 0, .int .u32 0, .int .u32 0, .int .u32 0, .int .u32 0, .int .u32 0, .int .u32 0, .int .u32 0, .int .u32 0, .int .u32 0, .int .u32 0, .int .u32 0, .int .u32 0, .int .u32 0, .int .u32 0]⟩ := rfl
@[go_sem] theorem ty_132 : cfg.ty 132 = some ⟨(.struct true [(0, 128), (8192, 129), (12288, 130), (12544, 131), (12560, 92)]), 12561, 83016, zt_132⟩ := rfl
@[go_sem] theorem ty_133 : cfg.ty 133 = some ⟨(.struct true [(0, 128), (8192, 129), (12288, 130), (12544, 131), (12560, 92)]), 12561, 83016, zt_133⟩ := rfl
@[go_sem] theorem ty_134 : cfg.ty 134 = some ⟨.func, 1, 8, [.nilf]⟩ := rfl
@[go_sem] theorem ty_135 : cfg.ty 135 = some ⟨.func, 1, 8, [.nilf]⟩ := rfl
@[go_sem] theorem ty_136 : cfg.ty 136 = some ⟨.func, 1, 8, [.nilf]⟩ := rfl
@[go_sem] theorem ty_137 : cfg.ty 137 = some ⟨.func, 1, 8, [.nilf]⟩ := rfl
@[go_sem] theorem ty_138 : cfg.ty 138 = some ⟨.func, 1, 8, [.nilf]⟩ := rfl
@[go_sem] theorem ty_139 : cfg.ty 139 = some ⟨.func, 1, 8, [.nilf]⟩ := rfl
@[go_sem] theorem ty_140 : cfg.ty 140 = some ⟨.func, 1, 8, [.nilf]⟩ := rfl
@[go_sem] theorem ty_141 : cfg.ty 141 = some ⟨.func, 1, 8, [.nilf]⟩ := rfl
@[go_sem] theorem ty_142 : cfg.ty 142 = some ⟨.func, 1, 8, [.nilf]⟩ := rfl
@[go_sem] theorem ty_143 : cfg.ty 143 = some ⟨.func, 1, 8, [.nilf]⟩ := rfl
@[go_sem] theorem ty_144 : cfg.ty 144 = some ⟨.func, 1, 8, [.nilf]⟩ := rfl
@[go_sem] theorem ty_145 : cfg.ty 145 = some ⟨.func, 1, 8, [.nilf]⟩ := rfl
@[go_sem] theorem ty_146 : cfg.ty 146 = some ⟨.func, 1, 8, [.nilf]⟩ := rfl
@[go_sem] theorem ty_147 : cfg.ty 147 = some ⟨(.struct true [(0, 9), (1, 33)]), 2, 24, [.str [], .int .i64 0]⟩ := rfl
@[go_sem] theorem ty_148 : cfg.ty 148 = some ⟨(.struct true [(0, 9), (1, 33)]), 2, 24, [.str [], .int .i64 0]⟩ := rfl
@[go_sem] theorem ty_149 : cfg.ty 149 = some ⟨.func, 1, 8, [.nilf]⟩ := rfl
@[go_sem] theorem ty_150 : cfg.ty 150 = some ⟨(.int .u64), 1, 8, [.int .u64 0]⟩ := rfl
@[go_sem] theorem ty_151 : cfg.ty 151 = some ⟨.func, 1, 8, [.nilf]⟩ := rfl
@[go_sem] theorem ty_152 : cfg.ty 152 = some ⟨(.ptr 5), 1, 8, [.nilp]⟩ := rfl
@[go_sem] theorem ty_153 : cfg.ty 153 = some ⟨(.int .u64), 1, 8, [.int .u64 0]⟩ := rfl
@[go_sem] theorem ty_155 : cfg.ty 155 = some ⟨.func, 1, 8, [.nilf]⟩ := rfl
@[go_sem] theorem ty_156 : cfg.ty 156 = some ⟨.func, 1, 8, [.nilf]⟩ := rfl
@[go_sem] theorem ty_157 : cfg.ty 157 = some ⟨.func, 1, 8, [.nilf]⟩ := rfl
@[go_sem] theorem ty_158 : cfg.ty 158 = some ⟨.func, 1, 8, [.nilf]⟩ := rfl
@[go_sem] theorem ty_159 : cfg.ty 159 = some ⟨.func, 1, 8, [.nilf]⟩ := rfl
@[go_sem] theorem ty_160 : cfg.ty 160 = some ⟨.rawp, 1, 8, [.nilp]⟩ := rfl
@[go_sem] theorem ty_161 : cfg.ty 161 = some ⟨.func, 1, 8, [.nilf]⟩ := rfl
@[go_sem] theorem ty_162 : cfg.ty 162 = some ⟨.func, 1, 8, [.nilf]⟩ := rfl
@[go_sem] theorem ty_163 : cfg.ty 163 = some ⟨(.struct false [(0, 17), (1, 17), (2, 17), (3, 9)]), 4, 40, [.nilp, .nilp, .nilp, .str []]⟩ := rfl
@[go_sem] theorem ty_164 : cfg.ty 164 = some ⟨(.struct false [(0, 17), (1, 17), (2, 17), (3, 9)]), 4, 40, [.nilp, .nilp, .nilp, .str []]⟩ := rfl
@[go_sem] theorem ty_165 : cfg.ty 165 = some ⟨(.array 0 16), 0, 0, []⟩ := rfl
@[go_sem] theorem ty_166 : cfg.ty 166 = some ⟨(.struct false [(0, 165)]), 0, 0, []⟩ := rfl
@[go_sem] theorem ty_167 : cfg.ty 167 = some ⟨(.struct false [(0, 165)]), 0, 0, []⟩ := rfl
@[go_sem] theorem ty_170 : cfg.ty 170 = some ⟨.func, 1, 8, [.nilf]⟩ := rfl
@[go_sem] theorem ty_171 : cfg.ty 171 = some ⟨(.int .i32), 1, 4, [.int .i32 0]⟩ := rfl
@[go_sem] theorem ty_172 : cfg.ty 172 = some ⟨(.int .i32), 1, 4, [.int .i32 0]⟩ := rfl
@[go_sem] theorem ty_173 : cfg.ty 173 = some ⟨(.struct false [(0, 12), (1, 12), (2, 92), (3, 168), (4, 5), (5, 5), (6, 169), (7, 170), (8, 152), (9, 171), (10, 172)]), 11, 48, [.int .u64 0, .int .u64 0, .int .u32 0, .int .u8 0, .int .u8 0, .int .u8 0, .int .u8 0, .nilf, .nilp, .int .i32 0, .int .i32 0]⟩ := rfl
@[go_sem] theorem ty_174 : cfg.ty 174 = some ⟨(.struct false [(0, 12), (1, 12), (2, 92), (3, 168), (4, 5), (5, 5), (6, 169), (7, 170), (8, 152), (9, 171), (10, 172)]), 11, 48, [.int .u64 0, .int .u64 0, .int .u32 0, .int .u8 0, .int .u8 0, .int .u8 0, .int .u8 0, .nilf, .nilp, .int .i32 0, .int .i32 0]⟩ := rfl
@[go_sem] theorem ty_175 : cfg.ty 175 = some ⟨.func, 1, 8, [.nilf]⟩ := rfl
@[go_sem] theorem draw_3_8 : cfg.draw 3 8 = [(true, []), (false, [2, 8]), (true, [1]), (false, [8]), (false, [8]), (true, []), (true, []), (true, []), (true, [1, 3, 4]), (false, []), (false, [])] := rfl
@[go_sem] theorem draw_3_9 : cfg.draw 3 9 = [(false, []), (false, []), (true, []), (false, [4]), (true, [3]), (false, []), (false, []), (false, []), (true, []), (true, []), (false, []), (false, []), (false, [])] := rfl
theorem kill_4_8 : cfg.kill 4 8 = [0, 1, 2, 3, 4, 6, 8, 10, 12, 13, 14, 15, 16, 17, 18, 19, 20, 21, 22, 23, 24, 25, 26, 27, 28, 29, 30, 31, 32, 33, 34, 35, 36, 37, 38, 39, 40, 41, 42, 43, 44, 45, 46, 47, 48, 49, 50, 51, 52, 53, 54, 55, 56, 57, 58, 59, 60, 61, 62, 63, 64, 65, 66, 67, 68, 69, 70, 71, 72, 73, 74, 75, 76, 77, 78, 79, 80, 81, 82, 83, 84, 85, 86, 87, 88, 89, 90, 91, 92, 93, 94, 95, 96, 97, 98, 99, 100, 101, 102, 103, 104, 105, 106, 107, 108, 109, 110, 111, 112, 113, 114, 115, 116, 117, 118, 119, 120, 121, 122, 123, 124, 125, 126, 127] := rfl
@[go_sem] theorem draw_4_14 : cfg.draw 4 14 = [(false, []), (false, []), (true, []), (true, []), (false, [5]), (true, [4]), (false, []), (false, []), (false, []), (false, []), (false, []), (false, []), (false, []), (false, []), (false, [])] := rfl
@[go_sem] theorem draw_4_19 : cfg.draw 4 19 = [(true, []), (true, []), (false, []), (false, []), (true, []), (false, [6]), (true, [5]), (false, []), (false, []), (false, []), (false, [])] := rfl
@[go_sem] theorem draw_6_7 : cfg.draw 6 7 = [(true, []), (false, [2]), (true, [1]), (false, []), (false, []), (false, []), (true, []), (true, []), (false, []), (false, []), (false, []), (true, []), (false, [13]), (true, [12]), (false, []), (false, []), (false, []), (false, []), (true, []), (true, []), (false, []), (false, [])] := rfl
@[go_sem] theorem draw_6_9 : cfg.draw 6 9 = [(false, []), (false, []), (true, []), (true, []), (false, [6]), (true, []), (true, [4]), (false, []), (false, []), (false, []), (false, []), (false, []), (true, []), (false, [14]), (true, [13]), (false, []), (false, []), (false, []), (false, []), (false, [])] := rfl
@[go_sem] theorem draw_7_6 : cfg.draw 7 6 = [(false, []), (false, []), (false, []), (true, []), (false, [6]), (true, []), (true, [4]), (false, []), (false, []), (false, []), (false, [])] := rfl
@[go_sem] theorem draw_7_11 : cfg.draw 7 11 = [(false, []), (false, []), (false, []), (true, []), (false, [5]), (true, [4]), (false, []), (false, []), (false, []), (false, [])] := rfl
theorem kill_9_5 : cfg.kill 9 5 = [0, 8, 9, 10, 11, 12, 13, 14, 15, 16, 17, 18, 19, 20, 21, 22, 23, 24, 25, 26, 27, 28, 29, 30, 31, 32, 33, 34, 35, 36, 37, 38, 39, 40, 41, 42, 43, 44, 45, 46, 47, 48, 49, 50, 51, 52, 53, 54, 55, 56, 57, 58, 59, 60, 61, 62, 63, 64, 65, 66, 67, 68, 69, 70, 71, 72, 73, 74, 75, 76, 77, 78, 79, 80, 81, 82, 83, 84, 85, 86, 87, 88, 89, 90, 91, 92, 93] := rfl
theorem kill_10_5 : cfg.kill 10 5 = [0, 1, 2, 3, 5, 6, 7, 8, 9, 10, 14, 15, 16, 17, 18, 19, 20, 21, 22, 23, 24, 25] := rfl
@[go_sem] theorem draw_11_4 : cfg.draw 11 4 = [(true, []), (false, [4]), (true, []), (true, []), (true, [1]), (false, []), (false, []), (false, []), (false, [])] := rfl
@[go_sem] theorem draw_11_5 : cfg.draw 11 5 = [(true, []), (false, [3]), (true, []), (true, [1]), (false, []), (false, []), (false, []), (false, [])] := rfl
theorem kill_12_6 : cfg.kill 12 6 = [1, 2, 5, 8, 9, 10, 11, 12, 13, 14, 15, 16, 17, 18, 19, 20, 21, 22, 23, 24, 25, 26, 27, 28, 29, 30, 31, 32, 33, 34, 35, 36, 37, 38, 39, 40, 41, 42, 43, 44, 45, 46, 47, 48, 49, 50, 51, 52, 53, 54, 55, 56, 57, 58, 59, 60, 61, 62, 63, 64, 65, 66, 67, 68, 69, 70, 71, 72, 73] := rfl
theorem kill_12_12 : cfg.kill 12 12 = [0, 1, 2, 5, 7, 10, 11, 12, 13, 14, 15, 16, 17, 18, 19, 20, 21, 22, 23, 24, 25, 26, 27, 28, 29, 30, 31, 32, 33, 34, 35, 36, 37, 38, 39, 40, 41, 42, 43, 44, 45, 46, 47, 48, 49, 50, 51, 52, 53, 54, 55, 56, 57, 58, 59, 60, 61, 62, 63, 64, 65, 66, 67, 68, 69, 70, 71, 72, 73] := rfl
theorem kill_12_15 : cfg.kill 12 15 = [0, 1, 2, 5, 7, 11, 12, 13, 14, 15, 16, 17, 18, 19, 20, 21, 22, 23, 24, 25, 26, 27, 28, 29, 30, 31, 32, 33, 34, 35, 36, 37, 38, 39, 40, 41, 42, 43, 44, 45, 46, 47, 48, 49, 50, 51, 52, 53, 54, 55, 56, 57, 58, 59, 60, 61, 62, 63, 64, 65, 66, 67, 68, 69, 70, 71, 72, 73] := rfl
@[go_sem] theorem draw_12_8 : cfg.draw 12 8 = [(true, []), (true, [8]), (true, []), (true, []), (true, []), (true, []), (true, []), (true, []), (false, [1]), (true, []), (false, []), (false, []), (false, [])] := rfl
@[go_sem] theorem draw_12_17 : cfg.draw 12 17 = [(true, []), (false, []), (true, []), (true, []), (true, []), (true, []), (true, []), (true, []), (true, []), (true, []), (true, []), (true, []), (true, []), (true, []), (true, []), (true, []), (true, []), (true, []), (false, []), (false, []), (false, [])] := rfl
theorem kill_13_3 : cfg.kill 13 3 = [1, 2, 5, 6, 7, 8, 9, 10, 11, 12, 13, 14, 15, 16, 17, 18] := rfl
theorem kill_15_4 : cfg.kill 15 4 = [0, 1, 4, 6, 7, 8, 9, 10, 11, 12, 13, 14, 15, 16, 17, 18, 19, 20, 21, 22, 23, 24, 25, 26, 27, 28, 29, 30, 31, 32, 33, 34, 35, 36, 37, 38, 39, 40, 41, 42, 43, 44, 45, 46, 47, 48, 49, 50, 51, 52, 53, 54, 55, 56, 57, 58, 59, 60, 61, 62, 63, 64, 65, 66] := rfl
theorem kill_15_9 : cfg.kill 15 9 = [0, 1, 4, 5, 7, 8, 9, 10, 11, 12, 13, 14, 15, 16, 17, 18, 19, 20, 21, 22, 23, 24, 25, 26, 27, 28, 29, 30, 31, 32, 33, 34, 35, 36, 37, 38, 39, 40, 41, 42, 43, 44, 45, 46, 47, 48, 49, 50, 51, 52, 53, 54, 55, 56, 57, 58, 59, 60, 61, 62, 63, 64, 65, 66] := rfl
@[go_sem] theorem draw_15_6 : cfg.draw 15 6 = [(true, []), (true, []), (true, []), (true, []), (true, []), (true, []), (true, []), (true, []), (true, []), (true, []), (false, [])] := rfl
@[go_sem] theorem draw_15_11 : cfg.draw 15 11 = [(true, []), (true, []), (true, []), (true, []), (true, []), (true, []), (true, []), (true, []), (true, []), (true, []), (false, [])] := rfl
theorem kill_16_3 : cfg.kill 16 3 = [0, 5, 6, 7, 8, 9, 10, 11, 12, 13, 14, 15, 16, 17, 18, 19, 20, 21, 22, 23, 24, 25, 26, 27, 28] := rfl
@[go_sem] theorem draw_16_1 : cfg.draw 16 1 = [(true, []), (true, []), (false, [4, 6]), (true, []), (true, [2]), (true, []), (true, [2]), (false, [])] := rfl
@[go_sem] theorem draw_16_5 : cfg.draw 16 5 = [(true, []), (false, []), (true, []), (true, []), (true, []), (true, []), (true, []), (true, []), (false, []), (false, []), (false, [])] := rfl
theorem kill_21_4 : cfg.kill 21 4 = [0, 2, 4, 5, 6, 7, 8, 9, 10, 11, 12, 13, 14, 15, 16, 17, 18, 19, 20, 21, 22, 23, 24, 25, 26, 27, 28, 29, 30, 31, 32, 33, 34, 35, 36, 37, 38, 39, 40, 41, 42, 43, 44, 45, 46, 47, 48, 49, 50, 51, 52, 53, 54, 55, 56, 57, 58, 59, 60, 61, 62, 63, 64, 65, 66, 67, 68, 69, 70, 71] := rfl
theorem kill_22_9 : cfg.kill 22 9 = [1, 2, 3, 4, 7, 8, 9, 10, 11, 12, 13, 14, 15, 16, 17, 18, 19, 20, 21, 22, 23, 24, 25, 26, 27, 28, 29, 30, 31, 32, 33, 34, 35, 36, 37, 38, 39, 40, 41, 42, 43, 44, 45, 46, 47, 48, 49, 50, 51, 55, 56, 57, 58, 59, 60, 61, 62, 63, 64, 65, 66, 67, 68, 69, 70, 71, 72, 73, 74, 75, 76, 77, 78, 79, 80, 81, 82, 83, 84, 85, 86, 87, 88, 89, 90, 91, 92, 93, 94, 95, 96, 97, 98] := rfl
@[go_sem] theorem draw_22_1 : cfg.draw 22 1 = [(false, []), (false, []), (false, []), (false, []), (false, []), (false, []), (false, []), (false, []), (false, []), (true, []), (true, []), (true, []), (true, []), (true, []), (true, []), (false, []), (false, []), (false, []), (false, []), (false, []), (false, []), (false, []), (false, [])] := rfl
@[go_sem] theorem draw_22_6 : cfg.draw 22 6 = [(true, []), (true, []), (true, []), (true, []), (true, []), (true, []), (true, []), (true, []), (false, []), (false, [])] := rfl
theorem kill_23_2 : cfg.kill 23 2 = [1, 2, 4, 5, 6, 7, 8, 9, 10, 11, 12, 13, 14, 15, 16, 17, 18, 19, 20, 21, 22, 23, 24, 25, 26, 27, 28, 29, 30, 31, 32, 33, 34, 35, 36, 37, 38, 39, 40, 41, 42, 43, 44, 45, 46, 47, 48, 49, 50, 51, 52, 53, 54, 55] := rfl
@[go_sem] theorem draw_23_6 : cfg.draw 23 6 = [(false, []), (false, []), (false, []), (true, []), (true, []), (true, []), (true, []), (true, []), (true, []), (true, []), (true, []), (true, []), (true, []), (true, []), (false, []), (false, [])] := rfl
theorem kill_25_7 : cfg.kill 25 7 = [1, 3, 5, 6, 11, 12, 13, 14, 15, 16, 17, 18, 19, 20, 21, 22, 23, 24, 25, 26, 27, 28, 29, 30, 31, 32, 33, 34, 35, 36, 37, 38, 39, 40, 41, 42, 43, 44, 45, 46, 47, 48, 49, 50, 51, 52, 53, 54, 55, 56, 57, 58, 59, 60, 61, 62, 63, 64, 65, 66, 67] := rfl
theorem kill_26_9 : cfg.kill 26 9 = [1, 3, 5, 6, 8, 9, 10, 11, 12, 13, 14, 15, 16, 17, 18, 19, 20, 21, 22, 23, 24, 25, 26, 27, 28, 29, 30, 31, 34, 35, 36, 37, 38, 39, 40, 41, 42, 43, 44, 45, 46, 47, 48, 49, 50, 51, 52, 53, 54, 55, 56, 57, 58, 59, 60, 61, 62, 63, 64, 65, 66, 67, 68, 69, 70, 71, 72, 73] := rfl
theorem kill_26_16 : cfg.kill 26 16 = [1, 3, 4, 5, 6, 9, 10, 11, 12, 13, 14, 15, 16, 17, 18, 19, 20, 21, 22, 23, 24, 25, 26, 27, 28, 29, 30, 31, 32, 33, 34, 35, 36, 37, 38, 39, 40, 41, 42, 43, 44, 45, 46, 47, 48, 49, 50, 51, 52, 53, 54, 55, 56, 57, 58, 59, 60, 61, 62, 63, 64, 65, 66, 67, 68, 69, 70, 71, 72, 73] := rfl
@[go_sem] theorem draw_26_18 : cfg.draw 26 18 = [(true, []), (true, [3]), (true, []), (false, [1]), (true, []), (false, []), (false, []), (false, [])] := rfl
theorem kill_27_8 : cfg.kill 27 8 = [1, 3, 5, 7, 10, 11, 12, 13, 14, 15, 16, 17, 18, 19, 20, 21, 22, 23, 24, 25, 26, 27, 28, 29, 30, 31, 32, 33, 34, 35, 36, 37, 38, 39, 40, 41, 42, 43, 44, 45, 46, 47, 48, 49, 50, 51, 52, 53, 54, 55, 56, 57, 58, 59, 60, 61, 62, 63, 64, 65, 66, 67, 68, 69, 70, 71, 72, 73, 74, 75, 76, 77, 78, 79, 80, 81, 82, 83, 84, 85, 86, 87, 88, 89, 90, 91, 92, 93, 94, 95, 96, 97, 98, 99, 100, 101, 102, 103, 104, 105, 106, 107, 108, 109, 110, 111, 112, 113, 114, 115, 116, 117, 118, 119, 120, 121] := rfl
theorem kill_27_21 : cfg.kill 27 21 = [1, 3, 5, 6, 7, 9, 10, 11, 12, 13, 14, 16, 17, 18, 19, 20, 21, 22, 23, 24, 25, 26, 27, 28, 29, 30, 31, 32, 33, 34, 35, 36, 37, 38, 39, 40, 41, 42, 43, 44, 45, 46, 47, 48, 49, 50, 51, 52, 53, 54, 55, 56, 57, 58, 59, 60, 61, 62, 63, 64, 65, 66, 67, 68, 69, 70, 71, 72, 73, 74, 75, 76, 77, 78, 79, 80, 81, 82, 83, 84, 85, 86, 87, 88, 89, 90, 91, 92, 93, 94, 95, 96, 97, 98, 99, 100, 101, 102, 103, 104, 105, 106, 107, 108, 109, 110, 111, 112, 113, 114, 115, 116, 117, 118, 119, 120, 121] := rfl
@[go_sem] theorem draw_27_23 : cfg.draw 27 23 = [(true, []), (false, []), (true, []), (true, []), (true, []), (true, []), (true, []), (true, []), (true, []), (true, []), (true, []), (true, []), (true, []), (true, []), (true, []), (true, []), (true, []), (true, []), (true, []), (true, []), (true, []), (true, []), (true, []), (true, []), (true, []), (true, []), (true, []), (true, []), (true, []), (true, []), (true, []), (true, []), (false, []), (false, []), (false, [])] := rfl
theorem kill_28_7 : cfg.kill 28 7 = [0, 1, 2, 5, 6, 7, 8, 9, 10, 11, 12, 13, 14, 15, 16, 17, 18, 19, 23, 24, 25, 26, 27, 28, 29, 30, 31, 32, 33, 34] := rfl
@[go_sem] theorem draw_28_4 : cfg.draw 28 4 = [(true, []), (true, []), (false, [4]), (true, []), (true, [2]), (true, []), (false, []), (false, []), (false, [])] := rfl
theorem kill_29_5 : cfg.kill 29 5 = [0, 2, 5, 6, 7, 8, 9, 10, 11, 12, 13, 14, 15, 16, 17, 18, 19, 20, 21, 22, 23, 24, 25, 26, 27, 28, 29, 30, 31, 32, 33, 34, 35, 36, 37, 38, 39, 40, 41, 42, 43, 44, 45, 46, 47, 48] := rfl
@[go_sem] theorem draw_29_3 : cfg.draw 29 3 = [(true, []), (true, []), (false, [4]), (true, []), (true, [2]), (true, []), (false, []), (false, []), (false, [])] := rfl
@[go_sem] theorem draw_29_9 : cfg.draw 29 9 = [(true, []), (true, []), (true, []), (true, []), (true, []), (true, []), (true, []), (true, []), (true, []), (true, []), (true, []), (true, []), (true, []), (true, []), (false, []), (false, []), (false, [])] := rfl
theorem kill_30_6 : cfg.kill 30 6 = [0, 2, 4, 5, 6, 7, 8, 9, 10, 11, 12, 13, 14, 15, 16, 17, 21, 22, 23, 24, 25, 26, 27, 28, 29, 30, 31, 32, 33, 34, 35, 36, 37, 38, 39, 40, 41, 42, 43, 44, 45, 46, 47, 48, 49, 50, 51, 52, 53, 54] := rfl
theorem kill_30_9 : cfg.kill 30 9 = [0, 2, 4, 6, 7, 8, 9, 10, 11, 12, 13, 14, 15, 16, 17, 21, 22, 23, 25, 26, 27, 28, 29, 30, 31, 32, 33, 34, 35, 36, 37, 38, 39, 40, 41, 42, 43, 44, 45, 46, 47, 48, 49, 50, 51, 52, 53, 54] := rfl
theorem kill_30_15 : cfg.kill 30 15 = [0, 1, 2, 4, 5, 6, 7, 8, 9, 10, 11, 12, 13, 14, 15, 16, 17, 18, 19, 20, 21, 22, 23, 24, 25, 26, 27, 28, 29, 30, 31, 32, 33, 34, 35, 36, 40, 41, 42, 43, 44, 45, 46, 47, 48, 49, 50, 51, 52, 53, 54] := rfl
theorem kill_31_6 : cfg.kill 31 6 = [0, 2, 6, 7, 8, 9, 10, 11, 12, 13, 14, 15, 16, 17, 18, 19, 20, 21, 22, 23, 24, 25, 26, 27, 28, 29, 30, 31, 32, 33, 34, 35, 36, 37, 38, 39, 40, 41, 42, 43, 44, 45, 46, 47, 48, 49, 50, 51, 52, 53, 54, 55, 56, 57, 58, 59, 60, 61, 62, 63, 64, 65, 66, 67, 68, 69, 70, 71, 72, 73, 74, 75, 76, 77, 78, 79, 80, 81, 82, 83, 84, 85] := rfl
theorem kill_31_15 : cfg.kill 31 15 = [0, 2, 4, 5, 6, 8, 9, 10, 11, 12, 13, 14, 15, 16, 17, 18, 19, 20, 21, 22, 23, 24, 25, 26, 27, 28, 29, 30, 31, 32, 33, 34, 35, 36, 37, 38, 39, 40, 41, 42, 43, 44, 45, 46, 47, 48, 49, 50, 51, 52, 53, 54, 55, 56, 57, 58, 59, 60, 61, 62, 63, 64, 65, 66, 67, 68, 69, 70, 71, 72, 73, 74, 75, 76, 77, 78, 79, 80, 81, 82, 83, 84, 85] := rfl
theorem kill_32_2 : cfg.kill 32 2 = [1, 2, 3, 4, 8, 9, 10, 11, 12, 13, 14, 15, 16, 17, 18, 19, 20, 21, 22, 23, 24, 25, 26, 27, 28, 29, 30, 31, 32, 33, 34, 35, 36, 37, 38, 39, 40, 41, 42, 43, 44, 45] := rfl
@[go_sem] theorem draw_32_4 : cfg.draw 32 4 = [(false, []), (false, []), (false, []), (false, []), (false, []), (false, []), (false, []), (false, []), (false, []), (false, []), (false, []), (false, []), (false, []), (false, []), (false, []), (false, []), (false, []), (false, []), (false, []), (false, []), (false, []), (false, []), (true, []), (true, []), (true, []), (true, []), (true, []), (true, []), (true, []), (true, []), (false, []), (false, []), (false, [])] := rfl
theorem kill_33_3 : cfg.kill 33 3 = [0, 2, 3, 4, 5, 7, 8, 9, 10, 11, 12, 13, 14, 15, 16, 17, 18, 19, 20, 21, 22, 23, 24, 25, 26, 27, 28, 29, 30, 31, 32, 33, 34, 35, 36, 37, 38, 39, 40, 41, 42] := rfl
theorem kill_33_8 : cfg.kill 33 8 = [0, 2, 3, 4, 5, 6, 7, 8, 9, 10, 11, 12, 13, 14, 15, 16, 17, 18, 19, 21, 22, 23, 24, 25, 26, 27, 28, 29, 30, 31, 32, 33, 34, 35, 36, 37, 38, 39, 40, 41, 42] := rfl
@[go_sem] theorem draw_33_5 : cfg.draw 33 5 = [(true, []), (true, []), (true, []), (true, []), (true, []), (false, []), (false, []), (true, []), (true, []), (false, []), (false, [])] := rfl
@[go_sem] theorem draw_33_10 : cfg.draw 33 10 = [(true, []), (true, []), (true, []), (true, []), (true, []), (false, []), (false, []), (true, []), (true, []), (false, []), (false, [])] := rfl
@[go_sem] theorem draw_34_1 : cfg.draw 34 1 = [(true, []), (true, []), (true, []), (true, []), (true, []), (false, []), (false, [])] := rfl
@[go_sem] theorem draw_34_2 : cfg.draw 34 2 = [(true, []), (true, []), (true, []), (false, []), (true, []), (true, []), (false, []), (false, [])] := rfl
theorem kill_35_4 : cfg.kill 35 4 = [0, 2, 3, 4, 5, 6, 7, 8, 9, 10, 11, 12, 13, 14, 15, 16, 17, 18, 19, 23, 24, 25, 26, 27, 28, 29, 30, 31, 32, 33, 34, 35, 36, 37, 38, 39, 40, 41, 42, 43, 44, 45, 46, 47, 48, 49, 50] := rfl
@[go_sem] theorem draw_36_1 : cfg.draw 36 1 = [(true, []), (true, [4]), (true, []), (true, []), (false, [1]), (false, []), (false, [])] := rfl
theorem kill_37_3 : cfg.kill 37 3 = [1, 2, 3, 4, 6, 7, 11, 12, 13, 14, 15, 16, 17, 18, 19, 20, 21] := rfl
theorem kill_38_3 : cfg.kill 38 3 = [1, 2, 4, 6, 7, 8, 9, 13, 14, 15, 16, 17, 18, 19, 20, 21, 22, 23, 24, 25, 26, 27, 28, 29, 30, 31, 32] := rfl
theorem kill_38_6 : cfg.kill 38 6 = [1, 2, 4, 6, 8, 9, 13, 14, 15, 17, 18, 19, 20, 21, 22, 23, 24, 25, 26, 27, 28, 29, 30, 31, 32] := rfl
theorem kill_39_2 : cfg.kill 39 2 = [0, 2, 4, 5, 6, 7, 8, 9, 10, 11, 12, 13, 14, 15, 16, 17, 18, 19, 20, 21, 22, 23, 24, 25, 26, 27, 28, 29, 30, 31, 32, 33, 34, 35, 36, 37, 38, 39, 40, 41, 42, 43, 44, 45, 46, 47, 48, 49, 50, 51, 52, 53, 54, 55, 56, 57, 58, 59] := rfl
@[go_sem] theorem draw_39_4 : cfg.draw 39 4 = [(true, []), (true, []), (true, []), (false, []), (false, []), (false, []), (false, []), (true, []), (true, [14]), (true, []), (true, []), (true, [14]), (true, []), (true, []), (false, [8, 11]), (false, []), (false, []), (false, []), (false, []), (false, []), (false, []), (true, []), (true, []), (true, []), (true, []), (true, []), (true, []), (true, []), (true, []), (true, []), (true, []), (true, []), (false, []), (false, []), (false, [])] := rfl
theorem kill_40_2 : cfg.kill 40 2 = [2, 3, 6, 7, 8, 9, 10, 11, 12, 13, 14, 15, 16, 17, 18, 19, 20, 21, 22, 23, 24, 25] := rfl
theorem kill_42_2 : cfg.kill 42 2 = [1, 2, 3, 4, 8, 9, 10, 11, 12, 13, 14, 15, 16, 17, 18, 19, 20, 21, 22, 23, 24, 25, 26, 27, 28, 29, 30, 31, 32, 33, 34, 35, 36, 37, 38, 39, 40, 41, 42, 43, 44, 45, 46, 47, 48, 49, 50, 51, 52, 53, 54] := rfl
@[go_sem] theorem draw_42_4 : cfg.draw 42 4 = [(false, []), (false, []), (false, []), (false, []), (false, []), (false, []), (false, []), (false, []), (false, []), (false, []), (false, []), (false, []), (true, []), (true, []), (true, []), (true, []), (true, []), (true, []), (true, []), (true, []), (false, []), (false, []), (false, []), (false, []), (false, []), (false, []), (false, []), (false, []), (false, []), (false, []), (false, []), (false, []), (false, []), (false, []), (false, []), (false, []), (true, []), (true, []), (true, []), (true, []), (false, []), (false, [])] := rfl
theorem kill_44_4 : cfg.kill 44 4 = [2, 3, 4, 6, 7, 8, 9, 10, 11, 12, 13, 14, 15, 16, 17, 18, 19, 20, 21, 22, 23, 24, 25] := rfl
@[go_sem] theorem draw_44_6 : cfg.draw 44 6 = [(true, []), (true, []), (true, []), (true, []), (true, []), (true, []), (true, []), (true, []), (false, [])] := rfl
theorem kill_47_2 : cfg.kill 47 2 = [2, 3, 4, 5, 6, 7, 8, 9, 10, 11, 12, 13, 17, 18, 19, 20, 21, 22, 23, 24, 25, 26, 27, 28, 29, 30, 31, 32, 33, 34, 35, 36, 37, 38, 39, 40, 41, 42, 43, 44, 45, 46, 47, 48, 49] := rfl
@[go_sem] theorem draw_47_5 : cfg.draw 47 5 = [(true, []), (true, []), (true, []), (true, []), (true, []), (false, [])] := rfl
@[go_sem] theorem draw_47_6 : cfg.draw 47 6 = [(true, []), (true, []), (true, []), (true, []), (false, []), (true, []), (true, []), (true, []), (true, []), (true, []), (true, []), (true, []), (true, []), (false, []), (false, []), (false, []), (false, [])] := rfl
theorem kill_48_5 : cfg.kill 48 5 = [0, 1, 8, 9, 10, 11, 12, 13, 14, 15, 16, 17, 18, 19, 20, 21, 22, 23, 24, 25, 26, 27, 28, 29, 30, 31, 32, 33, 34, 35, 36, 37, 38, 39, 40, 41] := rfl
theorem kill_50_4 : cfg.kill 50 4 = [0, 3, 5, 6, 7, 8, 9, 10, 11, 12, 13, 14, 15, 16, 17, 18, 19, 20, 21, 22, 23, 24, 25, 26, 27, 28, 29, 30, 31, 32, 33, 34, 35, 36, 37, 38, 39, 40, 41, 42, 43, 44, 45, 46, 47, 48, 49, 50, 51, 52, 53, 54, 55, 56, 57, 58, 59, 60, 61, 62, 63, 64, 65, 66, 67, 68, 69] := rfl
theorem kill_50_12 : cfg.kill 50 12 = [0, 3, 7, 8, 9, 10, 11, 12, 13, 14, 15, 16, 17, 18, 19, 20, 21, 22, 23, 24, 25, 26, 27, 28, 29, 30, 31, 32, 33, 34, 35, 36, 37, 38, 39, 40, 41, 42, 43, 44, 45, 46, 47, 48, 49, 50, 51, 52, 53, 54, 55, 56, 57, 58, 59, 60, 61, 62, 63, 64, 65, 66, 67, 68, 69] := rfl
theorem kill_56_3 : cfg.kill 56 3 = [1, 2, 4, 6, 7, 8, 9, 10, 11, 12, 13, 14, 15, 16] := rfl
@[go_sem] theorem draw_57_8 : cfg.draw 57 8 = [(true, []), (true, []), (true, []), (true, []), (true, []), (true, []), (true, [9]), (true, []), (true, []), (false, [6]), (false, [])] := rfl
@[go_sem] theorem draw_58_7 : cfg.draw 58 7 = [(true, []), (true, []), (false, []), (true, []), (true, []), (true, [8]), (true, []), (true, []), (false, [5]), (false, [])] := rfl
theorem kill_61_4 : cfg.kill 61 4 = [1, 2, 4, 5, 6, 7, 8, 9, 10, 11, 12, 13, 14, 15, 16, 17, 18, 19, 20, 21, 22] := rfl
@[go_sem] theorem draw_62_1 : cfg.draw 62 1 = [(true, []), (true, []), (true, []), (false, []), (false, []), (true, []), (true, []), (true, []), (true, []), (true, []), (false, []), (false, [])] := rfl
theorem kill_64_4 : cfg.kill 64 4 = [1, 2, 4, 5, 6, 7, 8, 9, 10, 11, 12, 13, 14, 15, 16, 17, 18, 19, 20, 21, 22, 23] := rfl
theorem kill_70_3 : cfg.kill 70 3 = [0, 1, 2, 4, 5, 9, 10, 11, 12, 13, 14, 15, 16, 17, 18, 19, 20, 21, 22, 23, 24, 25, 26, 27, 28, 29] := rfl
@[go_sem] theorem frz_71_0 : cfg.frz 71 0 = [] := rfl
@[go_sem] theorem frz_71_1 : cfg.frz 71 1 = [] := rfl
@[go_sem] theorem frz_71_2 : cfg.frz 71 2 = [] := rfl
@[go_sem] theorem frz_71_3 : cfg.frz 71 3 = [] := rfl
@[go_sem] theorem frz_71_4 : cfg.frz 71 4 = [] := rfl
@[go_sem] theorem frz_71_5 : cfg.frz 71 5 = [] := rfl
@[go_sem] theorem frz_71_6 : cfg.frz 71 6 = [] := rfl
@[go_sem] theorem frz_71_7 : cfg.frz 71 7 = [] := rfl
@[go_sem] theorem frz_71_8 : cfg.frz 71 8 = [] := rfl
@[go_sem] theorem frz_71_9 : cfg.frz 71 9 = [] := rfl
theorem kill_71_5 : cfg.kill 71 5 = [0, 2, 4, 5, 6, 7, 8, 10, 11, 12, 13, 14, 15, 16, 17, 18, 19, 20, 21, 22, 23, 24, 25, 26] := rfl
@[go_sem] theorem draw_72_1 : cfg.draw 72 1 = [(true, []), (true, []), (true, []), (true, []), (true, []), (true, []), (true, []), (true, []), (true, []), (true, []), (false, []), (false, []), (true, []), (true, []), (false, []), (false, [])] := rfl
@[go_sem] theorem draw_72_2 : cfg.draw 72 2 = [(true, []), (true, []), (true, []), (true, []), (true, []), (true, []), (true, []), (true, []), (true, []), (true, []), (false, []), (false, []), (true, []), (true, []), (false, []), (false, [])] := rfl
theorem kill_73_3 : cfg.kill 73 3 = [0, 1, 2, 4, 7, 8, 9, 10, 11] := rfl
theorem kill_78_3 : cfg.kill 78 3 = [1, 2, 5, 6, 7, 8, 9, 10, 11, 12, 13, 14, 15, 16, 17, 18, 19, 20, 21, 22, 23, 24, 25, 26, 27, 28, 29, 30, 31, 32, 33] := rfl
theorem kill_78_7 : cfg.kill 78 7 = [1, 2, 4, 6, 7, 8, 9, 10, 11, 12, 13, 14, 15, 16, 17, 18, 19, 20, 21, 22, 23, 24, 25, 26, 27, 28, 29, 30, 31, 32, 33] := rfl
@[go_sem] theorem draw_78_9 : cfg.draw 78 9 = [(true, []), (true, []), (true, []), (true, []), (true, []), (true, [12]), (true, []), (true, []), (true, []), (true, []), (true, []), (true, []), (false, [5]), (false, []), (false, [])] := rfl
theorem kill_79_3 : cfg.kill 79 3 = [1, 2, 5, 6, 7, 8, 9, 10, 11, 12, 13, 14, 15, 16, 17, 18, 19, 20, 21, 22, 23, 24, 25, 26, 27, 28, 29, 30, 31, 32, 33, 34, 35, 36, 37, 38, 39, 40, 41, 42, 43, 44, 45, 46, 47, 48, 49, 50, 51, 52, 53, 54, 55] := rfl
theorem kill_79_9 : cfg.kill 79 9 = [1, 2, 3, 4, 8, 9, 10, 11, 12, 13, 14, 15, 16, 17, 18, 19, 20, 21, 22, 23, 24, 25, 26, 27, 28, 29, 30, 31, 32, 33, 34, 35, 36, 37, 38, 39, 40, 41, 42, 43, 44, 45, 46, 47, 48, 49, 50, 51, 52, 53, 54, 55] := rfl
theorem kill_79_13 : cfg.kill 79 13 = [1, 2, 3, 4, 10, 11, 12, 13, 14, 15, 16, 17, 18, 19, 20, 21, 22, 23, 24, 25, 26, 27, 28, 29, 30, 31, 32, 33, 34, 35, 36, 37, 38, 39, 40, 41, 42, 43, 44, 45, 46, 47, 48, 49, 50, 51, 52, 53, 54, 55] := rfl
theorem kill_81_4 : cfg.kill 81 4 = [2, 3, 4, 5, 6, 7, 8, 9, 10, 11, 14, 15, 16, 17, 18, 19, 20, 21, 22, 23, 24, 25] := rfl
@[go_sem] theorem draw_81_6 : cfg.draw 81 6 = [(true, []), (true, []), (true, []), (true, []), (true, []), (true, []), (true, []), (true, []), (false, [])] := rfl
theorem kill_85_5 : cfg.kill 85 5 = [1, 2, 4, 5, 6, 7, 8, 9, 10, 11, 12, 15, 16, 17, 18, 19, 20, 21, 22, 23, 24, 25, 26, 27, 28, 29, 30, 31, 32, 33, 34, 35, 36, 37, 38, 39, 40, 41, 42, 43, 44, 45, 46, 47, 48, 49, 50, 51, 52, 53, 54, 55, 56, 57, 58, 59, 60, 61, 62, 63, 64, 65, 66, 67, 68, 69, 70, 71] := rfl
theorem kill_92_3 : cfg.kill 92 3 = [1, 2, 4, 5, 8, 9, 10, 11, 12, 13, 14, 15, 16, 17, 18, 19, 20, 21, 22, 23, 24, 25, 26, 27, 28] := rfl
theorem kill_92_7 : cfg.kill 92 7 = [1, 2, 4, 5, 8, 9, 10, 11, 12, 13, 14, 15, 17, 18, 19, 20, 21, 22, 23, 24, 25, 26, 27, 28] := rfl
theorem kill_96_6 : cfg.kill 96 6 = [0, 1, 2, 6, 7, 8, 9, 10, 11, 12, 13, 14, 15, 16, 17, 18, 19, 20, 21, 22, 23, 24, 25, 26, 27, 28] := rfl
theorem kill_97_3 : cfg.kill 97 3 = [1, 2, 5, 6, 7, 8, 9, 10, 11, 12, 13, 14, 15, 16, 17, 18, 19, 20, 21, 22, 23, 24, 25, 26, 27, 28, 29, 30, 31, 32, 33, 34, 35, 36, 37, 38, 39, 40, 41, 42, 43, 44, 45, 46, 47, 48] := rfl
theorem kill_98_2 : cfg.kill 98 2 = [2, 3, 4, 5, 6, 9, 10, 11, 12, 13, 14, 15, 16, 17, 18] := rfl
theorem kill_99_2 : cfg.kill 99 2 = [1, 2, 3, 4, 7, 8, 9, 10, 11, 12, 13, 14, 15, 16, 17] := rfl
theorem kill_102_3 : cfg.kill 102 3 = [1, 2, 5, 6, 7, 8, 9, 10, 11, 12, 13, 14, 15, 16, 17, 18, 19, 20, 21, 22, 23, 24, 25, 26, 27, 28, 29, 30, 31, 32, 33, 34, 35, 36] := rfl
theorem kill_102_6 : cfg.kill 102 6 = [1, 2, 6, 7, 8, 9, 10, 11, 12, 13, 14, 15, 16, 17, 18, 19, 20, 21, 22, 23, 24, 25, 26, 27, 28, 29, 30, 31, 32, 33, 34, 35, 36] := rfl

end Go.Proofs.Ytliohdlkocnfbaa
