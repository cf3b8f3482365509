import Derived.Test.YtlfjmmcodkdlfaaL1
import Derived.Test.YtlfjmmcodkdlfaaProg
set_option linter.all false
set_option maxRecDepth 100000
namespace Go.Proofs.Ytlfjmmcodkdlfaa
open Go.Abs

noncomputable def fns : Tree Func :=
  (.node (.node (.node (.node (.node (.node (.node .leaf 2 Try.f2 .leaf) 3 Try.f3 (.node .leaf 4 Try.f4 .leaf)) 5 Try.f5 (.node (.node .leaf 6 Try.f6 .leaf) 7 Try.f7 .leaf)) 8 Try.f8 (.node (.node (.node .leaf 9 Try.f9 .leaf) 10 Try.f10 .leaf) 11 Try.f11 (.node (.node .leaf 12 Try.f12 .leaf) 13 Try.f13 .leaf))) 14 Try.f14 (.node (.node (.node (.node .leaf 15 Try.f15 .leaf) 16 Try.f16 .leaf) 17 Try.f17 (.node (.node .leaf 18 Try.f18 .leaf) 19 Try.f19 .leaf)) 20 Try.f20 (.node (.node (.node .leaf 22 Try.f22 .leaf) 23 Try.f23 .leaf) 24 Try.f24 (.node (.node .leaf 26 Try.f26 .leaf) 27 Try.f27 .leaf)))) 28 Try.f28 (.node (.node (.node (.node (.node .leaf 30 Try.f30 .leaf) 31 Try.f31 .leaf) 32 Try.f32 (.node (.node .leaf 33 Try.f33 .leaf) 34 Try.f34 .leaf)) 35 Try.f35 (.node (.node (.node .leaf 36 Try.f36 .leaf) 37 Try.f37 .leaf) 38 Try.f38 (.node (.node .leaf 39 Try.f39 .leaf) 40 Try.f40 .leaf))) 41 Try.f41 (.node (.node (.node (.node .leaf 42 Try.f42 .leaf) 43 Try.f43 .leaf) 44 Try.f44 (.node (.node .leaf 45 Try.f45 .leaf) 46 Try.f46 .leaf)) 47 Try.f47 (.node (.node (.node .leaf 48 Try.f48 .leaf) 49 Try.f49 .leaf) 50 Try.f50 (.node (.node .leaf 51 Try.f51 .leaf) 53 Try.f53 .leaf))))) 54 Try.f54 (.node (.node (.node (.node (.node (.node .leaf 55 Try.f55 .leaf) 56 Try.f56 .leaf) 57 Try.f57 (.node (.node .leaf 58 Try.f58 .leaf) 60 Try.f60 .leaf)) 61 Try.f61 (.node (.node (.node .leaf 62 Try.f62 .leaf) 63 Try.f63 .leaf) 64 Try.f64 (.node (.node .leaf 65 Try.f65 .leaf) 66 Try.f66 .leaf))) 67 Try.f67 (.node (.node (.node (.node .leaf 68 Try.f68 .leaf) 69 Try.f69 .leaf) 70 Try.f70 (.node (.node .leaf 71 Try.f71 .leaf) 72 Try.f72 .leaf)) 73 Try.f73 (.node (.node (.node .leaf 74 Try.f74 .leaf) 75 Try.f75 .leaf) 76 Try.f76 (.node (.node .leaf 77 Try.f77 .leaf) 78 Try.f78 .leaf)))) 79 Try.f79 (.node (.node (.node (.node (.node .leaf 80 Try.f80 .leaf) 81 Try.f81 .leaf) 82 Try.f82 (.node (.node .leaf 83 Try.f83 .leaf) 84 Try.f84 .leaf)) 85 Try.f85 (.node (.node (.node .leaf 86 Try.f86 .leaf) 87 Try.f87 .leaf) 88 Try.f88 (.node (.node .leaf 89 Try.f89 .leaf) 90 Try.f90 .leaf))) 91 Try.f91 (.node (.node (.node (.node .leaf 92 Try.f92 .leaf) 93 Try.f93 .leaf) 95 Try.f95 (.node (.node .leaf 96 Try.f96 .leaf) 97 Try.f97 .leaf)) 98 Try.f98 (.node (.node (.node .leaf 99 Try.f99 .leaf) 100 Try.f100 .leaf) 101 Try.f101 (.node (.node .leaf 102 Try.f102 .leaf) 103 Try.f103 .leaf))))))
noncomputable def tys : Tree TI :=
  (.node (.node (.node (.node (.node (.node (.node (.node .leaf 1 ⟨.func, 1, 8, [.nilf]⟩ .leaf) 2 ⟨(.int .i64), 1, 8, [.int .i64 0]⟩ .leaf) 3 ⟨(.int .i64), 1, 8, [.int .i64 0]⟩ (.node (.node .leaf 4 ⟨.bool, 1, 1, [.bool false]⟩ .leaf) 5 ⟨(.int .u8), 1, 1, [.int .u8 0]⟩ .leaf)) 7 ⟨(.struct false [(0, 2), (1, 3), (2, 4), (3, 6)]), 4, 24, [.int .i64 0, .int .i64 0, .bool false, .int .u8 0]⟩ (.node (.node (.node .leaf 8 ⟨(.struct false [(0, 2), (1, 3), (2, 4), (3, 6)]), 4, 24, [.int .i64 0, .int .i64 0, .bool false, .int .u8 0]⟩ .leaf) 9 ⟨.str, 1, 16, [.str []]⟩ .leaf) 10 ⟨.str, 1, 16, [.str []]⟩ (.node .leaf 11 ⟨.str, 1, 16, [.str []]⟩ .leaf))) 12 ⟨(.int .u64), 1, 8, [.int .u64 0]⟩ (.node (.node (.node (.node .leaf 13 ⟨(.struct false [(0, 9), (1, 12)]), 2, 24, [.str [], .int .u64 0]⟩ .leaf) 14 ⟨(.struct false [(0, 9), (1, 12)]), 2, 24, [.str [], .int .u64 0]⟩ .leaf) 15 ⟨(.ptr 155), 1, 8, [.nilp]⟩ (.node .leaf 16 ⟨(.ptr 158), 1, 8, [.nilp]⟩ .leaf)) 17 ⟨(.ptr 166), 1, 8, [.nilp]⟩ (.node (.node (.node .leaf 18 ⟨(.struct false [(0, 17)]), 1, 8, [.nilp]⟩ .leaf) 19 ⟨(.struct false [(0, 17)]), 1, 8, [.nilp]⟩ .leaf) 21 ⟨(.int .i32), 1, 4, [.int .i32 0]⟩ (.node .leaf 22 ⟨(.slice 56), 1, 24, [.sl true []]⟩ .leaf)))) 23 ⟨(.struct true [(0, 3), (1, 3)]), 2, 16, [.int .i64 0, .int .i64 0]⟩ (.node (.node (.node (.node (.node .leaf 24 ⟨(.struct true [(0, 3), (1, 3)]), 2, 16, [.int .i64 0, .int .i64 0]⟩ .leaf) 25 ⟨(.struct true [(0, 3), (1, 3), (2, 3), (3, 22), (4, 24), (6, 3)]), 7, 72, [.int .i64 0, .int .i64 0, .int .i64 0, .sl true [], .int .i64 0, .int .i64 0, .int .i64 0]⟩ .leaf) 26 ⟨(.struct true [(0, 3), (1, 3), (2, 3), (3, 22), (4, 24), (6, 3)]), 7, 72, [.int .i64 0, .int .i64 0, .int .i64 0, .sl true [], .int .i64 0, .int .i64 0, .int .i64 0]⟩ (.node (.node .leaf 27 ⟨(.slice 59), 1, 24, [.sl true []]⟩ .leaf) 28 ⟨(.slice 168), 1, 24, [.sl true []]⟩ .leaf)) 29 ⟨(.slice 171), 1, 24, [.sl true []]⟩ (.node (.node (.node .leaf 30 ⟨(.slice 69), 1, 24, [.sl true []]⟩ .leaf) 31 ⟨(.struct true [(0, 3), (1, 3), (2, 30)]), 3, 40, [.int .i64 0, .int .i64 0, .sl true []]⟩ .leaf) 32 ⟨(.struct true [(0, 3), (1, 3), (2, 30)]), 3, 40, [.int .i64 0, .int .i64 0, .sl true []]⟩ (.node .leaf 33 ⟨(.struct true [(0, 3), (1, 3), (2, 3), (3, 3), (4, 3), (5, 3), (6, 3), (7, 4), (8, 4), (9, 26), (16, 22), (17, 27), (18, 28), (19, 29), (20, 32)]), 23, 272, [.int .i64 0, .int .i64 0, .int .i64 0, .int .i64 0, .int .i64 0, .int .i64 0, .int .i64 0, .bool false, .bool false, .int .i64 0, .int .i64 0, .int .i64 0, .sl true [], .int .i64 0, .int .i64 0, .int .i64 0, .sl true [], .sl true [], .sl true [], .sl true [], .int .i64 0, .int .i64 0, .sl true []]⟩ .leaf))) 34 ⟨(.struct true [(0, 3), (1, 3), (2, 3), (3, 3), (4, 3), (5, 3), (6, 3), (7, 4), (8, 4), (9, 26), (16, 22), (17, 27), (18, 28), (19, 29), (20, 32)]), 23, 272, [.int .i64 0, .int .i64 0, .int .i64 0, .int .i64 0, .int .i64 0, .int .i64 0, .int .i64 0, .bool false, .bool false, .int .i64 0, .int .i64 0, .int .i64 0, .sl true [], .int .i64 0, .int .i64 0, .int .i64 0, .sl true [], .sl true [], .sl true [], .sl true [], .int .i64 0, .int .i64 0, .sl true []]⟩ (.node (.node (.node (.node .leaf 35 ⟨(.slice 24), 1, 24, [.sl true []]⟩ .leaf) 36 ⟨(.ptr 66), 1, 8, [.nilp]⟩ .leaf) 37 ⟨.func, 1, 8, [.nilf]⟩ (.node .leaf 38 ⟨.func, 1, 8, [.nilf]⟩ .leaf)) 39 ⟨(.slice 61), 1, 24, [.sl true []]⟩ (.node (.node (.node .leaf 40 ⟨.func, 1, 8, [.nilf]⟩ .leaf) 41 ⟨.func, 1, 8, [.nilf]⟩ .leaf) 42 ⟨(.int .i64), 1, 8, [.int .i64 0]⟩ (.node .leaf 43 ⟨.func, 1, 8, [.nilf]⟩ .leaf))))) 44 ⟨.func, 1, 8, [.nilf]⟩ (.node (.node (.node (.node (.node (.node .leaf 45 ⟨(.slice 34), 1, 24, [.sl true []]⟩ .leaf) 46 ⟨.func, 1, 8, [.nilf]⟩ .leaf) 47 ⟨.func, 1, 8, [.nilf]⟩ (.node (.node .leaf 48 ⟨.func, 1, 8, [.nilf]⟩ .leaf) 49 ⟨.func, 1, 8, [.nilf]⟩ .leaf)) 50 ⟨.func, 1, 8, [.nilf]⟩ (.node (.node (.node .leaf 51 ⟨.func, 1, 8, [.nilf]⟩ .leaf) 52 ⟨.func, 1, 8, [.nilf]⟩ .leaf) 54 ⟨.func, 1, 8, [.nilf]⟩ (.node .leaf 55 ⟨(.struct true [(0, 3), (1, 3)]), 2, 16, [.int .i64 0, .int .i64 0]⟩ .leaf))) 56 ⟨(.struct true [(0, 3), (1, 3)]), 2, 16, [.int .i64 0, .int .i64 0]⟩ (.node (.node (.node (.node .leaf 57 ⟨.func, 1, 8, [.nilf]⟩ .leaf) 58 ⟨(.struct true [(0, 26), (7, 3), (8, 4)]), 9, 88, [.int .i64 0, .int .i64 0, .int .i64 0, .sl true [], .int .i64 0, .int .i64 0, .int .i64 0, .int .i64 0, .bool false]⟩ .leaf) 59 ⟨(.struct true [(0, 26), (7, 3), (8, 4)]), 9, 88, [.int .i64 0, .int .i64 0, .int .i64 0, .sl true [], .int .i64 0, .int .i64 0, .int .i64 0, .int .i64 0, .bool false]⟩ (.node .leaf 60 ⟨.func, 1, 8, [.nilf]⟩ .leaf)) 61 ⟨(.struct true [(0, 3), (1, 3)]), 2, 16, [.int .i64 0, .int .i64 0]⟩ (.node (.node (.node .leaf 62 ⟨.func, 1, 8, [.nilf]⟩ .leaf) 63 ⟨.func, 1, 8, [.nilf]⟩ .leaf) 64 ⟨(.slice 72), 1, 24, [.sl true []]⟩ (.node .leaf 65 ⟨(.struct true [(0, 35), (1, 3), (2, 22), (3, 32), (6, 64), (7, 27)]), 8, 144, [.sl true [], .int .i64 0, .sl true [], .int .i64 0, .int .i64 0, .sl true [], .sl true [], .sl true []]⟩ .leaf)))) 66 ⟨(.struct true [(0, 35), (1, 3), (2, 22), (3, 32), (6, 64), (7, 27)]), 8, 144, [.sl true [], .int .i64 0, .sl true [], .int .i64 0, .int .i64 0, .sl true [], .sl true [], .sl true []]⟩ (.node (.node (.node (.node (.node .leaf 67 ⟨.func, 1, 8, [.nilf]⟩ .leaf) 68 ⟨(.struct true [(0, 3), (1, 24), (3, 3)]), 4, 32, [.int .i64 0, .int .i64 0, .int .i64 0, .int .i64 0]⟩ .leaf) 69 ⟨(.struct true [(0, 3), (1, 24), (3, 3)]), 4, 32, [.int .i64 0, .int .i64 0, .int .i64 0, .int .i64 0]⟩ (.node (.node .leaf 71 ⟨.func, 1, 8, [.nilf]⟩ .leaf) 72 ⟨(.ptr 76), 1, 8, [.nilp]⟩ .leaf)) 73 ⟨.func, 1, 8, [.nilf]⟩ (.node (.node (.node .leaf 74 ⟨(.ptr 83), 1, 8, [.nilp]⟩ .leaf) 75 ⟨(.struct true [(0, 69), (4, 35), (5, 3), (6, 3), (7, 27), (8, 74)]), 9, 104, [.int .i64 0, .int .i64 0, .int .i64 0, .int .i64 0, .sl true [], .int .i64 0, .int .i64 0, .sl true [], .nilp]⟩ .leaf) 76 ⟨(.struct true [(0, 69), (4, 35), (5, 3), (6, 3), (7, 27), (8, 74)]), 9, 104, [.int .i64 0, .int .i64 0, .int .i64 0, .int .i64 0, .sl true [], .int .i64 0, .int .i64 0, .sl true [], .nilp]⟩ (.node .leaf 77 ⟨.func, 1, 8, [.nilf]⟩ .leaf))) 78 ⟨.func, 1, 8, [.nilf]⟩ (.node (.node (.node (.node .leaf 79 ⟨.func, 1, 8, [.nilf]⟩ .leaf) 80 ⟨.func, 1, 8, [.nilf]⟩ .leaf) 81 ⟨.func, 1, 8, [.nilf]⟩ (.node .leaf 82 ⟨(.struct true [(0, 22), (1, 3)]), 2, 32, [.sl true [], .int .i64 0]⟩ .leaf)) 83 ⟨(.struct true [(0, 22), (1, 3)]), 2, 32, [.sl true [], .int .i64 0]⟩ (.node (.node (.node .leaf 84 ⟨.func, 1, 8, [.nilf]⟩ .leaf) 85 ⟨.func, 1, 8, [.nilf]⟩ .leaf) 86 ⟨.func, 1, 8, [.nilf]⟩ (.node .leaf 87 ⟨.func, 1, 8, [.nilf]⟩ .leaf)))))) 88 ⟨.func, 1, 8, [.nilf]⟩ (.node (.node (.node (.node (.node (.node (.node .leaf 89 ⟨.func, 1, 8, [.nilf]⟩ .leaf) 90 ⟨.func, 1, 8, [.nilf]⟩ .leaf) 92 ⟨.func, 1, 8, [.nilf]⟩ (.node (.node .leaf 93 ⟨.func, 1, 8, [.nilf]⟩ .leaf) 94 ⟨.func, 1, 8, [.nilf]⟩ .leaf)) 95 ⟨.func, 1, 8, [.nilf]⟩ (.node (.node (.node .leaf 96 ⟨.func, 1, 8, [.nilf]⟩ .leaf) 97 ⟨.func, 1, 8, [.nilf]⟩ .leaf) 98 ⟨.func, 1, 8, [.nilf]⟩ (.node .leaf 99 ⟨.func, 1, 8, [.nilf]⟩ .leaf))) 100 ⟨.func, 1, 8, [.nilf]⟩ (.node (.node (.node (.node .leaf 101 ⟨.func, 1, 8, [.nilf]⟩ .leaf) 103 ⟨.func, 1, 8, [.nilf]⟩ .leaf) 104 ⟨.func, 1, 8, [.nilf]⟩ (.node .leaf 106 ⟨.func, 1, 8, [.nilf]⟩ .leaf)) 107 ⟨.func, 1, 8, [.nilf]⟩ (.node (.node (.node .leaf 108 ⟨.func, 1, 8, [.nilf]⟩ .leaf) 109 ⟨.func, 1, 8, [.nilf]⟩ .leaf) 110 ⟨.func, 1, 8, [.nilf]⟩ (.node .leaf 111 ⟨.func, 1, 8, [.nilf]⟩ .leaf)))) 112 ⟨.func, 1, 8, [.nilf]⟩ (.node (.node (.node (.node (.node .leaf 113 ⟨.func, 1, 8, [.nilf]⟩ .leaf) 114 ⟨.func, 1, 8, [.nilf]⟩ .leaf) 115 ⟨.func, 1, 8, [.nilf]⟩ (.node (.node .leaf 116 ⟨.func, 1, 8, [.nilf]⟩ .leaf) 117 ⟨.func, 1, 8, [.nilf]⟩ .leaf)) 118 ⟨.func, 1, 8, [.nilf]⟩ (.node (.node (.node .leaf 119 ⟨.func, 1, 8, [.nilf]⟩ .leaf) 120 ⟨(.slice 22), 1, 24, [.sl true []]⟩ .leaf) 121 ⟨.func, 1, 8, [.nilf]⟩ (.node .leaf 122 ⟨.func, 1, 8, [.nilf]⟩ .leaf))) 123 ⟨.func, 1, 8, [.nilf]⟩ (.node (.node (.node (.node .leaf 124 ⟨(.int .u64), 1, 8, [.int .u64 0]⟩ .leaf) 125 ⟨.func, 1, 8, [.nilf]⟩ .leaf) 126 ⟨.func, 1, 8, [.nilf]⟩ (.node .leaf 127 ⟨.func, 1, 8, [.nilf]⟩ .leaf)) 128 ⟨.func, 1, 8, [.nilf]⟩ (.node (.node (.node .leaf 129 ⟨(.int .i64), 1, 8, [.int .i64 0]⟩ .leaf) 131 ⟨.func, 1, 8, [.nilf]⟩ .leaf) 132 ⟨.func, 1, 8, [.nilf]⟩ (.node .leaf 133 ⟨.func, 1, 8, [.nilf]⟩ .leaf))))) 134 ⟨.func, 1, 8, [.nilf]⟩ (.node (.node (.node (.node (.node (.node .leaf 135 ⟨.func, 1, 8, [.nilf]⟩ .leaf) 136 ⟨(.int .u32), 1, 4, [.int .u32 0]⟩ .leaf) 137 ⟨.func, 1, 8, [.nilf]⟩ (.node (.node .leaf 138 ⟨(.int .u64), 1, 8, [.int .u64 0]⟩ .leaf) 139 ⟨.func, 1, 8, [.nilf]⟩ .leaf)) 140 ⟨.func, 1, 8, [.nilf]⟩ (.node (.node (.node .leaf 141 ⟨.func, 1, 8, [.nilf]⟩ .leaf) 142 ⟨.func, 1, 8, [.nilf]⟩ .leaf) 143 ⟨(.int .u64), 1, 8, [.int .u64 0]⟩ (.node .leaf 144 ⟨.func, 1, 8, [.nilf]⟩ .leaf))) 145 ⟨.func, 1, 8, [.nilf]⟩ (.node (.node (.node (.node .leaf 146 ⟨.func, 1, 8, [.nilf]⟩ .leaf) 147 ⟨(.ptr 3), 1, 8, [.nilp]⟩ .leaf) 148 ⟨.func, 1, 8, [.nilf]⟩ (.node .leaf 149 ⟨(.ptr 143), 1, 8, [.nilp]⟩ .leaf)) 151 ⟨.func, 1, 8, [.nilf]⟩ (.node (.node (.node .leaf 152 ⟨.func, 1, 8, [.nilf]⟩ .leaf) 153 ⟨.func, 1, 8, [.nilf]⟩ .leaf) 154 ⟨(.struct false [(0, 17), (1, 17), (2, 17), (3, 9)]), 4, 40, [.nilp, .nilp, .nilp, .str []]⟩ (.node .leaf 155 ⟨(.struct false [(0, 17), (1, 17), (2, 17), (3, 9)]), 4, 40, [.nilp, .nilp, .nilp, .str []]⟩ .leaf)))) 156 ⟨(.array 0 16), 0, 0, []⟩ (.node (.node (.node (.node (.node .leaf 157 ⟨(.struct false [(0, 156)]), 0, 0, []⟩ .leaf) 158 ⟨(.struct false [(0, 156)]), 0, 0, []⟩ .leaf) 161 ⟨.func, 1, 8, [.nilf]⟩ (.node .leaf 162 ⟨(.ptr 5), 1, 8, [.nilp]⟩ .leaf)) 163 ⟨(.int .i32), 1, 4, [.int .i32 0]⟩ (.node (.node (.node .leaf 164 ⟨(.int .i32), 1, 4, [.int .i32 0]⟩ .leaf) 165 ⟨(.struct false [(0, 12), (1, 12), (2, 136), (3, 159), (4, 5), (5, 5), (6, 160), (7, 161), (8, 162), (9, 163), (10, 164)]), 11, 48, [.int .u64 0, .int .u64 0, .int .u32 0, .int .u8 0, .int .u8 0, .int .u8 0, .int .u8 0, .nilf, .nilp, .int .i32 0, .int .i32 0]⟩ .leaf) 166 ⟨(.struct false [(0, 12), (1, 12), (2, 136), (3, 159), (4, 5), (5, 5), (6, 160), (7, 161), (8, 162), (9, 163), (10, 164)]), 11, 48, [.int .u64 0, .int .u64 0, .int .u32 0, .int .u8 0, .int .u8 0, .int .u8 0, .int .u8 0, .nilf, .nilp, .int .i32 0, .int .i32 0]⟩ (.node .leaf 167 ⟨(.struct true [(0, 3), (1, 3), (2, 3), (3, 4)]), 4, 32, [.int .i64 0, .int .i64 0, .int .i64 0, .bool false]⟩ .leaf))) 168 ⟨(.struct true [(0, 3), (1, 3), (2, 3), (3, 4)]), 4, 32, [.int .i64 0, .int .i64 0, .int .i64 0, .bool false]⟩ (.node (.node (.node (.node .leaf 169 ⟨(.slice 175), 1, 24, [.sl true []]⟩ .leaf) 170 ⟨(.struct true [(0, 3), (1, 24), (3, 3), (4, 4), (5, 4), (6, 169), (7, 22), (8, 27), (9, 28)]), 10, 136, [.int .i64 0, .int .i64 0, .int .i64 0, .int .i64 0, .bool false, .bool false, .sl true [], .sl true [], .sl true [], .sl true []]⟩ .leaf) 171 ⟨(.struct true [(0, 3), (1, 24), (3, 3), (4, 4), (5, 4), (6, 169), (7, 22), (8, 27), (9, 28)]), 10, 136, [.int .i64 0, .int .i64 0, .int .i64 0, .int .i64 0, .bool false, .bool false, .sl true [], .sl true [], .sl true [], .sl true []]⟩ (.node .leaf 172 ⟨.rawp, 1, 8, [.nilp]⟩ .leaf)) 173 ⟨(.slice 177), 1, 24, [.sl true []]⟩ (.node (.node (.node .leaf 174 ⟨(.struct true [(0, 26), (7, 3), (8, 4), (9, 173)]), 10, 112, [.int .i64 0, .int .i64 0, .int .i64 0, .sl true [], .int .i64 0, .int .i64 0, .int .i64 0, .int .i64 0, .bool false, .sl true []]⟩ .leaf) 175 ⟨(.struct true [(0, 26), (7, 3), (8, 4), (9, 173)]), 10, 112, [.int .i64 0, .int .i64 0, .int .i64 0, .sl true [], .int .i64 0, .int .i64 0, .int .i64 0, .int .i64 0, .bool false, .sl true []]⟩ .leaf) 176 ⟨(.struct true [(0, 3), (1, 3)]), 2, 16, [.int .i64 0, .int .i64 0]⟩ (.node .leaf 177 ⟨(.struct true [(0, 3), (1, 3)]), 2, 16, [.int .i64 0, .int .i64 0]⟩ .leaf)))))))
/-- All slots but these. -/
def kl (n : Nat) (l : List Nat) : List Nat := (List.range n).filter fun i => !l.contains i
noncomputable def kills : Tree (Tree (List Nat)) :=
  (.node (.node (.node (.node (.node (.node .leaf 5 (.node .leaf 2 (kl 37 [0, 3]) .leaf) .leaf) 6 (.node .leaf 3 (kl 19 [0, 3, 4]) .leaf) .leaf) 8 (.node .leaf 7 (kl 81 [0, 3, 5, 29, 30, 31]) .leaf) (.node .leaf 9 (.node .leaf 9 (kl 102 [0, 3, 5, 6]) .leaf) .leaf)) 11 (.node (.node .leaf 5 (kl 59 [0, 1, 5, 20, 21, 22]) .leaf) 11 (kl 59 [1, 5, 8, 36, 37, 38]) .leaf) (.node (.node .leaf 17 (.node .leaf 5 (kl 53 [0, 1, 4, 6, 26, 27]) .leaf) .leaf) 20 (.node .leaf 2 (kl 34 [0, 5, 6, 7]) .leaf) (.node .leaf 22 (.node .leaf 5 (kl 83 [1, 3, 37, 38, 39]) .leaf) .leaf))) 26 (.node .leaf 3 (kl 36 [0, 2, 16, 17, 18]) .leaf) (.node (.node (.node (.node .leaf 30 (.node .leaf 2 (kl 46 [0, 5, 6, 7]) .leaf) .leaf) 33 (.node .leaf 2 (kl 18 [0, 5, 6, 7]) .leaf) .leaf) 35 (.node (.node .leaf 3 (kl 46 [1, 5, 11, 12, 13]) .leaf) 6 (kl 46 [1, 5, 7, 11, 12, 13, 17, 18, 19]) .leaf) (.node .leaf 36 (.node .leaf 2 (kl 19 [0, 1, 7, 8]) .leaf) .leaf)) 38 (.node .leaf 5 (kl 73 [0, 4, 5, 27, 28, 29]) .leaf) (.node (.node .leaf 39 (.node .leaf 6 (kl 121 [0, 2, 4, 7]) .leaf) .leaf) 40 (.node .leaf 2 (kl 19 [0, 1, 7, 8]) .leaf) (.node .leaf 46 (.node .leaf 5 (kl 42 [0, 1, 5, 6]) .leaf) .leaf)))) 50 (.node .leaf 5 (kl 32 [1, 5, 16, 17, 18]) .leaf) (.node (.node (.node (.node (.node .leaf 51 (.node .leaf 11 (kl 93 [2, 4, 6, 52, 53, 54]) .leaf) .leaf) 54 (.node .leaf 2 (kl 19 [0, 1, 7, 8]) .leaf) .leaf) 55 (.node .leaf 2 (kl 19 [0, 1, 7, 8]) .leaf) (.node .leaf 58 (.node (.node .leaf 3 (kl 36 [0, 3, 9, 10, 11]) .leaf) 11 (kl 36 [6, 25, 26, 27]) .leaf) .leaf)) 68 (.node .leaf 2 (kl 22 [0, 3]) .leaf) (.node (.node .leaf 70 (.node .leaf 2 (kl 19 [0, 1, 7, 8]) .leaf) .leaf) 72 (.node .leaf 2 (kl 148 [0, 1, 2, 3, 4, 10, 11]) .leaf) (.node .leaf 82 (.node (.node .leaf 1 (kl 53 [0, 1, 2, 3, 8]) .leaf) 4 (kl 53 [0, 1, 2, 3, 8, 9]) .leaf) .leaf))) 83 (.node (.node .leaf 4 (kl 60 [0, 3, 8, 9, 10, 11]) .leaf) 8 (kl 60 [0, 3, 8, 9, 12]) .leaf) (.node (.node (.node (.node .leaf 84 (.node .leaf 5 (kl 67 [0, 1, 8, 9, 10, 11]) .leaf) .leaf) 86 (.node .leaf 2 (kl 34 [0, 8, 9]) .leaf) .leaf) 87 (.node (.node (.node .leaf 3 (kl 141 [0, 1, 2, 3, 9, 10]) .leaf) 5 (kl 141 [0, 1, 2, 3, 9, 10]) .leaf) 14 (kl 141 [0, 1, 2, 3, 9, 10, 11]) (.node .leaf 20 (kl 141 [0, 1, 2, 3, 9, 10, 12]) .leaf)) (.node .leaf 88 (.node (.node .leaf 3 (kl 90 [0, 1, 4, 11, 12]) .leaf) 5 (kl 90 [0, 1, 4, 11, 12]) .leaf) .leaf)) 89 (.node (.node (.node .leaf 3 (kl 178 [0, 1, 4, 12, 13]) .leaf) 5 (kl 178 [0, 1, 4, 12, 13]) .leaf) 13 (kl 178 [0, 1, 4, 12, 13]) (.node .leaf 15 (kl 178 [0, 1, 4, 12, 13]) .leaf)) (.node (.node .leaf 92 (.node .leaf 3 (kl 49 [0, 1, 2, 8, 9, 10]) .leaf) .leaf) 96 (.node .leaf 1 (kl 82 [0, 2, 3, 4, 10]) .leaf) (.node .leaf 103 (.node .leaf 1 (kl 28 [0, 2, 3]) .leaf) .leaf)))))
@[go_sem] def dr_5_4 : List (Bool × List Nat) := [(true, []), (true, []), (false, []), (false, []), (false, []), (false, []), (false, []), (false, []), (false, []), (false, []), (true, []), (true, []), (true, []), (true, []), (true, []), (true, []), (true, []), (true, []), (true, []), (true, []), (true, []), (false, []), (false, []), (false, [])]
@[go_sem] def dr_8_3 : List (Bool × List Nat) := [(true, []), (true, []), (true, []), (true, []), (true, []), (true, []), (true, []), (false, []), (false, [])]
@[go_sem] def dr_8_9 : List (Bool × List Nat) := [(true, []), (true, []), (true, []), (true, []), (true, []), (true, []), (true, []), (false, []), (false, []), (true, []), (true, []), (false, []), (false, [])]
@[go_sem] def dr_8_16 : List (Bool × List Nat) := [(true, []), (true, []), (true, []), (true, [8]), (true, []), (true, [8]), (true, []), (true, []), (false, [3, 5]), (true, []), (true, []), (true, []), (true, []), (false, []), (false, []), (false, []), (false, [])]
@[go_sem] def dr_9_6 : List (Bool × List Nat) := [(false, []), (false, []), (false, []), (false, []), (true, []), (true, []), (true, []), (true, []), (true, []), (true, []), (false, []), (false, []), (false, [])]
@[go_sem] def dr_9_8 : List (Bool × List Nat) := [(true, []), (true, []), (true, []), (true, []), (true, []), (true, []), (false, []), (false, [])]
@[go_sem] def dr_9_13 : List (Bool × List Nat) := [(true, []), (true, []), (true, []), (true, []), (true, []), (false, []), (true, []), (true, []), (false, [12]), (true, []), (true, []), (true, []), (true, [8]), (true, []), (true, []), (true, []), (false, []), (false, []), (false, []), (false, [])]
@[go_sem] def dr_9_14 : List (Bool × List Nat) := [(true, []), (true, []), (true, []), (true, []), (true, []), (true, []), (true, []), (true, []), (false, []), (false, []), (false, [])]
@[go_sem] def dr_10_6 : List (Bool × List Nat) := [(true, []), (true, []), (true, []), (true, []), (true, []), (false, [7, 11, 13]), (true, []), (true, [5]), (true, []), (false, [11, 13]), (true, []), (true, [5, 9, 16]), (true, []), (true, [5, 9, 16, 19]), (true, []), (true, []), (false, [11, 13]), (true, []), (true, []), (false, [13]), (false, []), (false, []), (false, [])]
@[go_sem] def dr_11_13 : List (Bool × List Nat) := [(false, []), (true, []), (true, []), (true, []), (true, []), (true, []), (true, []), (true, []), (true, []), (true, []), (true, []), (true, []), (true, []), (true, []), (false, []), (false, [])]
@[go_sem] def dr_16_3 : List (Bool × List Nat) := [(true, []), (true, []), (true, []), (true, []), (true, [15]), (true, []), (true, []), (true, []), (true, []), (true, [15]), (true, []), (true, []), (true, []), (true, []), (true, []), (false, [4, 9]), (false, []), (false, [])]
@[go_sem] def dr_17_7 : List (Bool × List Nat) := [(true, []), (false, []), (true, []), (true, []), (true, []), (true, []), (true, []), (true, []), (true, []), (true, []), (true, []), (true, []), (true, []), (true, []), (true, []), (true, []), (true, []), (true, []), (true, []), (false, []), (false, []), (false, [])]
@[go_sem] def dr_20_4 : List (Bool × List Nat) := [(false, []), (false, []), (false, []), (false, []), (false, []), (false, []), (false, []), (true, []), (true, []), (true, []), (true, []), (true, []), (true, []), (true, []), (true, []), (false, []), (false, []), (false, [])]
@[go_sem] def dr_30_4 : List (Bool × List Nat) := [(false, []), (false, []), (false, []), (false, []), (false, []), (false, []), (false, []), (false, []), (false, []), (false, []), (false, []), (false, []), (false, []), (false, []), (false, []), (false, []), (false, []), (false, []), (false, []), (false, []), (false, []), (false, []), (true, []), (true, []), (true, []), (true, []), (true, []), (true, []), (true, []), (true, []), (false, []), (false, []), (false, [])]
@[go_sem] def dr_37_1 : List (Bool × List Nat) := [(true, []), (true, []), (true, []), (true, []), (true, []), (true, []), (false, []), (false, [])]
@[go_sem] def dr_38_9 : List (Bool × List Nat) := [(true, []), (true, []), (true, []), (true, []), (true, []), (true, []), (true, []), (true, []), (true, []), (true, []), (true, []), (true, [14]), (true, []), (true, []), (false, [11]), (false, [])]
@[go_sem] def dr_38_12 : List (Bool × List Nat) := [(true, []), (true, []), (true, []), (true, []), (true, []), (true, []), (true, []), (true, []), (true, []), (true, []), (true, []), (true, []), (true, []), (true, []), (false, []), (false, [])]
@[go_sem] def dr_39_3 : List (Bool × List Nat) := [(true, []), (true, []), (true, []), (true, []), (true, []), (true, []), (true, []), (true, []), (true, []), (true, []), (true, []), (true, []), (true, []), (false, []), (false, []), (true, []), (true, []), (true, []), (true, []), (true, []), (false, [])]
@[go_sem] def dr_39_8 : List (Bool × List Nat) := [(true, []), (true, []), (true, []), (true, []), (true, []), (true, []), (true, []), (true, []), (true, []), (true, []), (true, []), (true, []), (true, []), (true, []), (true, []), (true, []), (true, []), (false, []), (true, []), (true, []), (true, []), (true, []), (true, []), (false, [])]
@[go_sem] def dr_39_9 : List (Bool × List Nat) := [(true, []), (true, []), (true, []), (true, []), (false, []), (true, []), (true, []), (true, []), (true, []), (true, []), (true, []), (true, []), (true, []), (false, []), (false, []), (false, []), (false, [])]
@[go_sem] def dr_39_11 : List (Bool × List Nat) := [(true, [7]), (true, []), (true, []), (true, []), (true, []), (true, []), (false, []), (false, [0]), (false, []), (false, []), (false, [])]
@[go_sem] def dr_45_1 : List (Bool × List Nat) := [(false, []), (false, []), (false, []), (false, []), (false, []), (false, []), (true, []), (true, []), (true, []), (true, []), (true, []), (true, []), (true, []), (true, []), (false, []), (false, []), (false, [])]
@[go_sem] def dr_47_1 : List (Bool × List Nat) := [(true, []), (true, []), (true, []), (true, []), (true, []), (true, []), (false, []), (false, [])]
@[go_sem] def dr_53_14 : List (Bool × List Nat) := [(false, []), (false, []), (false, []), (true, []), (true, []), (true, []), (true, []), (true, []), (true, []), (true, []), (true, []), (true, []), (true, []), (false, []), (false, []), (false, []), (true, []), (true, []), (true, []), (true, []), (true, []), (true, []), (true, []), (true, []), (true, []), (true, []), (false, []), (false, []), (false, []), (false, []), (false, []), (false, []), (false, []), (false, []), (false, []), (false, []), (false, [])]
@[go_sem] def dr_68_4 : List (Bool × List Nat) := [(true, []), (true, []), (true, []), (true, []), (true, []), (true, []), (true, []), (true, []), (true, []), (true, []), (true, []), (false, [])]
@[go_sem] def dr_72_17 : List (Bool × List Nat) := [(false, []), (false, []), (false, []), (true, []), (true, []), (true, []), (true, []), (true, []), (true, []), (true, []), (true, []), (true, []), (true, []), (false, []), (false, []), (false, []), (false, [])]
@[go_sem] def dr_78_11 : List (Bool × List Nat) := [(true, []), (true, []), (true, []), (true, []), (true, []), (true, []), (true, []), (false, []), (false, [])]
@[go_sem] def dr_78_15 : List (Bool × List Nat) := [(true, []), (true, []), (true, []), (true, []), (true, []), (true, []), (true, []), (false, []), (false, [])]
@[go_sem] def dr_82_4 : List (Bool × List Nat) := [(true, []), (true, []), (false, []), (false, []), (true, []), (true, []), (true, []), (true, []), (true, []), (true, []), (true, []), (true, []), (true, []), (true, []), (false, []), (false, []), (false, [])]
@[go_sem] def dr_82_6 : List (Bool × List Nat) := [(true, []), (true, []), (true, []), (true, []), (true, []), (true, []), (true, []), (true, []), (true, []), (true, []), (true, []), (true, []), (true, []), (true, []), (true, []), (false, []), (false, []), (false, [])]
@[go_sem] def dr_83_10 : List (Bool × List Nat) := [(true, []), (true, []), (true, []), (true, []), (true, []), (true, []), (true, []), (true, []), (true, []), (true, []), (true, []), (true, []), (true, []), (true, []), (true, []), (true, []), (true, []), (false, []), (false, []), (false, [])]
@[go_sem] def dr_84_10 : List (Bool × List Nat) := [(true, []), (true, []), (true, []), (true, []), (true, []), (true, []), (true, []), (true, []), (true, []), (true, []), (true, []), (true, []), (true, []), (true, []), (true, []), (true, []), (true, []), (false, []), (false, []), (false, [])]
@[go_sem] def dr_86_3 : List (Bool × List Nat) := [(true, []), (true, []), (true, []), (true, []), (true, []), (true, []), (true, []), (true, []), (true, []), (true, []), (true, []), (true, []), (true, []), (false, []), (false, []), (false, [])]
@[go_sem] def dr_87_5 : List (Bool × List Nat) := [(true, []), (true, []), (false, []), (false, []), (true, []), (true, []), (true, []), (true, []), (true, []), (true, []), (true, []), (true, []), (true, []), (true, []), (false, []), (false, []), (false, []), (false, [])]
@[go_sem] def dr_87_11 : List (Bool × List Nat) := [(true, []), (true, []), (true, []), (true, []), (true, []), (true, []), (true, []), (true, []), (true, []), (true, []), (true, []), (true, []), (true, []), (true, []), (true, []), (false, []), (false, []), (false, [])]
@[go_sem] def dr_87_16 : List (Bool × List Nat) := [(true, []), (true, []), (true, []), (true, []), (true, []), (true, []), (true, []), (true, []), (true, []), (true, []), (false, []), (false, []), (false, [])]
@[go_sem] def dr_87_17 : List (Bool × List Nat) := [(true, []), (true, []), (true, []), (true, []), (true, []), (true, []), (true, []), (true, []), (true, []), (true, []), (true, []), (true, []), (true, []), (true, []), (true, []), (false, []), (false, []), (false, [])]
@[go_sem] def dr_87_22 : List (Bool × List Nat) := [(true, []), (true, []), (true, []), (true, []), (true, []), (true, []), (true, []), (true, []), (true, []), (true, []), (false, []), (false, []), (false, [])]
@[go_sem] def dr_87_23 : List (Bool × List Nat) := [(true, []), (true, []), (true, []), (true, []), (true, []), (true, []), (true, []), (true, []), (true, []), (true, []), (true, []), (true, []), (true, []), (true, []), (true, []), (false, []), (false, []), (false, [])]
@[go_sem] def dr_88_1 : List (Bool × List Nat) := [(true, []), (true, []), (true, []), (true, []), (true, []), (true, []), (true, []), (true, []), (true, []), (true, []), (true, []), (true, []), (true, []), (false, []), (false, []), (false, [])]
@[go_sem] def dr_88_3 : List (Bool × List Nat) := [(true, []), (true, []), (false, []), (false, []), (true, []), (true, []), (true, []), (true, []), (true, []), (true, []), (true, []), (true, []), (true, []), (false, []), (false, []), (false, []), (false, [])]
@[go_sem] def dr_88_5 : List (Bool × List Nat) := [(true, []), (true, []), (false, []), (false, []), (true, []), (true, []), (true, []), (true, []), (true, []), (true, []), (true, []), (true, []), (true, []), (false, []), (false, []), (false, [])]
@[go_sem] def dr_88_8 : List (Bool × List Nat) := [(true, []), (true, []), (true, []), (true, []), (true, []), (true, []), (true, []), (true, []), (true, []), (true, []), (true, []), (true, []), (true, []), (false, []), (false, []), (false, [])]
@[go_sem] def dr_89_1 : List (Bool × List Nat) := [(true, []), (true, []), (true, []), (true, []), (true, []), (true, []), (true, []), (true, []), (true, []), (true, []), (true, []), (true, []), (true, []), (false, []), (false, []), (false, [])]
@[go_sem] def dr_89_3 : List (Bool × List Nat) := [(true, []), (true, []), (false, []), (false, []), (true, []), (true, []), (true, []), (true, []), (true, []), (true, []), (true, []), (true, []), (true, []), (false, []), (false, []), (false, [])]
@[go_sem] def dr_89_5 : List (Bool × List Nat) := [(true, []), (true, []), (false, []), (false, []), (true, []), (true, []), (true, []), (true, []), (true, []), (true, []), (true, []), (true, []), (true, []), (false, []), (false, []), (false, []), (false, [])]
@[go_sem] def dr_89_8 : List (Bool × List Nat) := [(true, []), (true, []), (true, []), (true, []), (true, []), (true, []), (true, []), (true, []), (true, []), (true, []), (true, []), (true, []), (true, []), (false, []), (false, []), (false, [])]
@[go_sem] def dr_89_10 : List (Bool × List Nat) := [(true, []), (true, []), (true, []), (true, []), (true, []), (true, []), (true, []), (true, []), (true, []), (true, []), (true, []), (true, []), (true, []), (false, []), (false, []), (false, [])]
@[go_sem] def dr_89_13 : List (Bool × List Nat) := [(true, []), (true, []), (false, []), (false, []), (true, []), (true, []), (true, []), (true, []), (true, []), (true, []), (true, []), (true, []), (true, []), (false, []), (false, []), (false, [])]
@[go_sem] def dr_89_15 : List (Bool × List Nat) := [(true, []), (true, []), (false, []), (false, []), (true, []), (true, []), (true, []), (true, []), (true, []), (true, []), (true, []), (true, []), (true, []), (false, []), (false, []), (false, []), (false, [])]
@[go_sem] def dr_89_18 : List (Bool × List Nat) := [(true, []), (true, []), (true, []), (true, []), (true, []), (true, []), (true, []), (true, []), (true, []), (true, []), (true, []), (true, []), (true, []), (false, []), (false, []), (false, [])]
@[go_sem] def dr_89_21 : List (Bool × List Nat) := [(true, []), (true, []), (true, []), (true, []), (true, []), (true, []), (true, []), (true, []), (true, []), (true, []), (true, []), (true, []), (true, []), (false, []), (false, []), (false, [])]
@[go_sem] def dr_96_3 : List (Bool × List Nat) := [(true, []), (true, []), (true, []), (false, []), (false, []), (true, []), (true, []), (true, []), (true, []), (true, []), (true, []), (true, []), (true, []), (true, []), (true, []), (true, []), (true, []), (true, []), (true, []), (false, []), (false, []), (false, [])]
@[go_sem] def dr_96_5 : List (Bool × List Nat) := [(true, []), (true, []), (true, []), (true, []), (true, []), (true, []), (true, []), (true, []), (true, []), (true, []), (true, []), (true, []), (true, []), (false, []), (false, []), (false, [])]
@[go_sem] def dr_96_6 : List (Bool × List Nat) := [(true, []), (true, []), (true, []), (true, []), (true, []), (true, []), (true, []), (true, []), (true, []), (true, []), (true, []), (true, []), (true, []), (true, []), (true, []), (true, []), (true, []), (true, []), (true, []), (true, []), (true, []), (false, []), (false, []), (false, [])]
@[go_sem] def dr_98_1 : List (Bool × List Nat) := [(true, []), (true, []), (true, []), (true, []), (true, []), (true, []), (true, []), (false, []), (false, []), (false, [])]
@[go_sem] def dr_98_2 : List (Bool × List Nat) := [(true, []), (true, []), (true, []), (true, []), (true, []), (true, []), (true, []), (false, []), (false, []), (false, [])]
@[go_sem] def dr_98_3 : List (Bool × List Nat) := [(true, []), (true, []), (true, []), (true, []), (true, []), (true, []), (true, []), (false, []), (false, []), (false, [])]
@[go_sem] def dr_102_1 : List (Bool × List Nat) := [(true, []), (true, []), (true, []), (true, []), (true, []), (true, []), (true, []), (true, []), (true, []), (false, []), (false, [])]
@[go_sem] def dr_103_3 : List (Bool × List Nat) := [(true, []), (true, []), (true, []), (true, []), (true, []), (true, []), (true, []), (true, []), (true, []), (true, []), (true, []), (true, []), (true, []), (false, []), (false, []), (false, [])]
def exts : List Nat := []
noncomputable def draws : Tree (Tree (List (Bool × List Nat))) :=
  (.node (.node (.node (.node (.node .leaf 5 (.node .leaf 4 dr_5_4 .leaf) .leaf) 8 (.node (.node .leaf 3 dr_8_3 .leaf) 9 dr_8_9 (.node .leaf 16 dr_8_16 .leaf)) (.node .leaf 9 (.node (.node (.node .leaf 6 dr_9_6 .leaf) 8 dr_9_8 .leaf) 13 dr_9_13 (.node .leaf 14 dr_9_14 .leaf)) .leaf)) 10 (.node .leaf 6 dr_10_6 .leaf) (.node (.node .leaf 11 (.node .leaf 13 dr_11_13 .leaf) .leaf) 16 (.node .leaf 3 dr_16_3 .leaf) (.node .leaf 17 (.node .leaf 7 dr_17_7 .leaf) .leaf))) 20 (.node .leaf 4 dr_20_4 .leaf) (.node (.node (.node .leaf 30 (.node .leaf 4 dr_30_4 .leaf) .leaf) 37 (.node .leaf 1 dr_37_1 .leaf) (.node .leaf 38 (.node (.node .leaf 9 dr_38_9 .leaf) 12 dr_38_12 .leaf) .leaf)) 39 (.node (.node (.node .leaf 3 dr_39_3 .leaf) 8 dr_39_8 .leaf) 9 dr_39_9 (.node .leaf 11 dr_39_11 .leaf)) (.node (.node .leaf 45 (.node .leaf 1 dr_45_1 .leaf) .leaf) 47 (.node .leaf 1 dr_47_1 .leaf) .leaf))) 53 (.node .leaf 14 dr_53_14 .leaf) (.node (.node (.node (.node .leaf 68 (.node .leaf 4 dr_68_4 .leaf) .leaf) 72 (.node .leaf 17 dr_72_17 .leaf) (.node .leaf 78 (.node (.node .leaf 11 dr_78_11 .leaf) 15 dr_78_15 .leaf) .leaf)) 82 (.node (.node .leaf 4 dr_82_4 .leaf) 6 dr_82_6 .leaf) (.node (.node .leaf 83 (.node .leaf 10 dr_83_10 .leaf) .leaf) 84 (.node .leaf 10 dr_84_10 .leaf) (.node .leaf 86 (.node .leaf 3 dr_86_3 .leaf) .leaf))) 87 (.node (.node (.node .leaf 5 dr_87_5 .leaf) 11 dr_87_11 (.node .leaf 16 dr_87_16 .leaf)) 17 dr_87_17 (.node (.node .leaf 22 dr_87_22 .leaf) 23 dr_87_23 .leaf)) (.node (.node (.node .leaf 88 (.node (.node (.node .leaf 1 dr_88_1 .leaf) 3 dr_88_3 .leaf) 5 dr_88_5 (.node .leaf 8 dr_88_8 .leaf)) .leaf) 89 (.node (.node (.node (.node .leaf 1 dr_89_1 .leaf) 3 dr_89_3 .leaf) 5 dr_89_5 (.node .leaf 8 dr_89_8 .leaf)) 10 dr_89_10 (.node (.node (.node .leaf 13 dr_89_13 .leaf) 15 dr_89_15 .leaf) 18 dr_89_18 (.node .leaf 21 dr_89_21 .leaf))) (.node .leaf 96 (.node (.node .leaf 3 dr_96_3 .leaf) 5 dr_96_5 (.node .leaf 6 dr_96_6 .leaf)) .leaf)) 98 (.node (.node .leaf 1 dr_98_1 .leaf) 2 dr_98_2 (.node .leaf 3 dr_98_3 .leaf)) (.node (.node .leaf 102 (.node .leaf 1 dr_102_1 .leaf) .leaf) 103 (.node .leaf 3 dr_103_3 .leaf) .leaf))))
def inpls : List Nat := [49, 50, 51, 58, 71, 78]
def births : List Nat := [50, 51]
def clms : List Nat := [29]
def solos : List Nat := []
def nilts : List Nat := [32, 66, 76]
def nilbs : Nat → Nat → Bool := fun k c => (k == 66 && c == 1) || (k == 32 && c == 33) || (k == 76 && c == 17185)
def srts : List (Nat × Nat × TypeId × Nat) := [(59, 60, 56, 0)]
def clns : List (Nat × TypeId) := [(21, 35), (25, 30), (29, 22), (52, 27)]
noncomputable def frzs : Tree (Tree (List (Nat × Nat))) :=
  (.node (.node .leaf 49 (.node .leaf 4 [(1, 6)] .leaf) .leaf) 51 (.node .leaf 20 [(1, 6)] .leaf) .leaf)
noncomputable def cfg : Cfg := { fn := fns.find, ty := tys.find, kill := fun f l => match kills.find f with | some t => (t.find l).getD [] | none => [], draw := fun f l => match draws.find f with | some t => (t.find l).getD [] | none => [], ext := exts.contains, inpl := inpls.contains, birth := births.contains, frz := fun f l => match frzs.find f with | some t => (t.find l).getD [] | none => [], solo := solos.contains, cln := clnAt clns, nilB := nilbs, nilT := nilts.contains, srt := srtAt srts, clm := clms.contains }
@[go_sem] theorem ext_all {k : Nat} : cfg.ext k = (false) := by simp only [cfg, exts, List.contains_cons, List.contains_nil, Bool.or_false]
@[go_sem] theorem inpl_all {k : Nat} : cfg.inpl k = (k == 49 || (k == 50 || (k == 51 || (k == 58 || (k == 71 || (k == 78)))))) := by simp only [cfg, inpls, List.contains_cons, List.contains_nil, Bool.or_false]
@[go_sem] theorem birth_all {k : Nat} : cfg.birth k = (k == 50 || (k == 51)) := by simp only [cfg, births, List.contains_cons, List.contains_nil, Bool.or_false]
@[go_sem] theorem solo_all {k : Nat} : cfg.solo k = (false) := by simp only [cfg, solos, List.contains_cons, List.contains_nil, Bool.or_false]
@[go_sem] theorem nilt_all {k : Nat} : cfg.nilT k = (k == 32 || (k == 66 || (k == 76))) := by simp only [cfg, nilts, List.contains_cons, List.contains_nil, Bool.or_false]
@[go_sem] theorem clm_all {k : Nat} : cfg.clm k = (k == 29) := by simp only [cfg, clms, List.contains_cons, List.contains_nil, Bool.or_false]
@[go_sem] theorem nilb_all {k c : Nat} : cfg.nilB k c = ((k == 66 && c == 1) || (k == 32 && c == 33) || (k == 76 && c == 17185)) := rfl
theorem fn_59 : cfg.fn 59 = none := rfl
theorem fn_21 : cfg.fn 21 = none := rfl
theorem cln_21 : cfg.cln 21 = some 35 := rfl
theorem fn_25 : cfg.fn 25 = none := rfl
theorem cln_25 : cfg.cln 25 = some 30 := rfl
theorem fn_29 : cfg.fn 29 = none := rfl
theorem cln_29 : cfg.cln 29 = some 22 := rfl
theorem fn_52 : cfg.fn 52 = none := rfl
theorem cln_52 : cfg.cln 52 = some 27 := rfl
theorem fn_2 : cfg.fn 2 = some Try.f2 := rfl
theorem fn_3 : cfg.fn 3 = some Try.f3 := rfl
theorem fn_4 : cfg.fn 4 = some Try.f4 := rfl
theorem fn_5 : cfg.fn 5 = some Try.f5 := rfl
theorem fn_6 : cfg.fn 6 = some Try.f6 := rfl
theorem fn_7 : cfg.fn 7 = some Try.f7 := rfl
theorem fn_8 : cfg.fn 8 = some Try.f8 := rfl
theorem fn_9 : cfg.fn 9 = some Try.f9 := rfl
theorem fn_10 : cfg.fn 10 = some Try.f10 := rfl
theorem fn_11 : cfg.fn 11 = some Try.f11 := rfl
theorem fn_12 : cfg.fn 12 = some Try.f12 := rfl
theorem fn_13 : cfg.fn 13 = some Try.f13 := rfl
theorem fn_14 : cfg.fn 14 = some Try.f14 := rfl
theorem fn_15 : cfg.fn 15 = some Try.f15 := rfl
theorem fn_16 : cfg.fn 16 = some Try.f16 := rfl
theorem fn_17 : cfg.fn 17 = some Try.f17 := rfl
theorem fn_18 : cfg.fn 18 = some Try.f18 := rfl
theorem fn_19 : cfg.fn 19 = some Try.f19 := rfl
theorem fn_20 : cfg.fn 20 = some Try.f20 := rfl
theorem fn_22 : cfg.fn 22 = some Try.f22 := rfl
theorem fn_23 : cfg.fn 23 = some Try.f23 := rfl
theorem fn_24 : cfg.fn 24 = some Try.f24 := rfl
theorem fn_26 : cfg.fn 26 = some Try.f26 := rfl
theorem fn_27 : cfg.fn 27 = some Try.f27 := rfl
theorem fn_28 : cfg.fn 28 = some Try.f28 := rfl
theorem fn_30 : cfg.fn 30 = some Try.f30 := rfl
theorem fn_31 : cfg.fn 31 = some Try.f31 := rfl
theorem fn_32 : cfg.fn 32 = some Try.f32 := rfl
theorem fn_33 : cfg.fn 33 = some Try.f33 := rfl
theorem fn_34 : cfg.fn 34 = some Try.f34 := rfl
theorem fn_35 : cfg.fn 35 = some Try.f35 := rfl
theorem fn_36 : cfg.fn 36 = some Try.f36 := rfl
theorem fn_37 : cfg.fn 37 = some Try.f37 := rfl
theorem fn_38 : cfg.fn 38 = some Try.f38 := rfl
theorem fn_39 : cfg.fn 39 = some Try.f39 := rfl
theorem fn_40 : cfg.fn 40 = some Try.f40 := rfl
theorem fn_41 : cfg.fn 41 = some Try.f41 := rfl
theorem fn_42 : cfg.fn 42 = some Try.f42 := rfl
theorem fn_43 : cfg.fn 43 = some Try.f43 := rfl
theorem fn_44 : cfg.fn 44 = some Try.f44 := rfl
theorem fn_45 : cfg.fn 45 = some Try.f45 := rfl
theorem fn_46 : cfg.fn 46 = some Try.f46 := rfl
theorem fn_47 : cfg.fn 47 = some Try.f47 := rfl
theorem fn_48 : cfg.fn 48 = some Try.f48 := rfl
theorem fn_49 : cfg.fn 49 = some Try.f49 := rfl
theorem fn_50 : cfg.fn 50 = some Try.f50 := rfl
theorem fn_51 : cfg.fn 51 = some Try.f51 := rfl
theorem fn_53 : cfg.fn 53 = some Try.f53 := rfl
theorem fn_54 : cfg.fn 54 = some Try.f54 := rfl
theorem fn_55 : cfg.fn 55 = some Try.f55 := rfl
theorem fn_56 : cfg.fn 56 = some Try.f56 := rfl
theorem fn_57 : cfg.fn 57 = some Try.f57 := rfl
theorem fn_58 : cfg.fn 58 = some Try.f58 := rfl
theorem fn_60 : cfg.fn 60 = some Try.f60 := rfl
theorem fn_61 : cfg.fn 61 = some Try.f61 := rfl
theorem fn_62 : cfg.fn 62 = some Try.f62 := rfl
theorem fn_63 : cfg.fn 63 = some Try.f63 := rfl
theorem fn_64 : cfg.fn 64 = some Try.f64 := rfl
theorem fn_65 : cfg.fn 65 = some Try.f65 := rfl
theorem fn_66 : cfg.fn 66 = some Try.f66 := rfl
theorem fn_67 : cfg.fn 67 = some Try.f67 := rfl
theorem fn_68 : cfg.fn 68 = some Try.f68 := rfl
theorem fn_69 : cfg.fn 69 = some Try.f69 := rfl
theorem fn_70 : cfg.fn 70 = some Try.f70 := rfl
theorem fn_71 : cfg.fn 71 = some Try.f71 := rfl
theorem fn_72 : cfg.fn 72 = some Try.f72 := rfl
theorem fn_73 : cfg.fn 73 = some Try.f73 := rfl
theorem fn_74 : cfg.fn 74 = some Try.f74 := rfl
theorem fn_75 : cfg.fn 75 = some Try.f75 := rfl
theorem fn_76 : cfg.fn 76 = some Try.f76 := rfl
theorem fn_77 : cfg.fn 77 = some Try.f77 := rfl
theorem fn_78 : cfg.fn 78 = some Try.f78 := rfl
theorem fn_79 : cfg.fn 79 = some Try.f79 := rfl
theorem fn_80 : cfg.fn 80 = some Try.f80 := rfl
theorem fn_81 : cfg.fn 81 = some Try.f81 := rfl
theorem fn_82 : cfg.fn 82 = some Try.f82 := rfl
theorem fn_83 : cfg.fn 83 = some Try.f83 := rfl
theorem fn_84 : cfg.fn 84 = some Try.f84 := rfl
theorem fn_85 : cfg.fn 85 = some Try.f85 := rfl
theorem fn_86 : cfg.fn 86 = some Try.f86 := rfl
theorem fn_87 : cfg.fn 87 = some Try.f87 := rfl
theorem fn_88 : cfg.fn 88 = some Try.f88 := rfl
theorem fn_89 : cfg.fn 89 = some Try.f89 := rfl
theorem fn_90 : cfg.fn 90 = some Try.f90 := rfl
theorem fn_91 : cfg.fn 91 = some Try.f91 := rfl
theorem fn_92 : cfg.fn 92 = some Try.f92 := rfl
theorem fn_93 : cfg.fn 93 = some Try.f93 := rfl
theorem fn_95 : cfg.fn 95 = some Try.f95 := rfl
theorem fn_96 : cfg.fn 96 = some Try.f96 := rfl
theorem fn_97 : cfg.fn 97 = some Try.f97 := rfl
theorem fn_98 : cfg.fn 98 = some Try.f98 := rfl
theorem fn_99 : cfg.fn 99 = some Try.f99 := rfl
theorem fn_100 : cfg.fn 100 = some Try.f100 := rfl
theorem fn_101 : cfg.fn 101 = some Try.f101 := rfl
theorem fn_102 : cfg.fn 102 = some Try.f102 := rfl
theorem fn_103 : cfg.fn 103 = some Try.f103 := rfl
@[go_sem] theorem ty_1 : cfg.ty 1 = some ⟨.func, 1, 8, [.nilf]⟩ := rfl
@[go_sem] theorem ty_2 : cfg.ty 2 = some ⟨(.int .i64), 1, 8, [.int .i64 0]⟩ := rfl
@[go_sem] theorem ty_3 : cfg.ty 3 = some ⟨(.int .i64), 1, 8, [.int .i64 0]⟩ := rfl
@[go_sem] theorem ty_4 : cfg.ty 4 = some ⟨.bool, 1, 1, [.bool false]⟩ := rfl
@[go_sem] theorem ty_5 : cfg.ty 5 = some ⟨(.int .u8), 1, 1, [.int .u8 0]⟩ := rfl
@[go_sem] theorem ty_7 : cfg.ty 7 = some ⟨(.struct false [(0, 2), (1, 3), (2, 4), (3, 6)]), 4, 24, [.int .i64 0, .int .i64 0, .bool false, .int .u8 0]⟩ := rfl
@[go_sem] theorem ty_8 : cfg.ty 8 = some ⟨(.struct false [(0, 2), (1, 3), (2, 4), (3, 6)]), 4, 24, [.int .i64 0, .int .i64 0, .bool false, .int .u8 0]⟩ := rfl
@[go_sem] theorem ty_9 : cfg.ty 9 = some ⟨.str, 1, 16, [.str []]⟩ := rfl
@[go_sem] theorem ty_10 : cfg.ty 10 = some ⟨.str, 1, 16, [.str []]⟩ := rfl
@[go_sem] theorem ty_11 : cfg.ty 11 = some ⟨.str, 1, 16, [.str []]⟩ := rfl
@[go_sem] theorem ty_12 : cfg.ty 12 = some ⟨(.int .u64), 1, 8, [.int .u64 0]⟩ := rfl
@[go_sem] theorem ty_13 : cfg.ty 13 = some ⟨(.struct false [(0, 9), (1, 12)]), 2, 24, [.str [], .int .u64 0]⟩ := rfl
@[go_sem] theorem ty_14 : cfg.ty 14 = some ⟨(.struct false [(0, 9), (1, 12)]), 2, 24, [.str [], .int .u64 0]⟩ := rfl
@[go_sem] theorem ty_15 : cfg.ty 15 = some ⟨(.ptr 155), 1, 8, [.nilp]⟩ := rfl
@[go_sem] theorem ty_16 : cfg.ty 16 = some ⟨(.ptr 158), 1, 8, [.nilp]⟩ := rfl
@[go_sem] theorem ty_17 : cfg.ty 17 = some ⟨(.ptr 166), 1, 8, [.nilp]⟩ := rfl
@[go_sem] theorem ty_18 : cfg.ty 18 = some ⟨(.struct false [(0, 17)]), 1, 8, [.nilp]⟩ := rfl
@[go_sem] theorem ty_19 : cfg.ty 19 = some ⟨(.struct false [(0, 17)]), 1, 8, [.nilp]⟩ := rfl
@[go_sem] theorem ty_21 : cfg.ty 21 = some ⟨(.int .i32), 1, 4, [.int .i32 0]⟩ := rfl
@[go_sem] theorem ty_22 : cfg.ty 22 = some ⟨(.slice 56), 1, 24, [.sl true []]⟩ := rfl
@[go_sem] theorem ty_23 : cfg.ty 23 = some ⟨(.struct true [(0, 3), (1, 3)]), 2, 16, [.int .i64 0, .int .i64 0]⟩ := rfl
@[go_sem] theorem ty_24 : cfg.ty 24 = some ⟨(.struct true [(0, 3), (1, 3)]), 2, 16, [.int .i64 0, .int .i64 0]⟩ := rfl
@[go_sem] theorem ty_25 : cfg.ty 25 = some ⟨(.struct true [(0, 3), (1, 3), (2, 3), (3, 22), (4, 24), (6, 3)]), 7, 72, [.int .i64 0, .int .i64 0, .int .i64 0, .sl true [], .int .i64 0, .int .i64 0, .int .i64 0]⟩ := rfl
@[go_sem] theorem ty_26 : cfg.ty 26 = some ⟨(.struct true [(0, 3), (1, 3), (2, 3), (3, 22), (4, 24), (6, 3)]), 7, 72, [.int .i64 0, .int .i64 0, .int .i64 0, .sl true [], .int .i64 0, .int .i64 0, .int .i64 0]⟩ := rfl
@[go_sem] theorem ty_27 : cfg.ty 27 = some ⟨(.slice 59), 1, 24, [.sl true []]⟩ := rfl
@[go_sem] theorem ty_28 : cfg.ty 28 = some ⟨(.slice 168), 1, 24, [.sl true []]⟩ := rfl
@[go_sem] theorem ty_29 : cfg.ty 29 = some ⟨(.slice 171), 1, 24, [.sl true []]⟩ := rfl
@[go_sem] theorem ty_30 : cfg.ty 30 = some ⟨(.slice 69), 1, 24, [.sl true []]⟩ := rfl
@[go_sem] theorem ty_31 : cfg.ty 31 = some ⟨(.struct true [(0, 3), (1, 3), (2, 30)]), 3, 40, [.int .i64 0, .int .i64 0, .sl true []]⟩ := rfl
@[go_sem] theorem ty_32 : cfg.ty 32 = some ⟨(.struct true [(0, 3), (1, 3), (2, 30)]), 3, 40, [.int .i64 0, .int .i64 0, .sl true []]⟩ := rfl
@[go_sem] theorem ty_33 : cfg.ty 33 = some ⟨(.struct true [(0, 3), (1, 3), (2, 3), (3, 3), (4, 3), (5, 3), (6, 3), (7, 4), (8, 4), (9, 26), (16, 22), (17, 27), (18, 28), (19, 29), (20, 32)]), 23, 272, [.int .i64 0, .int .i64 0, .int .i64 0, .int .i64 0, .int .i64 0, .int .i64 0, .int .i64 0, .bool false, .bool false, .int .i64 0, .int .i64 0, .int .i64 0, .sl true [], .int .i64 0, .int .i64 0, .int .i64 0, .sl true [], .sl true [], .sl true [], .sl true [], .int .i64 0, .int .i64 0, .sl true []]⟩ := rfl
@[go_sem] theorem ty_34 : cfg.ty 34 = some ⟨(.struct true [(0, 3), (1, 3), (2, 3), (3, 3), (4, 3), (5, 3), (6, 3), (7, 4), (8, 4), (9, 26), (16, 22), (17, 27), (18, 28), (19, 29), (20, 32)]), 23, 272, [.int .i64 0, .int .i64 0, .int .i64 0, .int .i64 0, .int .i64 0, .int .i64 0, .int .i64 0, .bool false, .bool false, .int .i64 0, .int .i64 0, .int .i64 0, .sl true [], .int .i64 0, .int .i64 0, .int .i64 0, .sl true [], .sl true [], .sl true [], .sl true [], .int .i64 0, .int .i64 0, .sl true []]⟩ := rfl
@[go_sem] theorem ty_35 : cfg.ty 35 = some ⟨(.slice 24), 1, 24, [.sl true []]⟩ := rfl
@[go_sem] theorem ty_36 : cfg.ty 36 = some ⟨(.ptr 66), 1, 8, [.nilp]⟩ := rfl
@[go_sem] theorem ty_37 : cfg.ty 37 = some ⟨.func, 1, 8, [.nilf]⟩ := rfl
@[go_sem] theorem ty_38 : cfg.ty 38 = some ⟨.func, 1, 8, [.nilf]⟩ := rfl
@[go_sem] theorem ty_39 : cfg.ty 39 = some ⟨(.slice 61), 1, 24, [.sl true []]⟩ := rfl
@[go_sem] theorem ty_40 : cfg.ty 40 = some ⟨.func, 1, 8, [.nilf]⟩ := rfl
@[go_sem] theorem ty_41 : cfg.ty 41 = some ⟨.func, 1, 8, [.nilf]⟩ := rfl
@[go_sem] theorem ty_42 : cfg.ty 42 = some ⟨(.int .i64), 1, 8, [.int .i64 0]⟩ := rfl
@[go_sem] theorem ty_43 : cfg.ty 43 = some ⟨.func, 1, 8, [.nilf]⟩ := rfl
@[go_sem] theorem ty_44 : cfg.ty 44 = some ⟨.func, 1, 8, [.nilf]⟩ := rfl
@[go_sem] theorem ty_45 : cfg.ty 45 = some ⟨(.slice 34), 1, 24, [.sl true []]⟩ := rfl
@[go_sem] theorem ty_46 : cfg.ty 46 = some ⟨.func, 1, 8, [.nilf]⟩ := rfl
@[go_sem] theorem ty_47 : cfg.ty 47 = some ⟨.func, 1, 8, [.nilf]⟩ := rfl
@[go_sem] theorem ty_48 : cfg.ty 48 = some ⟨.func, 1, 8, [.nilf]⟩ := rfl
@[go_sem] theorem ty_49 : cfg.ty 49 = some ⟨.func, 1, 8, [.nilf]⟩ := rfl
@[go_sem] theorem ty_50 : cfg.ty 50 = some ⟨.func, 1, 8, [.nilf]⟩ := rfl
@[go_sem] theorem ty_51 : cfg.ty 51 = some ⟨.func, 1, 8, [.nilf]⟩ := rfl
@[go_sem] theorem ty_52 : cfg.ty 52 = some ⟨.func, 1, 8, [.nilf]⟩ := rfl
@[go_sem] theorem ty_54 : cfg.ty 54 = some ⟨.func, 1, 8, [.nilf]⟩ := rfl
@[go_sem] theorem ty_55 : cfg.ty 55 = some ⟨(.struct true [(0, 3), (1, 3)]), 2, 16, [.int .i64 0, .int .i64 0]⟩ := rfl
@[go_sem] theorem ty_56 : cfg.ty 56 = some ⟨(.struct true [(0, 3), (1, 3)]), 2, 16, [.int .i64 0, .int .i64 0]⟩ := rfl
@[go_sem] theorem ty_57 : cfg.ty 57 = some ⟨.func, 1, 8, [.nilf]⟩ := rfl
@[go_sem] theorem ty_58 : cfg.ty 58 = some ⟨(.struct true [(0, 26), (7, 3), (8, 4)]), 9, 88, [.int .i64 0, .int .i64 0, .int .i64 0, .sl true [], .int .i64 0, .int .i64 0, .int .i64 0, .int .i64 0, .bool false]⟩ := rfl
@[go_sem] theorem ty_59 : cfg.ty 59 = some ⟨(.struct true [(0, 26), (7, 3), (8, 4)]), 9, 88, [.int .i64 0, .int .i64 0, .int .i64 0, .sl true [], .int .i64 0, .int .i64 0, .int .i64 0, .int .i64 0, .bool false]⟩ := rfl
@[go_sem] theorem ty_60 : cfg.ty 60 = some ⟨.func, 1, 8, [.nilf]⟩ := rfl
@[go_sem] theorem ty_61 : cfg.ty 61 = some ⟨(.struct true [(0, 3), (1, 3)]), 2, 16, [.int .i64 0, .int .i64 0]⟩ := rfl
@[go_sem] theorem ty_62 : cfg.ty 62 = some ⟨.func, 1, 8, [.nilf]⟩ := rfl
@[go_sem] theorem ty_63 : cfg.ty 63 = some ⟨.func, 1, 8, [.nilf]⟩ := rfl
@[go_sem] theorem ty_64 : cfg.ty 64 = some ⟨(.slice 72), 1, 24, [.sl true []]⟩ := rfl
@[go_sem] theorem ty_65 : cfg.ty 65 = some ⟨(.struct true [(0, 35), (1, 3), (2, 22), (3, 32), (6, 64), (7, 27)]), 8, 144, [.sl true [], .int .i64 0, .sl true [], .int .i64 0, .int .i64 0, .sl true [], .sl true [], .sl true []]⟩ := rfl
@[go_sem] theorem ty_66 : cfg.ty 66 = some ⟨(.struct true [(0, 35), (1, 3), (2, 22), (3, 32), (6, 64), (7, 27)]), 8, 144, [.sl true [], .int .i64 0, .sl true [], .int .i64 0, .int .i64 0, .sl true [], .sl true [], .sl true []]⟩ := rfl
@[go_sem] theorem ty_67 : cfg.ty 67 = some ⟨.func, 1, 8, [.nilf]⟩ := rfl
@[go_sem] theorem ty_68 : cfg.ty 68 = some ⟨(.struct true [(0, 3), (1, 24), (3, 3)]), 4, 32, [.int .i64 0, .int .i64 0, .int .i64 0, .int .i64 0]⟩ := rfl
@[go_sem] theorem ty_69 : cfg.ty 69 = some ⟨(.struct true [(0, 3), (1, 24), (3, 3)]), 4, 32, [.int .i64 0, .int .i64 0, .int .i64 0, .int .i64 0]⟩ := rfl
@[go_sem] theorem ty_71 : cfg.ty 71 = some ⟨.func, 1, 8, [.nilf]⟩ := rfl
@[go_sem] theorem ty_72 : cfg.ty 72 = some ⟨(.ptr 76), 1, 8, [.nilp]⟩ := rfl
@[go_sem] theorem ty_73 : cfg.ty 73 = some ⟨.func, 1, 8, [.nilf]⟩ := rfl
@[go_sem] theorem ty_74 : cfg.ty 74 = some ⟨(.ptr 83), 1, 8, [.nilp]⟩ := rfl
@[go_sem] theorem ty_75 : cfg.ty 75 = some ⟨(.struct true [(0, 69), (4, 35), (5, 3), (6, 3), (7, 27), (8, 74)]), 9, 104, [.int .i64 0, .int .i64 0, .int .i64 0, .int .i64 0, .sl true [], .int .i64 0, .int .i64 0, .sl true [], .nilp]⟩ := rfl
@[go_sem] theorem ty_76 : cfg.ty 76 = some ⟨(.struct true [(0, 69), (4, 35), (5, 3), (6, 3), (7, 27), (8, 74)]), 9, 104, [.int .i64 0, .int .i64 0, .int .i64 0, .int .i64 0, .sl true [], .int .i64 0, .int .i64 0, .sl true [], .nilp]⟩ := rfl
@[go_sem] theorem ty_77 : cfg.ty 77 = some ⟨.func, 1, 8, [.nilf]⟩ := rfl
@[go_sem] theorem ty_78 : cfg.ty 78 = some ⟨.func, 1, 8, [.nilf]⟩ := rfl
@[go_sem] theorem ty_79 : cfg.ty 79 = some ⟨.func, 1, 8, [.nilf]⟩ := rfl
@[go_sem] theorem ty_80 : cfg.ty 80 = some ⟨.func, 1, 8, [.nilf]⟩ := rfl
@[go_sem] theorem ty_81 : cfg.ty 81 = some ⟨.func, 1, 8, [.nilf]⟩ := rfl
@[go_sem] theorem ty_82 : cfg.ty 82 = some ⟨(.struct true [(0, 22), (1, 3)]), 2, 32, [.sl true [], .int .i64 0]⟩ := rfl
@[go_sem] theorem ty_83 : cfg.ty 83 = some ⟨(.struct true [(0, 22), (1, 3)]), 2, 32, [.sl true [], .int .i64 0]⟩ := rfl
@[go_sem] theorem ty_84 : cfg.ty 84 = some ⟨.func, 1, 8, [.nilf]⟩ := rfl
@[go_sem] theorem ty_85 : cfg.ty 85 = some ⟨.func, 1, 8, [.nilf]⟩ := rfl
@[go_sem] theorem ty_86 : cfg.ty 86 = some ⟨.func, 1, 8, [.nilf]⟩ := rfl
@[go_sem] theorem ty_87 : cfg.ty 87 = some ⟨.func, 1, 8, [.nilf]⟩ := rfl
@[go_sem] theorem ty_88 : cfg.ty 88 = some ⟨.func, 1, 8, [.nilf]⟩ := rfl
@[go_sem] theorem ty_89 : cfg.ty 89 = some ⟨.func, 1, 8, [.nilf]⟩ := rfl
@[go_sem] theorem ty_90 : cfg.ty 90 = some ⟨.func, 1, 8, [.nilf]⟩ := rfl
@[go_sem] theorem ty_92 : cfg.ty 92 = some ⟨.func, 1, 8, [.nilf]⟩ := rfl
@[go_sem] theorem ty_93 : cfg.ty 93 = some ⟨.func, 1, 8, [.nilf]⟩ := rfl
@[go_sem] theorem ty_94 : cfg.ty 94 = some ⟨.func, 1, 8, [.nilf]⟩ := rfl
@[go_sem] theorem ty_95 : cfg.ty 95 = some ⟨.func, 1, 8, [.nilf]⟩ := rfl
@[go_sem] theorem ty_96 : cfg.ty 96 = some ⟨.func, 1, 8, [.nilf]⟩ := rfl
@[go_sem] theorem ty_97 : cfg.ty 97 = some ⟨.func, 1, 8, [.nilf]⟩ := rfl
@[go_sem] theorem ty_98 : cfg.ty 98 = some ⟨.func, 1, 8, [.nilf]⟩ := rfl
@[go_sem] theorem ty_99 : cfg.ty 99 = some ⟨.func, 1, 8, [.nilf]⟩ := rfl
@[go_sem] theorem ty_100 : cfg.ty 100 = some ⟨.func, 1, 8, [.nilf]⟩ := rfl
@[go_sem] theorem ty_101 : cfg.ty 101 = some ⟨.func, 1, 8, [.nilf]⟩ := rfl
@[go_sem] theorem ty_103 : cfg.ty 103 = some ⟨.func, 1, 8, [.nilf]⟩ := rfl
@[go_sem] theorem ty_104 : cfg.ty 104 = some ⟨.func, 1, 8, [.nilf]⟩ := rfl
@[go_sem] theorem ty_106 : cfg.ty 106 = some ⟨.func, 1, 8, [.nilf]⟩ := rfl
@[go_sem] theorem ty_107 : cfg.ty 107 = some ⟨.func, 1, 8, [.nilf]⟩ := rfl
@[go_sem] theorem ty_108 : cfg.ty 108 = some ⟨.func, 1, 8, [.nilf]⟩ := rfl
@[go_sem] theorem ty_109 : cfg.ty 109 = some ⟨.func, 1, 8, [.nilf]⟩ := rfl
@[go_sem] theorem ty_110 : cfg.ty 110 = some ⟨.func, 1, 8, [.nilf]⟩ := rfl
@[go_sem] theorem ty_111 : cfg.ty 111 = some ⟨.func, 1, 8, [.nilf]⟩ := rfl
@[go_sem] theorem ty_112 : cfg.ty 112 = some ⟨.func, 1, 8, [.nilf]⟩ := rfl
@[go_sem] theorem ty_113 : cfg.ty 113 = some ⟨.func, 1, 8, [.nilf]⟩ := rfl
@[go_sem] theorem ty_114 : cfg.ty 114 = some ⟨.func, 1, 8, [.nilf]⟩ := rfl
@[go_sem] theorem ty_115 : cfg.ty 115 = some ⟨.func, 1, 8, [.nilf]⟩ := rfl
@[go_sem] theorem ty_116 : cfg.ty 116 = some ⟨.func, 1, 8, [.nilf]⟩ := rfl
@[go_sem] theorem ty_117 : cfg.ty 117 = some ⟨.func, 1, 8, [.nilf]⟩ := rfl
@[go_sem] theorem ty_118 : cfg.ty 118 = some ⟨.func, 1, 8, [.nilf]⟩ := rfl
@[go_sem] theorem ty_119 : cfg.ty 119 = some ⟨.func, 1, 8, [.nilf]⟩ := rfl
@[go_sem] theorem ty_120 : cfg.ty 120 = some ⟨(.slice 22), 1, 24, [.sl true []]⟩ := rfl
@[go_sem] theorem ty_121 : cfg.ty 121 = some ⟨.func, 1, 8, [.nilf]⟩ := rfl
@[go_sem] theorem ty_122 : cfg.ty 122 = some ⟨.func, 1, 8, [.nilf]⟩ := rfl
@[go_sem] theorem ty_123 : cfg.ty 123 = some ⟨.func, 1, 8, [.nilf]⟩ := rfl
@[go_sem] theorem ty_124 : cfg.ty 124 = some ⟨(.int .u64), 1, 8, [.int .u64 0]⟩ := rfl
@[go_sem] theorem ty_125 : cfg.ty 125 = some ⟨.func, 1, 8, [.nilf]⟩ := rfl
@[go_sem] theorem ty_126 : cfg.ty 126 = some ⟨.func, 1, 8, [.nilf]⟩ := rfl
@[go_sem] theorem ty_127 : cfg.ty 127 = some ⟨.func, 1, 8, [.nilf]⟩ := rfl
@[go_sem] theorem ty_128 : cfg.ty 128 = some ⟨.func, 1, 8, [.nilf]⟩ := rfl
@[go_sem] theorem ty_129 : cfg.ty 129 = some ⟨(.int .i64), 1, 8, [.int .i64 0]⟩ := rfl
@[go_sem] theorem ty_131 : cfg.ty 131 = some ⟨.func, 1, 8, [.nilf]⟩ := rfl
@[go_sem] theorem ty_132 : cfg.ty 132 = some ⟨.func, 1, 8, [.nilf]⟩ := rfl
@[go_sem] theorem ty_133 : cfg.ty 133 = some ⟨.func, 1, 8, [.nilf]⟩ := rfl
@[go_sem] theorem ty_134 : cfg.ty 134 = some ⟨.func, 1, 8, [.nilf]⟩ := rfl
@[go_sem] theorem ty_135 : cfg.ty 135 = some ⟨.func, 1, 8, [.nilf]⟩ := rfl
@[go_sem] theorem ty_136 : cfg.ty 136 = some ⟨(.int .u32), 1, 4, [.int .u32 0]⟩ := rfl
@[go_sem] theorem ty_137 : cfg.ty 137 = some ⟨.func, 1, 8, [.nilf]⟩ := rfl
@[go_sem] theorem ty_138 : cfg.ty 138 = some ⟨(.int .u64), 1, 8, [.int .u64 0]⟩ := rfl
@[go_sem] theorem ty_139 : cfg.ty 139 = some ⟨.func, 1, 8, [.nilf]⟩ := rfl
@[go_sem] theorem ty_140 : cfg.ty 140 = some ⟨.func, 1, 8, [.nilf]⟩ := rfl
@[go_sem] theorem ty_141 : cfg.ty 141 = some ⟨.func, 1, 8, [.nilf]⟩ := rfl
@[go_sem] theorem ty_142 : cfg.ty 142 = some ⟨.func, 1, 8, [.nilf]⟩ := rfl
@[go_sem] theorem ty_143 : cfg.ty 143 = some ⟨(.int .u64), 1, 8, [.int .u64 0]⟩ := rfl
@[go_sem] theorem ty_144 : cfg.ty 144 = some ⟨.func, 1, 8, [.nilf]⟩ := rfl
@[go_sem] theorem ty_145 : cfg.ty 145 = some ⟨.func, 1, 8, [.nilf]⟩ := rfl
@[go_sem] theorem ty_146 : cfg.ty 146 = some ⟨.func, 1, 8, [.nilf]⟩ := rfl
@[go_sem] theorem ty_147 : cfg.ty 147 = some ⟨(.ptr 3), 1, 8, [.nilp]⟩ := rfl
@[go_sem] theorem ty_148 : cfg.ty 148 = some ⟨.func, 1, 8, [.nilf]⟩ := rfl
@[go_sem] theorem ty_149 : cfg.ty 149 = some ⟨(.ptr 143), 1, 8, [.nilp]⟩ := rfl
@[go_sem] theorem ty_151 : cfg.ty 151 = some ⟨.func, 1, 8, [.nilf]⟩ := rfl
@[go_sem] theorem ty_152 : cfg.ty 152 = some ⟨.func, 1, 8, [.nilf]⟩ := rfl
@[go_sem] theorem ty_153 : cfg.ty 153 = some ⟨.func, 1, 8, [.nilf]⟩ := rfl
@[go_sem] theorem ty_154 : cfg.ty 154 = some ⟨(.struct false [(0, 17), (1, 17), (2, 17), (3, 9)]), 4, 40, [.nilp, .nilp, .nilp, .str []]⟩ := rfl
@[go_sem] theorem ty_155 : cfg.ty 155 = some ⟨(.struct false [(0, 17), (1, 17), (2, 17), (3, 9)]), 4, 40, [.nilp, .nilp, .nilp, .str []]⟩ := rfl
@[go_sem] theorem ty_156 : cfg.ty 156 = some ⟨(.array 0 16), 0, 0, []⟩ := rfl
@[go_sem] theorem ty_157 : cfg.ty 157 = some ⟨(.struct false [(0, 156)]), 0, 0, []⟩ := rfl
@[go_sem] theorem ty_158 : cfg.ty 158 = some ⟨(.struct false [(0, 156)]), 0, 0, []⟩ := rfl
@[go_sem] theorem ty_161 : cfg.ty 161 = some ⟨.func, 1, 8, [.nilf]⟩ := rfl
@[go_sem] theorem ty_162 : cfg.ty 162 = some ⟨(.ptr 5), 1, 8, [.nilp]⟩ := rfl
@[go_sem] theorem ty_163 : cfg.ty 163 = some ⟨(.int .i32), 1, 4, [.int .i32 0]⟩ := rfl
@[go_sem] theorem ty_164 : cfg.ty 164 = some ⟨(.int .i32), 1, 4, [.int .i32 0]⟩ := rfl
@[go_sem] theorem ty_165 : cfg.ty 165 = some ⟨(.struct false [(0, 12), (1, 12), (2, 136), (3, 159), (4, 5), (5, 5), (6, 160), (7, 161), (8, 162), (9, 163), (10, 164)]), 11, 48, [.int .u64 0, .int .u64 0, .int .u32 0, .int .u8 0, .int .u8 0, .int .u8 0, .int .u8 0, .nilf, .nilp, .int .i32 0, .int .i32 0]⟩ := rfl
@[go_sem] theorem ty_166 : cfg.ty 166 = some ⟨(.struct false [(0, 12), (1, 12), (2, 136), (3, 159), (4, 5), (5, 5), (6, 160), (7, 161), (8, 162), (9, 163), (10, 164)]), 11, 48, [.int .u64 0, .int .u64 0, .int .u32 0, .int .u8 0, .int .u8 0, .int .u8 0, .int .u8 0, .nilf, .nilp, .int .i32 0, .int .i32 0]⟩ := rfl
@[go_sem] theorem ty_167 : cfg.ty 167 = some ⟨(.struct true [(0, 3), (1, 3), (2, 3), (3, 4)]), 4, 32, [.int .i64 0, .int .i64 0, .int .i64 0, .bool false]⟩ := rfl
@[go_sem] theorem ty_168 : cfg.ty 168 = some ⟨(.struct true [(0, 3), (1, 3), (2, 3), (3, 4)]), 4, 32, [.int .i64 0, .int .i64 0, .int .i64 0, .bool false]⟩ := rfl
@[go_sem] theorem ty_169 : cfg.ty 169 = some ⟨(.slice 175), 1, 24, [.sl true []]⟩ := rfl
@[go_sem] theorem ty_170 : cfg.ty 170 = some ⟨(.struct true [(0, 3), (1, 24), (3, 3), (4, 4), (5, 4), (6, 169), (7, 22), (8, 27), (9, 28)]), 10, 136, [.int .i64 0, .int .i64 0, .int .i64 0, .int .i64 0, .bool false, .bool false, .sl true [], .sl true [], .sl true [], .sl true []]⟩ := rfl
@[go_sem] theorem ty_171 : cfg.ty 171 = some ⟨(.struct true [(0, 3), (1, 24), (3, 3), (4, 4), (5, 4), (6, 169), (7, 22), (8, 27), (9, 28)]), 10, 136, [.int .i64 0, .int .i64 0, .int .i64 0, .int .i64 0, .bool false, .bool false, .sl true [], .sl true [], .sl true [], .sl true []]⟩ := rfl
@[go_sem] theorem ty_172 : cfg.ty 172 = some ⟨.rawp, 1, 8, [.nilp]⟩ := rfl
@[go_sem] theorem ty_173 : cfg.ty 173 = some ⟨(.slice 177), 1, 24, [.sl true []]⟩ := rfl
@[go_sem] theorem ty_174 : cfg.ty 174 = some ⟨(.struct true [(0, 26), (7, 3), (8, 4), (9, 173)]), 10, 112, [.int .i64 0, .int .i64 0, .int .i64 0, .sl true [], .int .i64 0, .int .i64 0, .int .i64 0, .int .i64 0, .bool false, .sl true []]⟩ := rfl
@[go_sem] theorem ty_175 : cfg.ty 175 = some ⟨(.struct true [(0, 26), (7, 3), (8, 4), (9, 173)]), 10, 112, [.int .i64 0, .int .i64 0, .int .i64 0, .sl true [], .int .i64 0, .int .i64 0, .int .i64 0, .int .i64 0, .bool false, .sl true []]⟩ := rfl
@[go_sem] theorem ty_176 : cfg.ty 176 = some ⟨(.struct true [(0, 3), (1, 3)]), 2, 16, [.int .i64 0, .int .i64 0]⟩ := rfl
@[go_sem] theorem ty_177 : cfg.ty 177 = some ⟨(.struct true [(0, 3), (1, 3)]), 2, 16, [.int .i64 0, .int .i64 0]⟩ := rfl
@[go_sem] theorem draw_5_4 : cfg.draw 5 4 = dr_5_4 := rfl
@[go_sem] theorem draw_8_3 : cfg.draw 8 3 = dr_8_3 := rfl
@[go_sem] theorem draw_8_9 : cfg.draw 8 9 = dr_8_9 := rfl
@[go_sem] theorem draw_8_16 : cfg.draw 8 16 = dr_8_16 := rfl
@[go_sem] theorem draw_9_6 : cfg.draw 9 6 = dr_9_6 := rfl
@[go_sem] theorem draw_9_8 : cfg.draw 9 8 = dr_9_8 := rfl
@[go_sem] theorem draw_9_13 : cfg.draw 9 13 = dr_9_13 := rfl
@[go_sem] theorem draw_9_14 : cfg.draw 9 14 = dr_9_14 := rfl
@[go_sem] theorem draw_10_6 : cfg.draw 10 6 = dr_10_6 := rfl
@[go_sem] theorem draw_11_13 : cfg.draw 11 13 = dr_11_13 := rfl
@[go_sem] theorem draw_16_3 : cfg.draw 16 3 = dr_16_3 := rfl
@[go_sem] theorem draw_17_7 : cfg.draw 17 7 = dr_17_7 := rfl
@[go_sem] theorem draw_20_4 : cfg.draw 20 4 = dr_20_4 := rfl
@[go_sem] theorem draw_30_4 : cfg.draw 30 4 = dr_30_4 := rfl
@[go_sem] theorem draw_37_1 : cfg.draw 37 1 = dr_37_1 := rfl
@[go_sem] theorem draw_38_9 : cfg.draw 38 9 = dr_38_9 := rfl
@[go_sem] theorem draw_38_12 : cfg.draw 38 12 = dr_38_12 := rfl
@[go_sem] theorem draw_39_3 : cfg.draw 39 3 = dr_39_3 := rfl
@[go_sem] theorem draw_39_8 : cfg.draw 39 8 = dr_39_8 := rfl
@[go_sem] theorem draw_39_9 : cfg.draw 39 9 = dr_39_9 := rfl
@[go_sem] theorem draw_39_11 : cfg.draw 39 11 = dr_39_11 := rfl
@[go_sem] theorem draw_45_1 : cfg.draw 45 1 = dr_45_1 := rfl
@[go_sem] theorem draw_47_1 : cfg.draw 47 1 = dr_47_1 := rfl
@[go_sem] theorem frz_49_0 : cfg.frz 49 0 = [] := rfl
@[go_sem] theorem frz_49_1 : cfg.frz 49 1 = [] := rfl
@[go_sem] theorem frz_49_2 : cfg.frz 49 2 = [] := rfl
@[go_sem] theorem frz_49_3 : cfg.frz 49 3 = [] := rfl
@[go_sem] theorem frz_49_4 : cfg.frz 49 4 = [(1, 6)] := rfl
@[go_sem] theorem frz_49_5 : cfg.frz 49 5 = [] := rfl
@[go_sem] theorem frz_49_6 : cfg.frz 49 6 = [] := rfl
@[go_sem] theorem frz_49_7 : cfg.frz 49 7 = [] := rfl
@[go_sem] theorem frz_50_0 : cfg.frz 50 0 = [] := rfl
@[go_sem] theorem frz_50_1 : cfg.frz 50 1 = [] := rfl
@[go_sem] theorem frz_50_2 : cfg.frz 50 2 = [] := rfl
@[go_sem] theorem frz_50_3 : cfg.frz 50 3 = [] := rfl
@[go_sem] theorem frz_50_4 : cfg.frz 50 4 = [] := rfl
@[go_sem] theorem frz_50_5 : cfg.frz 50 5 = [] := rfl
@[go_sem] theorem frz_50_6 : cfg.frz 50 6 = [] := rfl
@[go_sem] theorem frz_50_7 : cfg.frz 50 7 = [] := rfl
@[go_sem] theorem frz_50_8 : cfg.frz 50 8 = [] := rfl
@[go_sem] theorem frz_50_9 : cfg.frz 50 9 = [] := rfl
@[go_sem] theorem frz_50_10 : cfg.frz 50 10 = [] := rfl
@[go_sem] theorem frz_51_0 : cfg.frz 51 0 = [] := rfl
@[go_sem] theorem frz_51_1 : cfg.frz 51 1 = [] := rfl
@[go_sem] theorem frz_51_2 : cfg.frz 51 2 = [] := rfl
@[go_sem] theorem frz_51_3 : cfg.frz 51 3 = [] := rfl
@[go_sem] theorem frz_51_4 : cfg.frz 51 4 = [] := rfl
@[go_sem] theorem frz_51_5 : cfg.frz 51 5 = [] := rfl
@[go_sem] theorem frz_51_6 : cfg.frz 51 6 = [] := rfl
@[go_sem] theorem frz_51_7 : cfg.frz 51 7 = [] := rfl
@[go_sem] theorem frz_51_8 : cfg.frz 51 8 = [] := rfl
@[go_sem] theorem frz_51_9 : cfg.frz 51 9 = [] := rfl
@[go_sem] theorem frz_51_10 : cfg.frz 51 10 = [] := rfl
@[go_sem] theorem frz_51_11 : cfg.frz 51 11 = [] := rfl
@[go_sem] theorem frz_51_12 : cfg.frz 51 12 = [] := rfl
@[go_sem] theorem frz_51_14 : cfg.frz 51 14 = [] := rfl
@[go_sem] theorem frz_51_15 : cfg.frz 51 15 = [] := rfl
@[go_sem] theorem frz_51_16 : cfg.frz 51 16 = [] := rfl
@[go_sem] theorem frz_51_17 : cfg.frz 51 17 = [] := rfl
@[go_sem] theorem frz_51_18 : cfg.frz 51 18 = [] := rfl
@[go_sem] theorem frz_51_13 : cfg.frz 51 13 = [] := rfl
@[go_sem] theorem frz_51_19 : cfg.frz 51 19 = [] := rfl
@[go_sem] theorem frz_51_20 : cfg.frz 51 20 = [(1, 6)] := rfl
@[go_sem] theorem draw_53_14 : cfg.draw 53 14 = dr_53_14 := rfl
@[go_sem] theorem frz_58_0 : cfg.frz 58 0 = [] := rfl
@[go_sem] theorem frz_58_1 : cfg.frz 58 1 = [] := rfl
@[go_sem] theorem frz_58_2 : cfg.frz 58 2 = [] := rfl
@[go_sem] theorem frz_58_3 : cfg.frz 58 3 = [] := rfl
@[go_sem] theorem frz_58_4 : cfg.frz 58 4 = [] := rfl
@[go_sem] theorem frz_58_5 : cfg.frz 58 5 = [] := rfl
@[go_sem] theorem frz_58_6 : cfg.frz 58 6 = [] := rfl
@[go_sem] theorem frz_58_7 : cfg.frz 58 7 = [] := rfl
@[go_sem] theorem frz_58_8 : cfg.frz 58 8 = [] := rfl
@[go_sem] theorem frz_58_9 : cfg.frz 58 9 = [] := rfl
@[go_sem] theorem frz_58_10 : cfg.frz 58 10 = [] := rfl
@[go_sem] theorem frz_58_11 : cfg.frz 58 11 = [] := rfl
@[go_sem] theorem frz_58_12 : cfg.frz 58 12 = [] := rfl
@[go_sem] theorem frz_58_13 : cfg.frz 58 13 = [] := rfl
@[go_sem] theorem frz_58_14 : cfg.frz 58 14 = [] := rfl
@[go_sem] theorem frz_58_15 : cfg.frz 58 15 = [] := rfl
@[go_sem] theorem draw_68_4 : cfg.draw 68 4 = dr_68_4 := rfl
@[go_sem] theorem frz_71_0 : cfg.frz 71 0 = [] := rfl
@[go_sem] theorem frz_71_1 : cfg.frz 71 1 = [] := rfl
@[go_sem] theorem frz_71_2 : cfg.frz 71 2 = [] := rfl
@[go_sem] theorem frz_71_3 : cfg.frz 71 3 = [] := rfl
@[go_sem] theorem frz_71_4 : cfg.frz 71 4 = [] := rfl
@[go_sem] theorem frz_71_5 : cfg.frz 71 5 = [] := rfl
@[go_sem] theorem frz_71_6 : cfg.frz 71 6 = [] := rfl
@[go_sem] theorem draw_72_17 : cfg.draw 72 17 = dr_72_17 := rfl
@[go_sem] theorem frz_78_0 : cfg.frz 78 0 = [] := rfl
@[go_sem] theorem frz_78_1 : cfg.frz 78 1 = [] := rfl
@[go_sem] theorem frz_78_2 : cfg.frz 78 2 = [] := rfl
@[go_sem] theorem frz_78_3 : cfg.frz 78 3 = [] := rfl
@[go_sem] theorem frz_78_4 : cfg.frz 78 4 = [] := rfl
@[go_sem] theorem frz_78_5 : cfg.frz 78 5 = [] := rfl
@[go_sem] theorem frz_78_6 : cfg.frz 78 6 = [] := rfl
@[go_sem] theorem frz_78_7 : cfg.frz 78 7 = [] := rfl
@[go_sem] theorem frz_78_8 : cfg.frz 78 8 = [] := rfl
@[go_sem] theorem frz_78_9 : cfg.frz 78 9 = [] := rfl
@[go_sem] theorem frz_78_10 : cfg.frz 78 10 = [] := rfl
@[go_sem] theorem frz_78_12 : cfg.frz 78 12 = [] := rfl
@[go_sem] theorem frz_78_13 : cfg.frz 78 13 = [] := rfl
@[go_sem] theorem frz_78_14 : cfg.frz 78 14 = [] := rfl
@[go_sem] theorem frz_78_16 : cfg.frz 78 16 = [] := rfl
@[go_sem] theorem frz_78_17 : cfg.frz 78 17 = [] := rfl
@[go_sem] theorem frz_78_18 : cfg.frz 78 18 = [] := rfl
@[go_sem] theorem frz_78_19 : cfg.frz 78 19 = [] := rfl
@[go_sem] theorem frz_78_20 : cfg.frz 78 20 = [] := rfl
@[go_sem] theorem draw_78_11 : cfg.draw 78 11 = dr_78_11 := rfl
@[go_sem] theorem draw_78_15 : cfg.draw 78 15 = dr_78_15 := rfl
@[go_sem] theorem draw_82_4 : cfg.draw 82 4 = dr_82_4 := rfl
@[go_sem] theorem draw_82_6 : cfg.draw 82 6 = dr_82_6 := rfl
@[go_sem] theorem draw_83_10 : cfg.draw 83 10 = dr_83_10 := rfl
@[go_sem] theorem draw_84_10 : cfg.draw 84 10 = dr_84_10 := rfl
@[go_sem] theorem draw_86_3 : cfg.draw 86 3 = dr_86_3 := rfl
@[go_sem] theorem draw_87_5 : cfg.draw 87 5 = dr_87_5 := rfl
@[go_sem] theorem draw_87_11 : cfg.draw 87 11 = dr_87_11 := rfl
@[go_sem] theorem draw_87_16 : cfg.draw 87 16 = dr_87_16 := rfl
@[go_sem] theorem draw_87_17 : cfg.draw 87 17 = dr_87_17 := rfl
@[go_sem] theorem draw_87_22 : cfg.draw 87 22 = dr_87_22 := rfl
@[go_sem] theorem draw_87_23 : cfg.draw 87 23 = dr_87_23 := rfl
@[go_sem] theorem draw_88_1 : cfg.draw 88 1 = dr_88_1 := rfl
@[go_sem] theorem draw_88_3 : cfg.draw 88 3 = dr_88_3 := rfl
@[go_sem] theorem draw_88_5 : cfg.draw 88 5 = dr_88_5 := rfl
@[go_sem] theorem draw_88_8 : cfg.draw 88 8 = dr_88_8 := rfl
@[go_sem] theorem draw_89_1 : cfg.draw 89 1 = dr_89_1 := rfl
@[go_sem] theorem draw_89_3 : cfg.draw 89 3 = dr_89_3 := rfl
@[go_sem] theorem draw_89_5 : cfg.draw 89 5 = dr_89_5 := rfl
@[go_sem] theorem draw_89_8 : cfg.draw 89 8 = dr_89_8 := rfl
@[go_sem] theorem draw_89_10 : cfg.draw 89 10 = dr_89_10 := rfl
@[go_sem] theorem draw_89_13 : cfg.draw 89 13 = dr_89_13 := rfl
@[go_sem] theorem draw_89_15 : cfg.draw 89 15 = dr_89_15 := rfl
@[go_sem] theorem draw_89_18 : cfg.draw 89 18 = dr_89_18 := rfl
@[go_sem] theorem draw_89_21 : cfg.draw 89 21 = dr_89_21 := rfl
@[go_sem] theorem draw_96_3 : cfg.draw 96 3 = dr_96_3 := rfl
@[go_sem] theorem draw_96_5 : cfg.draw 96 5 = dr_96_5 := rfl
@[go_sem] theorem draw_96_6 : cfg.draw 96 6 = dr_96_6 := rfl
@[go_sem] theorem draw_98_1 : cfg.draw 98 1 = dr_98_1 := rfl
@[go_sem] theorem draw_98_2 : cfg.draw 98 2 = dr_98_2 := rfl
@[go_sem] theorem draw_98_3 : cfg.draw 98 3 = dr_98_3 := rfl
@[go_sem] theorem draw_102_1 : cfg.draw 102 1 = dr_102_1 := rfl
@[go_sem] theorem draw_103_3 : cfg.draw 103 3 = dr_103_3 := rfl

end Go.Proofs.Ytlfjmmcodkdlfaa
