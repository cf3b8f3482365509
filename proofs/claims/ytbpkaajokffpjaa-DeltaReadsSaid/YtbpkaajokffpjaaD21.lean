/- The law DeltaChains: two, one behind the other, are made as one. -/
import Derived.Test.YtbpkaajokffpjaaD20
set_option linter.all false
set_option maxRecDepth 100000
namespace Go.Proofs.Ytbpkaajokffpjaa
open Go Go.Abs

theorem call13_ok {A B : List PR} (hA : A.length ≤ 10000) (hB : B.length ≤ 10000) (h1 : chk A = true) (h2 : chk B = true) : (Lim cfg).call 80 [.sl true (A.map prow), .sl true (B.map prow)] [] = some (.tup [.sl true ((merge A B []).map trow), .int .i64 0], false, []) := by
  rw [call_80 A B hA hB, between, h1, h2]; rfl
theorem call13_err {A B : List PR} (hA : A.length ≤ 10000) (hB : B.length ≤ 10000) (h : (chk A && chk B) = false) : (Lim cfg).call 80 [.sl true (A.map prow), .sl true (B.map prow)] [] = some (.tup [.sl true [], .int .i64 1], false, []) := by
  rw [call_80 A B hA hB, between, h]; rfl
theorem call18_ok {A B C : List PR} (hA : A.length ≤ 100) (hB : B.length ≤ 100) (hC : C.length ≤ 100) (h1 : chk A = true) (h2 : chk B = true) (h3 : chk C = true) :
    (Lim cfg).call 89 [.sl true ((merge A B []).map trow), .sl true ((merge B C []).map trow)] [] = some (.tup [.sl true ((merge A C []).map trow), .int .i64 0], false, []) := by
  have l1 := merge_len A B []
  have l2 := merge_len B C []
  simp only [List.length_nil] at l1 l2
  rw [call_89 _ _ (by omega) (by omega), then_between h1 h2 h3]

end Go.Proofs.Ytbpkaajokffpjaa
