/- A strings.Builder, read. -/
import Derived.Test.YtbpkaajokffpjaaD24
set_option linter.all false
set_option maxRecDepth 100000
namespace Go.Proofs.Ytbpkaajokffpjaa
open Go Go.Abs

theorem mapM_byteS : ∀ l : List UInt8, (l.map byteRow).mapM rowByteS = some l
  | [] => rfl
  | b :: l => by
    have hb : rowByteS (byteRow b) = some b := by simp [byteRow, rowByteS]
    rw [List.map_cons, List.mapM_cons, hb, mapM_byteS l]; rfl
theorem mapM_byteS1 (b : UInt8) (l : List UInt8) : (byteRow b :: l.map byteRow).mapM rowByteS = some (b :: l) := mapM_byteS (b :: l)

set_option maxHeartbeats 4000000 in
theorem call_102 (b : UInt8) (s : List UInt8) (hl : s.length ≤ 1000000000) : (Lim cfg).call 102 [.ptr 0 0] [bldB true (b :: s)] = some (.str (b :: s), false, [bldB true (b :: s)]) := by
  refine call_eq fn_102 rfl ?_
  rw [k_start]
  simp only [Try.f102, bldB, List.length_cons, List.length_nil, Nat.zero_add, Nat.reduceSub, Nat.reduceAdd, List.replicate, List.cons_append, List.nil_append, if_true]
  have hb : s.length + 1 ≤ strMax := by unfold strMax; omega
  have hbl : Nat.blt 7 14 = true := rfl
  simp only [go_sem, Nat.reduceAdd, Nat.reduceSub, Nat.reduceMul, Nat.reduceLT, Nat.reduceLeDiff, Nat.reduceEqDiff, Nat.reduceBEq, Nat.reduceBNe, reduceCtorEq, Int.reduceBNe, Int.reduceBEq, ty_174, ty_177, ty_175, ty_9, ty_5, ty_3, ty_260, draw_102_1, dataOp, textOp, heldSome, isSl, mapM_byteS1, hb, hbl, List.map_cons]
  refine ⟨fun _ => ex_ret, .str (b :: s), false, rfl, rfl, rfl, ?_⟩
  kernel_rfl
end Go.Proofs.Ytbpkaajokffpjaa
