/- Whole numbers in a row: the same? -/
import Derived.Test.YthikboobkmfgfaaA0
set_option linter.all false
set_option maxRecDepth 100000
namespace Go.Proofs.Ythikboobkmfgfaa
open Go Go.Abs

def irow (n : Int) : List V := [.int .i64 n]
theorem fit_irow (l : List Int) : rowsFit 1 (l.map irow) = true := by cases l <;> rfl
theorem head_irow (l : List Int) : headByte (l.map irow) = false := by cases l <;> rfl
theorem head_irow' (l : List Int) (n : Int) : headByte (l.map irow ++ [[.int .i64 n]]) = false := by cases l <;> rfl
def S22 (a b : List Int) (i : Nat) : St := { fr := mkF 26 [(0, .sl true (a.map irow)), (1, .sl true (b.map irow)), (5, .int .i64 i)], own := [], hp := [], al := [], nb := 0 }
set_option maxHeartbeats 4000000 in
theorem call_49 (a b : List Int) (hlen : a.length ≤ 100000) (hlen2 : b.length ≤ 100000) : (Lim cfg).call 49 [.sl true (a.map irow), .sl true (b.map irow)] [] = some (.bool (decide (a = b)), false, []) := by
  by_cases hl : a.length = b.length
  · have hl2 : ((a.length : Int) != (b.length : Int)) = false := by simp [hl]
    refine call_eq fn_49 rfl ?_
    rw [k_start]
    simp only [Try.f49, st0, Nat.zero_add]
    simp only [go_sem, Nat.reduceAdd, Nat.reduceSub, Nat.reduceMul, Nat.reduceLT, Nat.reduceLeDiff, Nat.reduceEqDiff, Nat.reduceBEq, Nat.reduceBNe, reduceCtorEq, Int.reduceBNe, Int.reduceBEq, ty_23, ty_3, hl2]
    refine k_loop (S22 a b) (fun i => i ≤ a.length ∧ a.take i = b.take i) (fun i => a.length - i) 0 (K := cfg.kill 49 4) rfl ⟨Nat.zero_le _, rfl⟩ (by kernel_rfl) ?_
    intro i ⟨hi, hc⟩ k' Q' hnorm hexit hret
    simp only [S22, mkF, List.foldl, st0, List.set]
    simp only [go_sem, Nat.reduceAdd, Nat.reduceSub, Nat.reduceMul, Nat.reduceLT, Nat.reduceLeDiff, Nat.reduceEqDiff, Nat.reduceBEq, Nat.reduceBNe, reduceCtorEq, Int.reduceBNe, Int.reduceBEq, ty_23, ty_3]
    by_cases hlt : i < a.length
    · have h1 : (i : Int) < (a.length : Int) := by omega
      have h2 : ¬ ((i : Int) < 0) := by omega
      have hx : (a.map irow)[i]? = some (irow a[i]) := by simp [hlt]
      have hy : (b.map irow)[i]? = some (irow b[i]) := by simp [show i < b.length by omega]
      simp only [go_sem, Nat.reduceAdd, Nat.reduceSub, Nat.reduceMul, Nat.reduceLT, Nat.reduceLeDiff, Nat.reduceEqDiff, Nat.reduceBEq, Nat.reduceBNe, reduceCtorEq, Int.reduceBNe, Int.reduceBEq, ty_23, ty_3, draw_49_6, h1, h2, hx, hy, irow, Int.toNat_natCast]
      have hab : a[i] = b[i] ↔ a.take (i + 1) = b.take (i + 1) := by
        have ib : i < b.length := by omega
        have ea := List.take_succ_eq_append_getElem hlt
        have eb := List.take_succ_eq_append_getElem ib
        rw [ea, eb, hc]
        constructor
        · intro h; rw [h]
        · intro h; exact (List.cons.inj (List.append_cancel_left h)).1
      refine WC_split (fun hb => ?_) (fun hb => ?_) <;> simp only [go_sem, Nat.reduceAdd, Nat.reduceSub, Nat.reduceMul, Nat.reduceLT, Nat.reduceLeDiff, Nat.reduceEqDiff, Nat.reduceBEq, Nat.reduceBNe, reduceCtorEq, Int.reduceBNe, Int.reduceBEq]
      · refine hret _ ?_
        simp only [go_sem, Nat.reduceAdd, Nat.reduceSub, Nat.reduceMul, Nat.reduceLT, Nat.reduceLeDiff, Nat.reduceEqDiff, Nat.reduceBEq, Nat.reduceBNe, reduceCtorEq, Int.reduceBNe, Int.reduceBEq]
        refine ret1n (fun _ => ex_ret) rfl rfl rfl ⟨?_, rfl, rfl⟩
        show V.bool _ = _
        simp only [bne_iff_ne, ne_eq] at hb
        rw [decide_eq_false (fun h => hb (by rw [hab, h]))]
      · rw [wrap_i64 (by omega) (by omega)]
        simp only [bne_eq_false_iff_eq] at hb
        exact hnorm (i + 1) _ ⟨by omega, hab.1 hb⟩ (by omega) (by kernel_rfl)
    · have h1 : ¬ (i : Int) < (a.length : Int) := by omega
      simp only [go_sem, Nat.reduceAdd, Nat.reduceSub, Nat.reduceMul, Nat.reduceLT, Nat.reduceLeDiff, Nat.reduceEqDiff, Nat.reduceBEq, Nat.reduceBNe, reduceCtorEq, Int.reduceBNe, Int.reduceBEq, h1]
      refine hexit 0 _ ?_
      simp only [go_sem, Nat.reduceAdd, Nat.reduceSub, Nat.reduceMul, Nat.reduceLT, Nat.reduceLeDiff, Nat.reduceEqDiff, Nat.reduceBEq, Nat.reduceBNe, reduceCtorEq, Int.reduceBNe, Int.reduceBEq]
      refine ret1n (fun _ => ex_ret) rfl rfl rfl ⟨?_, rfl, rfl⟩
      rw [List.take_of_length_le (by omega), List.take_of_length_le (by omega)] at hc
      show V.bool _ = _
      rw [decide_eq_true hc]
  · have hl2 : ((a.length : Int) != (b.length : Int)) = true := by simp; omega
    refine call_eq fn_49 rfl ?_
    rw [k_start]
    simp only [Try.f49, st0, Nat.zero_add]
    simp only [go_sem, Nat.reduceAdd, Nat.reduceSub, Nat.reduceMul, Nat.reduceLT, Nat.reduceLeDiff, Nat.reduceEqDiff, Nat.reduceBEq, Nat.reduceBNe, reduceCtorEq, Int.reduceBNe, Int.reduceBEq, ty_23, ty_3, hl2]
    refine ret1n (fun _ => ex_ret) rfl rfl rfl ⟨?_, rfl, rfl⟩
    show V.bool _ = _
    rw [decide_eq_false (fun h => hl (by rw [h]))]
end Go.Proofs.Ythikboobkmfgfaa
