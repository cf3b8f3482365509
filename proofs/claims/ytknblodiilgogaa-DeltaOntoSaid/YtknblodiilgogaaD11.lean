/- Which turns may be: the document's answer. -/
import Derived.Test.YtknblodiilgogaaD10
set_option linter.all false
set_option maxRecDepth 100000
namespace Go.Proofs.Ytknblodiilgogaa
open Go Go.Abs

def S31 (l : List TR) (i : Nat) : St := { fr := mkF 71 [(0, .sl true (l.map trow)), (3, .int .i64 i)], own := [], hp := [], al := [], nb := 0 }

set_option maxHeartbeats 16000000 in
theorem call_21 (l : List TR) (hlen : l.length ≤ 100000) : (Lim cfg).call 21 [.sl true (l.map trow)] [] = some (.bool (chkT l), false, []) := by
  refine call_eq fn_21 rfl ?_
  rw [k_start]
  simp only [Try.f21, List.length_cons, List.length_nil, Nat.zero_add, Nat.reduceSub, Nat.reduceAdd, List.replicate, List.cons_append, List.nil_append]
  simp only [go_sem, Nat.reduceAdd, Nat.reduceSub, Nat.reduceMul, Nat.reduceLT, Nat.reduceLeDiff, Nat.reduceEqDiff, Nat.reduceBEq, Nat.reduceBNe, reduceCtorEq, Int.reduceBNe, Int.reduceBEq, ty_47, ty_108, ty_61, ty_3, ty_4]
  refine k_loop (S31 l) (fun i => i ≤ l.length ∧ -1 ≤ pkT l i ∧ chkT l = chkTFrom (pkT l i) (l.drop i)) (fun i => l.length - i) 0 (K := cfg.kill 21 2) rfl ⟨Nat.zero_le _, Int.le_refl _, rfl⟩ (by kernel_rfl) ?_
  intro i ⟨hi, hpk, hc⟩ k' Q' hnorm hexit hret
  simp only [S31, mkF, List.foldl, List.replicate, List.set, List.cons_append, List.nil_append]
  simp only [go_sem, Nat.reduceAdd, Nat.reduceSub, Nat.reduceMul, Nat.reduceLT, Nat.reduceLeDiff, Nat.reduceEqDiff, Nat.reduceBEq, Nat.reduceBNe, reduceCtorEq, Int.reduceBNe, Int.reduceBEq, ty_47, ty_108, ty_61, ty_3, ty_4]
  by_cases hlt : i < l.length
  · have h1 : (i : Int) < (l.length : Int) := by omega
    have h2 : ¬ ((i : Int) < 0) := by omega
    have hx : (l.map trow)[i]? = some (trow l[i]) := by simp [hlt]
    have hs := chkT_step hlt hc
    have fail : ∀ s : St, s.fr.getD 2 .any = .bool false → okT (pkT l i) l[i] = false → WK cfg 21 none k' Q' .ret s := fun s h1 h2 => by
      refine hret _ ?_
      simp only [k_blk_ret, k_code_ret, k_nil]
      refine ret1n (fun _ => ex_ret) h1 rfl rfl ⟨?_, rfl, rfl⟩
      rw [hs, h2]; rfl
    have pass : ∀ s : St, okT (pkT l i) l[i] = true → s.head (cfg.kill 21 2) = S31 l (i + 1) → WK cfg 21 none k' Q' .normal s := fun s h1 h2 => by
      refine hnorm (i + 1) s ⟨by omega, ?_, ?_⟩ (by omega) h2
      · rw [pkT_succ hlt]
        simp only [okT, decide_eq_true_eq] at h1
        omega
      · rw [hs, h1, Bool.true_and]
    simp only [go_sem, Nat.reduceAdd, Nat.reduceSub, Nat.reduceMul, Nat.reduceLT, Nat.reduceLeDiff, Nat.reduceEqDiff, Nat.reduceBEq, Nat.reduceBNe, reduceCtorEq, Int.reduceBNe, Int.reduceBEq, ty_47, ty_108, ty_61, ty_3, ty_4, draw_21_4, h1, h2, hx, trow, Int.toNat_natCast]
    refine WD_split (fun hb0 => ?_) (fun hb0 => ?_) <;> simp only [go_sem, Nat.reduceAdd, Nat.reduceSub, Nat.reduceMul, Nat.reduceLT, Nat.reduceLeDiff, Nat.reduceEqDiff, Nat.reduceBEq, Nat.reduceBNe, reduceCtorEq, Int.reduceBNe, Int.reduceBEq, ty_47, ty_108, ty_61, ty_3, ty_4, h1, h2, hx, trow, Int.toNat_natCast, hb0]
    · refine fail _ rfl (okT_not ?_)
      simp only [decide_eq_true_eq] at hb0
      omega
    refine WD_split (fun hb1 => ?_) (fun hb1 => ?_) <;> simp only [go_sem, Nat.reduceAdd, Nat.reduceSub, Nat.reduceMul, Nat.reduceLT, Nat.reduceLeDiff, Nat.reduceEqDiff, Nat.reduceBEq, Nat.reduceBNe, reduceCtorEq, Int.reduceBNe, Int.reduceBEq, ty_47, ty_108, ty_61, ty_3, ty_4, h1, h2, hx, trow, Int.toNat_natCast, call_53, hb0, hb1]
    · refine fail _ rfl (okT_not ?_)
      simp only [decide_eq_true_eq] at hb1
      omega
    refine WD_split (fun hb3 => ?_) (fun hb3 => ?_) <;> simp only [go_sem, Nat.reduceAdd, Nat.reduceSub, Nat.reduceMul, Nat.reduceLT, Nat.reduceLeDiff, Nat.reduceEqDiff, Nat.reduceBEq, Nat.reduceBNe, reduceCtorEq, Int.reduceBNe, Int.reduceBEq, ty_47, ty_108, ty_61, ty_3, ty_4, h1, h2, hx, trow, Int.toNat_natCast, call_53, eq_cell, hb0, hb1, hb3]
    · refine fail _ rfl (okT_not ?_)
      simp only [Bool.not_eq_true'] at hb3
      intro h
      rw [hb3] at h
      simp at h
    refine WD_split (fun hb4 => ?_) (fun hb4 => ?_) <;> simp only [go_sem, Nat.reduceAdd, Nat.reduceSub, Nat.reduceMul, Nat.reduceLT, Nat.reduceLeDiff, Nat.reduceEqDiff, Nat.reduceBEq, Nat.reduceBNe, reduceCtorEq, Int.reduceBNe, Int.reduceBEq, ty_47, ty_108, ty_61, ty_3, ty_4, h1, h2, hx, trow, Int.toNat_natCast, call_53, eq_cell, hb0, hb1, hb3, hb4]
    · refine fail _ rfl (okT_not ?_)
      simp only [Bool.not_eq_true'] at hb4
      intro h
      rw [hb4] at h
      simp at h
    refine WC_split (fun hb5 => ?_) (fun hb5 => ?_) <;> simp only [go_sem, Nat.reduceAdd, Nat.reduceSub, Nat.reduceMul, Nat.reduceLT, Nat.reduceLeDiff, Nat.reduceEqDiff, Nat.reduceBEq, Nat.reduceBNe, reduceCtorEq, Int.reduceBNe, Int.reduceBEq, ty_47, ty_108, ty_61, ty_3, ty_4, draw_21_6]
    · refine fail _ rfl (okT_not ?_)
      simp only [decide_eq_true_eq] at hb5
      exact fun h => h.2.2.2.2 hb5
    simp only [Bool.not_eq_false'] at hb3 hb4
    simp only [decide_eq_true_eq, decide_eq_false_iff_not] at hb0 hb1 hb5
    by_cases hi0 : i = 0
    · subst hi0
      have h3 : ¬ (((0 : Nat) : Int) > 0) := by omega
      simp only [go_sem, Nat.reduceAdd, Nat.reduceSub, Nat.reduceMul, Nat.reduceLT, Nat.reduceLeDiff, Nat.reduceEqDiff, Nat.reduceBEq, Nat.reduceBNe, reduceCtorEq, Int.reduceBNe, Int.reduceBEq, ty_47, ty_108, ty_61, ty_3, ty_4, h3]
      rw [wrap_i64 (by omega) (by omega)]
      refine pass _ ?_ (by kernel_rfl)
      exact decide_eq_true ⟨by simp only [pkT, if_true]; omega, by omega, hb3, hb4, hb5⟩
    · have h3 : (i : Int) > 0 := by omega
      have h4 : ¬ ((i : Int) - 1 < 0) := by omega
      have h5 : ((i : Int) - 1).toNat = i - 1 := by omega
      have h6 : IntKind.i64.wrap ((i : Int) - 1) = (i : Int) - 1 := wrap_i64 (by omega) (by omega)
      have h7 : (l.map trow)[i - 1]? = some (trow l[i - 1]) := by simp [show i - 1 < l.length by omega]
      have h8 : pkT l i = l[i - 1].1 := by simp [pkT, hi0, show i - 1 < l.length by omega]
      simp only [go_sem, Nat.reduceAdd, Nat.reduceSub, Nat.reduceMul, Nat.reduceLT, Nat.reduceLeDiff, Nat.reduceEqDiff, Nat.reduceBEq, Nat.reduceBNe, reduceCtorEq, Int.reduceBNe, Int.reduceBEq, ty_47, ty_108, ty_61, ty_3, ty_4, h2, hx, h3, h4, h5, h6, h7, trow, Int.toNat_natCast]
      refine WC_split (fun hb2 => ?_) (fun hb2 => ?_) <;> simp only [go_sem, Nat.reduceAdd, Nat.reduceSub, Nat.reduceMul, Nat.reduceLT, Nat.reduceLeDiff, Nat.reduceEqDiff, Nat.reduceBEq, Nat.reduceBNe, reduceCtorEq, Int.reduceBNe, Int.reduceBEq, ty_47, ty_108, ty_61, ty_3, ty_4]
      · refine fail _ rfl (okT_not ?_)
        simp only [decide_eq_true_eq] at hb2
        omega
      · rw [wrap_i64 (by omega) (by omega)]
        refine pass _ ?_ (by kernel_rfl)
        simp only [decide_eq_false_iff_not] at hb2
        exact decide_eq_true ⟨by omega, by omega, hb3, hb4, hb5⟩
  · have h1 : ¬ (i : Int) < (l.length : Int) := by omega
    simp only [go_sem, Nat.reduceAdd, Nat.reduceSub, Nat.reduceMul, Nat.reduceLT, Nat.reduceLeDiff, Nat.reduceEqDiff, Nat.reduceBEq, Nat.reduceBNe, reduceCtorEq, Int.reduceBNe, Int.reduceBEq, h1]
    refine hexit 0 _ ?_
    simp only [go_sem, Nat.reduceAdd, Nat.reduceSub, Nat.reduceMul, Nat.reduceLT, Nat.reduceLeDiff, Nat.reduceEqDiff, Nat.reduceBEq, Nat.reduceBNe, reduceCtorEq, Int.reduceBNe, Int.reduceBEq]
    refine ret1n (fun _ => ex_ret) rfl rfl rfl ⟨?_, rfl, rfl⟩
    rw [hc, List.drop_of_length_le (by omega)]; rfl

theorem call_61 (t : TR) : (Lim cfg).call 61 [.agg (trow t)] [] = some (.int .i64 t.1, false, []) := by
  simp only [trow]
  refine call_eq fn_61 rfl ?_
  rw [k_start]
  simp only [Try.f61, List.length_cons, List.length_nil, Nat.zero_add, Nat.reduceSub, Nat.reduceAdd, List.replicate, List.cons_append, List.nil_append]
  simp only [go_sem, Nat.reduceAdd, Nat.reduceSub, Nat.reduceMul, Nat.reduceLT, Nat.reduceLeDiff, Nat.reduceEqDiff, Nat.reduceBEq, Nat.reduceBNe, reduceCtorEq, Int.reduceBNe, Int.reduceBEq, ty_65, ty_63, ty_3, ty_4]
  refine ret1n (fun _ => ex_ret) rfl rfl rfl ⟨rfl, rfl, rfl⟩
end Go.Proofs.Ytknblodiilgogaa
