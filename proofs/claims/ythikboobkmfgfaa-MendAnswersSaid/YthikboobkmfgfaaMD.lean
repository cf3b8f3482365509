/- Which turns may be: the program's answer, and the document's. -/
import Derived.Test.YthikboobkmfgfaaA0
set_option linter.all false
set_option maxRecDepth 100000
namespace Go.Proofs.Ythikboobkmfgfaa
open Go Go.Abs

theorem eq_cell {x y : CR} : (x.1 == y.1 && x.2 == y.2) = decide (x = y) := by
  obtain ⟨a, b⟩ := x
  obtain ⟨c, d⟩ := y
  rw [Bool.eq_iff_iff]
  simp
def okC (c : CR) : Bool := if c.2 then decide (-1099511627776 ≤ c.1 ∧ c.1 ≤ 1099511627776) else decide (c.1 = 0)

theorem call_88 (c : CR) : (Lim cfg).call 88 [.agg [.int .i64 c.1, .bool c.2]] [] = some (.bool (okC c), false, []) := by
  obtain ⟨v, s⟩ := c
  cases s with
  | false =>
    refine call_eq fn_88 rfl ?_
    rw [k_start]
    simp only [Try.f88, st0, Nat.zero_add]
    simp only [go_sem, Nat.reduceAdd, Nat.reduceSub, Nat.reduceMul, Nat.reduceLT, Nat.reduceLeDiff, Nat.reduceEqDiff, Nat.reduceBEq, Nat.reduceBNe, reduceCtorEq, Int.reduceBNe, Int.reduceBEq, ty_74, ty_3, ty_4]
    refine ret1n (fun _ => ex_ret) rfl rfl rfl ⟨?_, rfl, rfl⟩
    simp only [okC, Bool.false_eq_true, if_false, V.bool.injEq]
    show V.bool (v == 0) = _
    congr 1
  | true =>
    by_cases h1 : -1099511627776 ≤ v
    · have h1' : v ≥ -1099511627776 := h1
      by_cases h2 : v ≤ 1099511627776
      · rw [show okC (v, true) = true from decide_eq_true ⟨h1, h2⟩]
        refine call_eq fn_88 rfl ?_
        rw [k_start]
        simp only [Try.f88, st0, Nat.zero_add]
        simp only [go_sem, Nat.reduceAdd, Nat.reduceSub, Nat.reduceMul, Nat.reduceLT, Nat.reduceLeDiff, Nat.reduceEqDiff, Nat.reduceBEq, Nat.reduceBNe, reduceCtorEq, Int.reduceBNe, Int.reduceBEq, ty_74, ty_3, ty_4, h1', h2]
        exact ret1n (fun _ => ex_ret) rfl rfl rfl ⟨rfl, rfl, rfl⟩
      · rw [show okC (v, true) = false from decide_eq_false fun h => h2 h.2]
        refine call_eq fn_88 rfl ?_
        rw [k_start]
        simp only [Try.f88, st0, Nat.zero_add]
        simp only [go_sem, Nat.reduceAdd, Nat.reduceSub, Nat.reduceMul, Nat.reduceLT, Nat.reduceLeDiff, Nat.reduceEqDiff, Nat.reduceBEq, Nat.reduceBNe, reduceCtorEq, Int.reduceBNe, Int.reduceBEq, ty_74, ty_3, ty_4, h1', h2]
        exact ret1n (fun _ => ex_ret) rfl rfl rfl ⟨rfl, rfl, rfl⟩
    · have h1' : ¬ v ≥ -1099511627776 := h1
      rw [show okC (v, true) = false from decide_eq_false fun h => h1 h.1]
      refine call_eq fn_88 rfl ?_
      rw [k_start]
      simp only [Try.f88, st0, Nat.zero_add]
      simp only [go_sem, Nat.reduceAdd, Nat.reduceSub, Nat.reduceMul, Nat.reduceLT, Nat.reduceLeDiff, Nat.reduceEqDiff, Nat.reduceBEq, Nat.reduceBNe, reduceCtorEq, Int.reduceBNe, Int.reduceBEq, ty_74, ty_3, ty_4, h1']
      exact ret1n (fun _ => ex_ret) rfl rfl rfl ⟨rfl, rfl, rfl⟩

def okT (lo : Int) (t : TR) : Bool := decide (lo < t.1 ∧ t.1 < 4096 ∧ okC t.2.1 = true ∧ okC t.2.2 = true ∧ t.2.1 ≠ t.2.2)
def chkTFrom : Int → List TR → Bool
  | _, [] => true
  | lo, p :: r => okT lo p && chkTFrom p.1 r
def chkT (l : List TR) : Bool := chkTFrom (-1) l
def pkT (l : List TR) (i : Nat) : Int := if i = 0 then -1 else (l.getD (i - 1) (0, (0, false), (0, false))).1

theorem pkT_succ {l : List TR} {i : Nat} (h : i < l.length) : pkT l (i + 1) = l[i].1 := by simp [pkT, h]
theorem chkT_step {l : List TR} {i : Nat} (h : i < l.length) (e : chkT l = chkTFrom (pkT l i) (l.drop i)) : chkT l = (okT (pkT l i) l[i] && chkTFrom (pkT l (i + 1)) (l.drop (i + 1))) := by
  rw [e, List.drop_eq_getElem_cons h, chkTFrom, pkT_succ h]
theorem okT_not {lo : Int} {t : TR} (h : ¬ (lo < t.1 ∧ t.1 < 4096 ∧ okC t.2.1 = true ∧ okC t.2.2 = true ∧ t.2.1 ≠ t.2.2)) : okT lo t = false := decide_eq_false h

def S27 (l : List TR) (i : Nat) : St := { fr := mkF 55 [(0, .sl true (l.map trow)), (5, .sl true (l.map trow)), (6, .int .i64 l.length), (7, .int .i64 i)], own := [], hp := [], al := [], nb := 0 }

set_option maxHeartbeats 16000000 in
theorem call_65 (l : List TR) (hlen : l.length ≤ 100000) : (Lim cfg).call 65 [.sl true (l.map trow)] [] = some (.bool (chkT l), false, []) := by
  refine call_eq fn_65 rfl ?_
  rw [k_start]
  simp only [Try.f65, st0, Nat.zero_add]
  simp only [go_sem, Nat.reduceAdd, Nat.reduceSub, Nat.reduceMul, Nat.reduceLT, Nat.reduceLeDiff, Nat.reduceEqDiff, Nat.reduceBEq, Nat.reduceBNe, reduceCtorEq, Int.reduceBNe, Int.reduceBEq, ty_70, ty_76, ty_74, ty_3, ty_4]
  refine k_loop (S27 l) (fun i => i ≤ l.length ∧ -1 ≤ pkT l i ∧ chkT l = chkTFrom (pkT l i) (l.drop i)) (fun i => l.length - i) 0 (K := cfg.kill 65 2) rfl ⟨Nat.zero_le _, Int.le_refl _, rfl⟩ (by kernel_rfl) ?_
  intro i ⟨hi, hpk, hc⟩ k' Q' hnorm hexit hret
  simp only [S27, mkF, List.foldl, st0, List.set]
  by_cases hlt : i < l.length
  · have h1 : (i : Int) < (l.length : Int) := by omega
    have h2 : ¬ ((i : Int) < 0) := by omega
    have hx : (l.map trow)[i]? = some (trow l[i]) := by simp [hlt]
    have hs := chkT_step hlt hc
    have fail : ∀ s : St, s.fr.getD 2 .any = .bool false → okT (pkT l i) l[i] = false → WK cfg 65 none k' Q' .ret s := fun s h1 h2 => by
      refine hret _ ?_
      simp only [k_blk_ret, k_code_ret, k_nil]
      refine ret1n (fun _ => ex_ret) h1 rfl rfl ⟨?_, rfl, rfl⟩
      rw [hs, h2]; rfl
    have pass : ∀ s : St, okT (pkT l i) l[i] = true → s.head (cfg.kill 65 2) = S27 l (i + 1) → WK cfg 65 none k' Q' .normal s := fun s h1 h2 => by
      refine hnorm (i + 1) s ⟨by omega, ?_, ?_⟩ (by omega) h2
      · rw [pkT_succ hlt]
        simp only [okT, decide_eq_true_eq] at h1
        omega
      · rw [hs, h1, Bool.true_and]
    simp only [go_sem, Nat.reduceAdd, Nat.reduceSub, Nat.reduceMul, Nat.reduceLT, Nat.reduceLeDiff, Nat.reduceEqDiff, Nat.reduceBEq, Nat.reduceBNe, reduceCtorEq, Int.reduceBNe, Int.reduceBEq, ty_70, ty_76, ty_74, ty_3, ty_4, draw_65_4, h1, h2, hx, trow, Int.toNat_natCast]
    refine WD_split (fun hb0 => ?_) (fun hb0 => ?_) <;> simp only [go_sem, Nat.reduceAdd, Nat.reduceSub, Nat.reduceMul, Nat.reduceLT, Nat.reduceLeDiff, Nat.reduceEqDiff, Nat.reduceBEq, Nat.reduceBNe, reduceCtorEq, Int.reduceBNe, Int.reduceBEq, ty_70, ty_76, ty_74, ty_3, ty_4, h1, h2, hx, trow, hb0]
    · refine fail _ rfl (okT_not ?_)
      simp only [decide_eq_true_eq] at hb0
      omega
    refine WD_split (fun hb1 => ?_) (fun hb1 => ?_) <;> simp only [go_sem, Nat.reduceAdd, Nat.reduceSub, Nat.reduceMul, Nat.reduceLT, Nat.reduceLeDiff, Nat.reduceEqDiff, Nat.reduceBEq, Nat.reduceBNe, reduceCtorEq, Int.reduceBNe, Int.reduceBEq, ty_70, ty_76, ty_74, ty_3, ty_4, h1, h2, hx, trow, hb0, hb1]
    · refine fail _ rfl (okT_not ?_)
      simp only [decide_eq_true_eq] at hb1
      omega
    by_cases hi0 : i = 0
    · subst hi0
      have h3 : ¬ (((0 : Nat) : Int) > 0) := by omega
      simp only [go_sem, Nat.reduceAdd, Nat.reduceSub, Nat.reduceMul, Nat.reduceLT, Nat.reduceLeDiff, Nat.reduceEqDiff, Nat.reduceBEq, Nat.reduceBNe, reduceCtorEq, Int.reduceBNe, Int.reduceBEq, ty_70, ty_76, ty_74, ty_3, ty_4, h1, h2, hx, trow, call_88, eq_cell, h3, hb0, hb1]
      refine WD_split (fun hb3 => ?_) (fun hb3 => ?_) <;> simp only [go_sem, Nat.reduceAdd, Nat.reduceSub, Nat.reduceMul, Nat.reduceLT, Nat.reduceLeDiff, Nat.reduceEqDiff, Nat.reduceBEq, Nat.reduceBNe, reduceCtorEq, Int.reduceBNe, Int.reduceBEq, ty_70, ty_76, ty_74, ty_3, ty_4, h1, h2, hx, trow, call_88, eq_cell, h3, hb0, hb1, hb3]
      · refine fail _ rfl (okT_not ?_)
        simp only [Bool.not_eq_true'] at hb3
        intro h
        rw [hb3] at h
        simp at h
      refine WD_split (fun hb4 => ?_) (fun hb4 => ?_) <;> simp only [go_sem, Nat.reduceAdd, Nat.reduceSub, Nat.reduceMul, Nat.reduceLT, Nat.reduceLeDiff, Nat.reduceEqDiff, Nat.reduceBEq, Nat.reduceBNe, reduceCtorEq, Int.reduceBNe, Int.reduceBEq, ty_70, ty_76, ty_74, ty_3, ty_4, h1, h2, hx, trow, call_88, eq_cell, h3, hb0, hb1, hb3, hb4]
      · refine fail _ rfl (okT_not ?_)
        simp only [Bool.not_eq_true'] at hb4
        intro h
        rw [hb4] at h
        simp at h
      refine WC_split (fun hb5 => ?_) (fun hb5 => ?_) <;> simp only [go_sem, Nat.reduceAdd, Nat.reduceSub, Nat.reduceMul, Nat.reduceLT, Nat.reduceLeDiff, Nat.reduceEqDiff, Nat.reduceBEq, Nat.reduceBNe, reduceCtorEq, Int.reduceBNe, Int.reduceBEq, ty_70, ty_76, ty_74, ty_3, ty_4]
      · refine fail _ rfl (okT_not ?_)
        simp only [decide_eq_true_eq] at hb5
        exact fun h => h.2.2.2.2 hb5
      · simp only [Bool.not_eq_false'] at hb3 hb4
        simp only [decide_eq_false_iff_not] at hb0 hb1 hb5
        rw [wrap_i64 (by omega) (by omega)]
        refine pass _ ?_ (by kernel_rfl)
        exact decide_eq_true ⟨by simp only [pkT, if_true]; omega, by omega, hb3, hb4, hb5⟩
    · have h3 : (i : Int) > 0 := by omega
      have h4 : ¬ ((i : Int) - 1 < 0) := by omega
      have h5 : ((i : Int) - 1).toNat = i - 1 := by omega
      have h6 : IntKind.i64.wrap ((i : Int) - 1) = (i : Int) - 1 := wrap_i64 (by omega) (by omega)
      have h7 : (l.map trow)[i - 1]? = some (trow l[i - 1]) := by simp [show i - 1 < l.length by omega]
      have h8 : pkT l i = l[i - 1].1 := by simp [pkT, hi0, show i - 1 < l.length by omega]
      simp only [go_sem, Nat.reduceAdd, Nat.reduceSub, Nat.reduceMul, Nat.reduceLT, Nat.reduceLeDiff, Nat.reduceEqDiff, Nat.reduceBEq, Nat.reduceBNe, reduceCtorEq, Int.reduceBNe, Int.reduceBEq, ty_70, ty_76, ty_74, ty_3, ty_4, h1, h2, hx, trow, call_88, eq_cell, h3, h4, h5, h6, h7, hb0, hb1]
      refine WD_split (fun hb2 => ?_) (fun hb2 => ?_) <;> simp only [go_sem, Nat.reduceAdd, Nat.reduceSub, Nat.reduceMul, Nat.reduceLT, Nat.reduceLeDiff, Nat.reduceEqDiff, Nat.reduceBEq, Nat.reduceBNe, reduceCtorEq, Int.reduceBNe, Int.reduceBEq, ty_70, ty_76, ty_74, ty_3, ty_4, h1, h2, hx, trow, call_88, eq_cell, h3, h4, h5, h6, h7, hb0, hb1, hb2]
      · refine fail _ rfl (okT_not ?_)
        simp only [decide_eq_true_eq] at hb2
        omega
      refine WD_split (fun hb3 => ?_) (fun hb3 => ?_) <;> simp only [go_sem, Nat.reduceAdd, Nat.reduceSub, Nat.reduceMul, Nat.reduceLT, Nat.reduceLeDiff, Nat.reduceEqDiff, Nat.reduceBEq, Nat.reduceBNe, reduceCtorEq, Int.reduceBNe, Int.reduceBEq, ty_70, ty_76, ty_74, ty_3, ty_4, h1, h2, hx, trow, call_88, eq_cell, h3, h4, h5, h6, h7, hb0, hb1, hb2, hb3]
      · refine fail _ rfl (okT_not ?_)
        simp only [Bool.not_eq_true'] at hb3
        intro h
        rw [hb3] at h
        simp at h
      refine WD_split (fun hb4 => ?_) (fun hb4 => ?_) <;> simp only [go_sem, Nat.reduceAdd, Nat.reduceSub, Nat.reduceMul, Nat.reduceLT, Nat.reduceLeDiff, Nat.reduceEqDiff, Nat.reduceBEq, Nat.reduceBNe, reduceCtorEq, Int.reduceBNe, Int.reduceBEq, ty_70, ty_76, ty_74, ty_3, ty_4, h1, h2, hx, trow, call_88, eq_cell, h3, h4, h5, h6, h7, hb0, hb1, hb2, hb3, hb4]
      · refine fail _ rfl (okT_not ?_)
        simp only [Bool.not_eq_true'] at hb4
        intro h
        rw [hb4] at h
        simp at h
      refine WC_split (fun hb5 => ?_) (fun hb5 => ?_) <;> simp only [go_sem, Nat.reduceAdd, Nat.reduceSub, Nat.reduceMul, Nat.reduceLT, Nat.reduceLeDiff, Nat.reduceEqDiff, Nat.reduceBEq, Nat.reduceBNe, reduceCtorEq, Int.reduceBNe, Int.reduceBEq, ty_70, ty_76, ty_74, ty_3, ty_4]
      · refine fail _ rfl (okT_not ?_)
        simp only [decide_eq_true_eq] at hb5
        exact fun h => h.2.2.2.2 hb5
      · simp only [Bool.not_eq_false'] at hb3 hb4
        simp only [decide_eq_false_iff_not] at hb0 hb1 hb5
        rw [wrap_i64 (by omega) (by omega)]
        refine pass _ ?_ (by kernel_rfl)
        exact decide_eq_true ⟨by simp only [decide_eq_false_iff_not] at hb2; omega, by omega, hb3, hb4, hb5⟩
  · have h1 : ¬ (i : Int) < (l.length : Int) := by omega
    simp only [go_sem, Nat.reduceAdd, Nat.reduceSub, Nat.reduceMul, Nat.reduceLT, Nat.reduceLeDiff, Nat.reduceEqDiff, Nat.reduceBEq, Nat.reduceBNe, reduceCtorEq, Int.reduceBNe, Int.reduceBEq, h1]
    refine hexit 0 _ ?_
    simp only [go_sem, Nat.reduceAdd, Nat.reduceSub, Nat.reduceMul, Nat.reduceLT, Nat.reduceLeDiff, Nat.reduceEqDiff, Nat.reduceBEq, Nat.reduceBNe, reduceCtorEq, Int.reduceBNe, Int.reduceBEq]
    refine ret1n (fun _ => ex_ret) rfl rfl rfl ⟨?_, rfl, rfl⟩
    rw [hc, List.drop_of_length_le (by omega)]; rfl
end Go.Proofs.Ythikboobkmfgfaa
