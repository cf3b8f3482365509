/- Sets of spans, as the document has them. -/
import Derived.Test.YtlfjmmcodkdlfaaE1
set_option linter.all false
set_option maxRecDepth 100000
namespace Go.Proofs.Ytlfjmmcodkdlfaa
open Go Go.Abs

def T87 (l : List SR) (i : Nat) : St := { fr := mkF 37 [(0, .sl true (l.map srow)), (3, .int .i64 i)], own := [], hp := [], al := [], nb := 0 }
set_option maxHeartbeats 4000000 in
theorem call_5 (l : List SR) (hlen : l.length ≤ 100000) : (Lim cfg).call 5 [.sl true (l.map srow)] [] = some (.bool (setS l), false, []) := by
  refine call_eq fn_5 rfl ?_
  rw [k_start]
  simp only [Try.f5, st0, Nat.zero_add]
  simp only [go_sem, Nat.reduceAdd, Nat.reduceSub, Nat.reduceMul, Nat.reduceLT, Nat.reduceLeDiff, Nat.reduceEqDiff, Nat.reduceBEq, Nat.reduceBNe, reduceCtorEq, Int.reduceBNe, Int.reduceBEq, blt0]
  refine k_loop (T87 l) (fun i => i ≤ l.length ∧ setFrom (-1) l = setFrom (hiS l i) (l.drop i)) (fun i => l.length - i) 0 (K := cfg.kill 5 2) rfl ⟨Nat.zero_le _, rfl⟩ (by kernel_rfl) ?_
  intro i ⟨hi, hc⟩ k' Q' hnorm hexit hret
  simp only [T87, mkF, List.foldl, st0, List.set]
  simp only [go_sem, Nat.reduceAdd, Nat.reduceSub, Nat.reduceMul, Nat.reduceLT, Nat.reduceLeDiff, Nat.reduceEqDiff, Nat.reduceBEq, Nat.reduceBNe, reduceCtorEq, Int.reduceBNe, Int.reduceBEq, blt0]
  by_cases hlt : i < l.length
  · have h1 : (i : Int) < (l.length : Int) := by omega
    have h2 : ¬ ((i : Int) < 0) := by omega
    have hx : (l.map srow)[i]? = some (srow l[i]) := by simp [hlt]
    have hs := set_step hlt hc
    have c1 := call_19 l[i]
    simp only [srow] at c1
    have fail : ∀ s : St, s.fr.getD 2 .any = .bool false → (oneS l[i] && decide (hiS l i < l[i].1)) = false → WK cfg 5 none k' Q' .ret s := fun s h1 h2 => by
      refine hret _ ?_
      simp only [k_blk_ret, k_code_ret, k_nil]
      refine ret1n (fun _ => ex_ret) h1 rfl rfl ⟨?_, rfl, rfl⟩
      rw [setS, hs, h2]; rfl
    have pass : ∀ s : St, (oneS l[i] && decide (hiS l i < l[i].1)) = true → s.head (cfg.kill 5 2) = T87 l (i + 1) → WK cfg 5 none k' Q' .normal s := fun s h1 h2 => by
      refine hnorm (i + 1) s ⟨by omega, ?_⟩ (by omega) h2
      rw [hs, h1, Bool.true_and]
    by_cases ho : oneS l[i] = true
    · rw [ho] at c1
      by_cases hi0 : i = 0
      · subst hi0
        have h3 : ¬ (((0 : Nat) : Int) > 0) := by omega
        have hp : decide (hiS l 0 < l[0].1) = true := by
          have := of_decide_eq_true ho
          exact decide_eq_true (by simp only [hiS, if_true]; omega)
        simp only [go_sem, Nat.reduceAdd, Nat.reduceSub, Nat.reduceMul, Nat.reduceLT, Nat.reduceLeDiff, Nat.reduceEqDiff, Nat.reduceBEq, Nat.reduceBNe, reduceCtorEq, Int.reduceBNe, Int.reduceBEq, blt0, h1, h2, h3, hx, srow, Int.toNat_natCast, c1]
        try rw [wrap_i64 (by omega) (by omega)]
        refine pass _ (by rw [ho, hp]; rfl) (by kernel_rfl)
      · have h3 : (i : Int) > 0 := by omega
        have h4 : ¬ ((i : Int) - 1 < 0) := by omega
        have h5 : ((i : Int) - 1).toNat = i - 1 := by omega
        have h6 : IntKind.i64.wrap ((i : Int) - 1) = (i : Int) - 1 := wrap_i64 (by omega) (by omega)
        have h7 : (l.map srow)[i - 1]? = some (srow l[i - 1]) := by simp [show i - 1 < l.length by omega]
        have h8 : hiS l i = l[i - 1].2 := by simp [hiS, hi0, show i - 1 < l.length by omega]
        by_cases hb : l[i].1 ≤ l[i - 1].2
        · simp only [go_sem, Nat.reduceAdd, Nat.reduceSub, Nat.reduceMul, Nat.reduceLT, Nat.reduceLeDiff, Nat.reduceEqDiff, Nat.reduceBEq, Nat.reduceBNe, reduceCtorEq, Int.reduceBNe, Int.reduceBEq, blt0, h1, h2, h3, h4, h5, h6, h7, hx, srow, Int.toNat_natCast, c1, hb]
          refine fail _ rfl ?_
          rw [ho, Bool.true_and]
          exact decide_eq_false (by omega)
        · simp only [go_sem, Nat.reduceAdd, Nat.reduceSub, Nat.reduceMul, Nat.reduceLT, Nat.reduceLeDiff, Nat.reduceEqDiff, Nat.reduceBEq, Nat.reduceBNe, reduceCtorEq, Int.reduceBNe, Int.reduceBEq, blt0, h1, h2, h3, h4, h5, h6, h7, hx, srow, Int.toNat_natCast, c1, hb]
          try rw [wrap_i64 (by omega) (by omega)]
          refine pass _ ?_ (by kernel_rfl)
          rw [ho, Bool.true_and]
          exact decide_eq_true (by omega)
    · rw [Bool.not_eq_true] at ho
      rw [ho] at c1
      simp only [go_sem, Nat.reduceAdd, Nat.reduceSub, Nat.reduceMul, Nat.reduceLT, Nat.reduceLeDiff, Nat.reduceEqDiff, Nat.reduceBEq, Nat.reduceBNe, reduceCtorEq, Int.reduceBNe, Int.reduceBEq, blt0, h1, h2, hx, srow, Int.toNat_natCast, c1]
      refine fail _ rfl ?_
      rw [ho]; rfl
  · have h1 : ¬ (i : Int) < (l.length : Int) := by omega
    simp only [go_sem, Nat.reduceAdd, Nat.reduceSub, Nat.reduceMul, Nat.reduceLT, Nat.reduceLeDiff, Nat.reduceEqDiff, Nat.reduceBEq, Nat.reduceBNe, reduceCtorEq, Int.reduceBNe, Int.reduceBEq, blt0, h1]
    refine hexit 0 _ ?_
    simp only [go_sem, Nat.reduceAdd, Nat.reduceSub, Nat.reduceMul, Nat.reduceLT, Nat.reduceLeDiff, Nat.reduceEqDiff, Nat.reduceBEq, Nat.reduceBNe, reduceCtorEq, Int.reduceBNe, Int.reduceBEq, blt0, lenV]
    refine ret1n (fun _ => ex_ret) rfl rfl rfl ⟨?_, rfl, rfl⟩
    show V.bool _ = _
    rw [setS, hc, List.drop_of_length_le (by omega), setFrom, Bool.true_and, show decide ((l.length : Int) ≤ 64) = decide (l.length ≤ 64) from decide_eq_decide.2 (by omega)]

def hasS (l : List SR) (k : Int) : Bool := l.any fun s => oneS s && (decide (s.1 ≤ k) && decide (k < s.2))
theorem has_drop {l : List SR} {k : Int} {i : Nat} (h : i < l.length) (hc : hasS l k = hasS (l.drop i) k) (hn : (oneS l[i] && (decide (l[i].1 ≤ k) && decide (k < l[i].2))) = false) : hasS l k = hasS (l.drop (i + 1)) k := by
  rw [hc, List.drop_eq_getElem_cons h, hasS, List.any_cons, hn, Bool.false_or]; rfl
theorem has_at {l : List SR} {k : Int} {i : Nat} (h : i < l.length) (hn : (oneS l[i] && (decide (l[i].1 ≤ k) && decide (k < l[i].2))) = true) : hasS l k = true :=
  List.any_eq_true.2 ⟨l[i], List.getElem_mem h, hn⟩

def T138 (l : List SR) (k : Int) (i : Nat) : St := { fr := mkF 35 [(0, .sl true (l.map srow)), (1, .int .i64 k), (5, .int .i64 i)], own := [], hp := [], al := [], nb := 0 }
theorem eq_span {x y : SR} : (x.1 == y.1 && x.2 == y.2) = decide (x = y) := by
  obtain ⟨a, b⟩ := x
  obtain ⟨a', b'⟩ := y
  rw [Bool.eq_iff_iff]
  simp

def T139 (a b : List SR) (i : Nat) : St := { fr := mkF 26 [(0, .sl true (a.map srow)), (1, .sl true (b.map srow)), (5, .int .i64 i)], own := [], hp := [], al := [], nb := 0 }
theorem fit_srow (l : List SR) : rowsFit 2 (l.map srow) = true := by cases l <;> rfl
theorem head_srow (l : List SR) : headByte (l.map srow) = false := by cases l <;> rfl
theorem head_srow' (l : List SR) (r : List (List V)) (h : headByte r = false) : headByte (l.map srow ++ r) = false := by cases l <;> first | exact h | rfl
theorem take_srow {l : List SR} {i : Nat} (h : i < l.length) : (l.take i).map srow ++ [srow l[i]] = (l.take (i + 1)).map srow := by
  rw [List.take_succ_eq_append_getElem h, List.map_append]; rfl
def T63 (l : List SR) (i : Nat) : St := { fr := mkF 19 [(0, .sl true (l.map srow)), (3, .sl true ((l.take i).map srow)), (4, .int .i64 i)], own := [3], hp := [], al := [], nb := 0 }
set_option maxHeartbeats 4000000 in
theorem call_6 (l : List SR) (hlen : l.length ≤ 100000) : (Lim cfg).call 6 [.sl true (l.map srow)] [] = some (.sl true (l.map srow), false, []) := by
  refine call_eq fn_6 rfl ?_
  rw [k_start]
  simp only [Try.f6, st0, Nat.zero_add]
  simp only [go_sem, Nat.reduceAdd, Nat.reduceSub, Nat.reduceMul, Nat.reduceLT, Nat.reduceLeDiff, Nat.reduceEqDiff, Nat.reduceBEq, Nat.reduceBNe, reduceCtorEq, Int.reduceBNe, Int.reduceBEq, ty_35, ty_39, ty_24, ty_61, ty_3]
  refine k_loop (T63 l) (fun i => i ≤ l.length) (fun i => l.length - i) 0 (K := cfg.kill 6 3) rfl (Nat.zero_le _) (by kernel_rfl) ?_
  intro i hi k' Q' hnorm hexit hret
  simp only [T63, mkF, List.foldl, st0, List.set]
  simp only [go_sem, Nat.reduceAdd, Nat.reduceSub, Nat.reduceMul, Nat.reduceLT, Nat.reduceLeDiff, Nat.reduceEqDiff, Nat.reduceBEq, Nat.reduceBNe, reduceCtorEq, Int.reduceBNe, Int.reduceBEq, ty_35, ty_39, ty_24, ty_61, ty_3]
  by_cases hlt : i < l.length
  · have h1 : (i : Int) < (l.length : Int) := by omega
    have h2 : ¬ ((i : Int) < 0) := by omega
    have hx : (l.map srow)[i]? = some (srow l[i]) := by simp [hlt]
    simp only [go_sem, Nat.reduceAdd, Nat.reduceSub, Nat.reduceMul, Nat.reduceLT, Nat.reduceLeDiff, Nat.reduceEqDiff, Nat.reduceBEq, Nat.reduceBNe, reduceCtorEq, Int.reduceBNe, Int.reduceBEq, ty_35, ty_39, ty_24, ty_61, ty_3, h1, h2, hx, srow, Int.toNat_natCast, fit_srow, head_srow]
    have hb : ((l.take i).length + 1) * 16 ≤ strMax := by unfold strMax; rw [List.length_take]; omega
    have hap := take_srow hlt
    simp only [go_sem, Nat.reduceAdd, Nat.reduceSub, Nat.reduceMul, Nat.reduceLT, Nat.reduceLeDiff, Nat.reduceEqDiff, Nat.reduceBEq, Nat.reduceBNe, reduceCtorEq, Int.reduceBNe, Int.reduceBEq, hb, fit_srow, head_srow, head_srow']
    rw [show [V.int IntKind.i64 l[i].fst, V.int IntKind.i64 l[i].snd] = srow l[i] from rfl, hap]
    rw [wrap_i64 (by omega) (by omega)]
    exact hnorm (i + 1) _ (by omega) (by omega) (by kernel_rfl)
  · have h1 : ¬ (i : Int) < (l.length : Int) := by omega
    simp only [go_sem, Nat.reduceAdd, Nat.reduceSub, Nat.reduceMul, Nat.reduceLT, Nat.reduceLeDiff, Nat.reduceEqDiff, Nat.reduceBEq, Nat.reduceBNe, reduceCtorEq, Int.reduceBNe, Int.reduceBEq, h1]
    refine hexit 0 _ ?_
    simp only [go_sem, Nat.reduceAdd, Nat.reduceSub, Nat.reduceMul, Nat.reduceLT, Nat.reduceLeDiff, Nat.reduceEqDiff, Nat.reduceBEq, Nat.reduceBNe, reduceCtorEq, Int.reduceBNe, Int.reduceBEq]
    refine ret1 (fun _ => ex_ret) rfl rfl rfl ⟨?_, rfl, rfl⟩
    show V.sl true _ = _
    rw [List.take_of_length_le (by omega)]
end Go.Proofs.Ytlfjmmcodkdlfaa
