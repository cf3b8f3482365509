/- Which spans are a set of keys: the program's answer, and the document's. -/
import Derived.Test.YtlfjmmcodkdlfaaG1
set_option linter.all false
set_option maxRecDepth 100000
namespace Go.Proofs.Ytlfjmmcodkdlfaa
open Go Go.Abs

abbrev SR := Int × Int
def srow (s : SR) : List V := [.int .i64 s.1, .int .i64 s.2]
def oneS (s : SR) : Bool := decide (0 ≤ s.1 ∧ s.1 < s.2 ∧ s.2 ≤ 4096)

theorem call_31 (s : SR) : (Lim cfg).call 31 [.agg (srow s)] [] = some (.bool (oneS s), false, []) := by
  by_cases h1 : s.1 ≥ 0
  · by_cases h2 : s.1 < s.2
    · by_cases h3 : s.2 ≤ 4096
      · rw [show oneS s = true from decide_eq_true ⟨h1, h2, h3⟩]
        refine call_eq fn_31 rfl ?_
        rw [k_start]
        simp only [Try.f31, st0, Nat.zero_add]
        simp only [go_sem, Nat.reduceAdd, Nat.reduceSub, Nat.reduceMul, Nat.reduceLT, Nat.reduceLeDiff, Nat.reduceEqDiff, Nat.reduceBEq, Nat.reduceBNe, reduceCtorEq, Int.reduceBNe, Int.reduceBEq, srow, h1, h2, h3]
        exact ret1n (fun _ => ex_ret) rfl rfl rfl ⟨rfl, rfl, rfl⟩
      · rw [show oneS s = false from decide_eq_false fun h => h3 h.2.2]
        refine call_eq fn_31 rfl ?_
        rw [k_start]
        simp only [Try.f31, st0, Nat.zero_add]
        simp only [go_sem, Nat.reduceAdd, Nat.reduceSub, Nat.reduceMul, Nat.reduceLT, Nat.reduceLeDiff, Nat.reduceEqDiff, Nat.reduceBEq, Nat.reduceBNe, reduceCtorEq, Int.reduceBNe, Int.reduceBEq, srow, h1, h2, h3]
        exact ret1n (fun _ => ex_ret) rfl rfl rfl ⟨rfl, rfl, rfl⟩
    · rw [show oneS s = false from decide_eq_false fun h => h2 h.2.1]
      refine call_eq fn_31 rfl ?_
      rw [k_start]
      simp only [Try.f31, st0, Nat.zero_add]
      simp only [go_sem, Nat.reduceAdd, Nat.reduceSub, Nat.reduceMul, Nat.reduceLT, Nat.reduceLeDiff, Nat.reduceEqDiff, Nat.reduceBEq, Nat.reduceBNe, reduceCtorEq, Int.reduceBNe, Int.reduceBEq, srow, h1, h2]
      exact ret1n (fun _ => ex_ret) rfl rfl rfl ⟨rfl, rfl, rfl⟩
  · rw [show oneS s = false from decide_eq_false fun h => h1 h.1]
    refine call_eq fn_31 rfl ?_
    rw [k_start]
    simp only [Try.f31, st0, Nat.zero_add]
    simp only [go_sem, Nat.reduceAdd, Nat.reduceSub, Nat.reduceMul, Nat.reduceLT, Nat.reduceLeDiff, Nat.reduceEqDiff, Nat.reduceBEq, Nat.reduceBNe, reduceCtorEq, Int.reduceBNe, Int.reduceBEq, srow, h1]
    exact ret1n (fun _ => ex_ret) rfl rfl rfl ⟨rfl, rfl, rfl⟩
theorem call_19 (s : SR) : (Lim cfg).call 19 [.agg (srow s)] [] = some (.bool (oneS s), false, []) := by
  by_cases h1 : s.1 ≥ 0
  · by_cases h2 : s.1 < s.2
    · by_cases h3 : s.2 ≤ 4096
      · rw [show oneS s = true from decide_eq_true ⟨h1, h2, h3⟩]
        refine call_eq fn_19 rfl ?_
        rw [k_start]
        simp only [Try.f19, st0, Nat.zero_add]
        simp only [go_sem, Nat.reduceAdd, Nat.reduceSub, Nat.reduceMul, Nat.reduceLT, Nat.reduceLeDiff, Nat.reduceEqDiff, Nat.reduceBEq, Nat.reduceBNe, reduceCtorEq, Int.reduceBNe, Int.reduceBEq, srow, h1, h2, h3]
        exact ret1n (fun _ => ex_ret) rfl rfl rfl ⟨rfl, rfl, rfl⟩
      · rw [show oneS s = false from decide_eq_false fun h => h3 h.2.2]
        refine call_eq fn_19 rfl ?_
        rw [k_start]
        simp only [Try.f19, st0, Nat.zero_add]
        simp only [go_sem, Nat.reduceAdd, Nat.reduceSub, Nat.reduceMul, Nat.reduceLT, Nat.reduceLeDiff, Nat.reduceEqDiff, Nat.reduceBEq, Nat.reduceBNe, reduceCtorEq, Int.reduceBNe, Int.reduceBEq, srow, h1, h2, h3]
        exact ret1n (fun _ => ex_ret) rfl rfl rfl ⟨rfl, rfl, rfl⟩
    · rw [show oneS s = false from decide_eq_false fun h => h2 h.2.1]
      refine call_eq fn_19 rfl ?_
      rw [k_start]
      simp only [Try.f19, st0, Nat.zero_add]
      simp only [go_sem, Nat.reduceAdd, Nat.reduceSub, Nat.reduceMul, Nat.reduceLT, Nat.reduceLeDiff, Nat.reduceEqDiff, Nat.reduceBEq, Nat.reduceBNe, reduceCtorEq, Int.reduceBNe, Int.reduceBEq, srow, h1, h2]
      exact ret1n (fun _ => ex_ret) rfl rfl rfl ⟨rfl, rfl, rfl⟩
  · rw [show oneS s = false from decide_eq_false fun h => h1 h.1]
    refine call_eq fn_19 rfl ?_
    rw [k_start]
    simp only [Try.f19, st0, Nat.zero_add]
    simp only [go_sem, Nat.reduceAdd, Nat.reduceSub, Nat.reduceMul, Nat.reduceLT, Nat.reduceLeDiff, Nat.reduceEqDiff, Nat.reduceBEq, Nat.reduceBNe, reduceCtorEq, Int.reduceBNe, Int.reduceBEq, srow, h1]
    exact ret1n (fun _ => ex_ret) rfl rfl rfl ⟨rfl, rfl, rfl⟩

/-- A set's spans rise, and do not touch. -/
def setFrom : Int → List SR → Bool
  | _, [] => true
  | lo, s :: r => oneS s && decide (lo < s.1) && setFrom s.2 r
def setS (l : List SR) : Bool := setFrom (-1) l && decide (l.length ≤ 64)
def hiS (l : List SR) (i : Nat) : Int := if i = 0 then -1 else (l.getD (i - 1) (0, 0)).2
theorem hiS_succ {l : List SR} {i : Nat} (h : i < l.length) : hiS l (i + 1) = l[i].2 := by simp [hiS, h]
theorem set_step {l : List SR} {i : Nat} (h : i < l.length) (e : setFrom (-1) l = setFrom (hiS l i) (l.drop i)) : setFrom (-1) l = (oneS l[i] && decide (hiS l i < l[i].1) && setFrom (hiS l (i + 1)) (l.drop (i + 1))) := by
  rw [e, List.drop_eq_getElem_cons h, setFrom, hiS_succ h]

def T143 (l : List SR) (i : Nat) : St := { fr := mkF 34 [(0, .sl true (l.map srow)), (5, .sl true (l.map srow)), (6, .int .i64 l.length), (7, .int .i64 i)], own := [], hp := [], al := [], nb := 0 }

set_option maxHeartbeats 4000000 in
theorem call_20 (l : List SR) (hlen : l.length ≤ 100000) : (Lim cfg).call 20 [.sl true (l.map srow)] [] = some (.bool (setS l), false, []) := by
  refine call_eq fn_20 rfl ?_
  rw [k_start]
  simp only [Try.f20, st0, Nat.zero_add]
  simp only [go_sem, Nat.reduceAdd, Nat.reduceSub, Nat.reduceMul, Nat.reduceLT, Nat.reduceLeDiff, Nat.reduceEqDiff, Nat.reduceBEq, Nat.reduceBNe, reduceCtorEq, Int.reduceBNe, Int.reduceBEq, blt0]
  refine k_loop (T143 l) (fun i => i ≤ l.length ∧ setFrom (-1) l = setFrom (hiS l i) (l.drop i)) (fun i => l.length - i) 0 (K := cfg.kill 20 2) rfl ⟨Nat.zero_le _, rfl⟩ (by kernel_rfl) ?_
  intro i ⟨hi, hc⟩ k' Q' hnorm hexit hret
  simp only [T143, mkF, List.foldl, st0, List.set]
  simp only [go_sem, Nat.reduceAdd, Nat.reduceSub, Nat.reduceMul, Nat.reduceLT, Nat.reduceLeDiff, Nat.reduceEqDiff, Nat.reduceBEq, Nat.reduceBNe, reduceCtorEq, Int.reduceBNe, Int.reduceBEq, blt0]
  by_cases hlt : i < l.length
  · have h1 : (i : Int) < (l.length : Int) := by omega
    have h2 : ¬ ((i : Int) < 0) := by omega
    have hx : (l.map srow)[i]? = some (srow l[i]) := by simp [hlt]
    have hs := set_step hlt hc
    have c1 := call_31 l[i]
    simp only [srow] at c1
    have fail : ∀ s : St, s.fr.getD 2 .any = .bool false → (oneS l[i] && decide (hiS l i < l[i].1)) = false → WK cfg 20 none k' Q' .ret s := fun s h1 h2 => by
      refine hret _ ?_
      simp only [k_blk_ret, k_code_ret, k_nil]
      refine ret1n (fun _ => ex_ret) h1 rfl rfl ⟨?_, rfl, rfl⟩
      rw [setS, hs, h2]; rfl
    have pass : ∀ s : St, (oneS l[i] && decide (hiS l i < l[i].1)) = true → s.head (cfg.kill 20 2) = T143 l (i + 1) → WK cfg 20 none k' Q' .normal s := fun s h1 h2 => by
      refine hnorm (i + 1) s ⟨by omega, ?_⟩ (by omega) h2
      rw [hs, h1, Bool.true_and]
    by_cases ho : oneS l[i] = true
    · rw [ho] at c1
      by_cases hi0 : i = 0
      · subst hi0
        have h3 : ¬ (((0 : Nat) : Int) > 0) := by omega
        have hp : decide (hiS l 0 < l[0].1) = true := by
          have := of_decide_eq_true ho
          exact decide_eq_true (by simp only [hiS, if_true]; omega)
        simp only [go_sem, Nat.reduceAdd, Nat.reduceSub, Nat.reduceMul, Nat.reduceLT, Nat.reduceLeDiff, Nat.reduceEqDiff, Nat.reduceBEq, Nat.reduceBNe, reduceCtorEq, Int.reduceBNe, Int.reduceBEq, blt0, h1, h2, h3, hx, srow, Int.toNat_natCast, c1]
        try rw [wrap_i64 (by omega) (by omega)]
        refine pass _ (by rw [ho, hp]; rfl) (by kernel_rfl)
      · have h3 : (i : Int) > 0 := by omega
        have h4 : ¬ ((i : Int) - 1 < 0) := by omega
        have h5 : ((i : Int) - 1).toNat = i - 1 := by omega
        have h6 : IntKind.i64.wrap ((i : Int) - 1) = (i : Int) - 1 := wrap_i64 (by omega) (by omega)
        have h7 : (l.map srow)[i - 1]? = some (srow l[i - 1]) := by simp [show i - 1 < l.length by omega]
        have h8 : hiS l i = l[i - 1].2 := by simp [hiS, hi0, show i - 1 < l.length by omega]
        by_cases hb : l[i].1 ≤ l[i - 1].2
        · simp only [go_sem, Nat.reduceAdd, Nat.reduceSub, Nat.reduceMul, Nat.reduceLT, Nat.reduceLeDiff, Nat.reduceEqDiff, Nat.reduceBEq, Nat.reduceBNe, reduceCtorEq, Int.reduceBNe, Int.reduceBEq, blt0, h1, h2, h3, h4, h5, h6, h7, hx, srow, Int.toNat_natCast, c1, hb]
          refine fail _ rfl ?_
          rw [ho, Bool.true_and]
          exact decide_eq_false (by omega)
        · simp only [go_sem, Nat.reduceAdd, Nat.reduceSub, Nat.reduceMul, Nat.reduceLT, Nat.reduceLeDiff, Nat.reduceEqDiff, Nat.reduceBEq, Nat.reduceBNe, reduceCtorEq, Int.reduceBNe, Int.reduceBEq, blt0, h1, h2, h3, h4, h5, h6, h7, hx, srow, Int.toNat_natCast, c1, hb]
          try rw [wrap_i64 (by omega) (by omega)]
          refine pass _ ?_ (by kernel_rfl)
          rw [ho, Bool.true_and]
          exact decide_eq_true (by omega)
    · rw [Bool.not_eq_true] at ho
      rw [ho] at c1
      simp only [go_sem, Nat.reduceAdd, Nat.reduceSub, Nat.reduceMul, Nat.reduceLT, Nat.reduceLeDiff, Nat.reduceEqDiff, Nat.reduceBEq, Nat.reduceBNe, reduceCtorEq, Int.reduceBNe, Int.reduceBEq, blt0, h1, h2, hx, srow, Int.toNat_natCast, c1]
      refine fail _ rfl ?_
      rw [ho]; rfl
  · have h1 : ¬ (i : Int) < (l.length : Int) := by omega
    simp only [go_sem, Nat.reduceAdd, Nat.reduceSub, Nat.reduceMul, Nat.reduceLT, Nat.reduceLeDiff, Nat.reduceEqDiff, Nat.reduceBEq, Nat.reduceBNe, reduceCtorEq, Int.reduceBNe, Int.reduceBEq, blt0, h1]
    refine hexit 0 _ ?_
    simp only [go_sem, Nat.reduceAdd, Nat.reduceSub, Nat.reduceMul, Nat.reduceLT, Nat.reduceLeDiff, Nat.reduceEqDiff, Nat.reduceBEq, Nat.reduceBNe, reduceCtorEq, Int.reduceBNe, Int.reduceBEq, blt0, lenV]
    refine ret1n (fun _ => ex_ret) rfl rfl rfl ⟨?_, rfl, rfl⟩
    show V.bool _ = _
    rw [setS, hc, List.drop_of_length_le (by omega), setFrom, Bool.true_and, show decide ((l.length : Int) ≤ 64) = decide (l.length ≤ 64) from decide_eq_decide.2 (by omega)]
end Go.Proofs.Ytlfjmmcodkdlfaa
