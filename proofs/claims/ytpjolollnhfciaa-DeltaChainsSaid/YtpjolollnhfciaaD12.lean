/- Keys of turns: found, put together, compared. -/
import Derived.Test.YtpjolollnhfciaaD11
set_option linter.all false
set_option maxRecDepth 100000
namespace Go.Proofs.Ytpjolollnhfciaa
open Go Go.Abs

def S46 (l : List TR) (key : Int) (i : Nat) : St := { fr := mkF 20 [(0, .sl true (l.map trow)), (1, .int .i64 key), (5, .int .i64 i)], own := [], hp := [], al := [], nb := 0 }
def idxT (l : List TR) (key : Int) : Int := match l.findIdx? (fun t => t.1 == key) with | some i => i | none => -1
set_option maxHeartbeats 4000000 in
theorem call_46 (l : List TR) (key : Int) (hlen : l.length ≤ 100000) : (Lim cfg).call 46 [.sl true (l.map trow), .int .i64 key] [] = some (.int .i64 (idxT l key), false, []) := by
  refine call_eq fn_46 rfl ?_
  rw [k_start]
  simp only [Try.f46, List.length_cons, List.length_nil, Nat.zero_add, Nat.reduceSub, Nat.reduceAdd, List.replicate, List.cons_append, List.nil_append]
  simp only [go_sem, Nat.reduceAdd, Nat.reduceSub, Nat.reduceMul, Nat.reduceLT, Nat.reduceLeDiff, Nat.reduceEqDiff, Nat.reduceBEq, Nat.reduceBNe, reduceCtorEq, Nat.reduceLT, ty_29, ty_88, ty_68, ty_3, ty_4]
  refine k_loop (S46 l key) (fun i => i ≤ l.length ∧ ∀ t ∈ l.take i, ¬ t.1 = key) (fun i => l.length - i) 0 (K := cfg.kill 46 2) rfl ⟨Nat.zero_le _, by simp⟩ (by kernel_rfl) ?_
  intro i ⟨hi, hc⟩ k' Q' hnorm hexit hret
  simp only [S46, mkF, List.foldl, List.replicate, List.set, List.cons_append, List.nil_append]
  simp only [go_sem, Nat.reduceAdd, Nat.reduceSub, Nat.reduceMul, Nat.reduceLT, Nat.reduceLeDiff, Nat.reduceEqDiff, Nat.reduceBEq, Nat.reduceBNe, reduceCtorEq, Nat.reduceLT, ty_29, ty_88, ty_68, ty_3, ty_4]
  by_cases hlt : i < l.length
  · have h1 : (i : Int) < (l.length : Int) := by omega
    have h2 : ¬ ((i : Int) < 0) := by omega
    have hx : (l.map trow)[i]? = some (trow l[i]) := by simp [hlt]
    simp only [go_sem, Nat.reduceAdd, Nat.reduceSub, Nat.reduceMul, Nat.reduceLT, Nat.reduceLeDiff, Nat.reduceEqDiff, Nat.reduceBEq, Nat.reduceBNe, reduceCtorEq, Nat.reduceLT, ty_29, ty_88, ty_68, ty_3, ty_4, h1, h2, hx, trow, Int.toNat_natCast]
    refine WC_split (fun hb => ?_) (fun hb => ?_) <;> simp only [go_sem, Nat.reduceAdd, Nat.reduceSub, Nat.reduceMul, Nat.reduceLT, Nat.reduceLeDiff, Nat.reduceEqDiff, Nat.reduceBEq, Nat.reduceBNe, reduceCtorEq, Nat.reduceLT]
    · refine hret _ ?_
      simp only [go_sem, Nat.reduceAdd, Nat.reduceSub, Nat.reduceMul, Nat.reduceLT, Nat.reduceLeDiff, Nat.reduceEqDiff, Nat.reduceBEq, Nat.reduceBNe, reduceCtorEq, Nat.reduceLT]
      refine ret1n (fun _ => ex_ret) rfl rfl rfl ⟨?_, rfl, rfl⟩
      show V.int .i64 (i : Int) = _
      have : l.findIdx? (fun t => t.1 == key) = some i := by
        rw [List.findIdx?_eq_some_iff_getElem]
        refine ⟨hlt, hb, fun j hj => ?_⟩
        have := hc l[j] (List.mem_take_iff_getElem.2 ⟨j, by omega, rfl⟩)
        simpa using this
      rw [idxT, this]
    · simp only [beq_eq_false_iff_ne] at hb
      rw [wrap_i64 (by omega) (by omega)]
      refine hnorm (i + 1) _ ⟨by omega, fun t ht => ?_⟩ (by omega) (by kernel_rfl)
      rw [List.take_succ_eq_append_getElem hlt, List.mem_append, List.mem_singleton] at ht
      rcases ht with ht | rfl
      · exact hc t ht
      · exact hb
  · have h1 : ¬ (i : Int) < (l.length : Int) := by omega
    simp only [go_sem, Nat.reduceAdd, Nat.reduceSub, Nat.reduceMul, Nat.reduceLT, Nat.reduceLeDiff, Nat.reduceEqDiff, Nat.reduceBEq, Nat.reduceBNe, reduceCtorEq, Nat.reduceLT, h1]
    refine hexit 0 _ ?_
    simp only [go_sem, Nat.reduceAdd, Nat.reduceSub, Nat.reduceMul, Nat.reduceLT, Nat.reduceLeDiff, Nat.reduceEqDiff, Nat.reduceBEq, Nat.reduceBNe, reduceCtorEq, Nat.reduceLT]
    refine ret1n (fun _ => ex_ret) rfl rfl rfl ⟨?_, rfl, rfl⟩
    show V.int .i64 (-1) = _
    have : l.findIdx? (fun t => t.1 == key) = none := by
      rw [List.findIdx?_eq_none_iff]
      intro t ht
      rw [List.take_of_length_le (by omega)] at hc
      simpa using hc t ht
    rw [idxT, this]

def irow (n : Int) : List V := [.int .i64 n]
theorem fit_irow (l : List Int) : rowsFit 1 (l.map irow) = true := by cases l <;> rfl
theorem head_irow (l : List Int) : headByte (l.map irow) = false := by cases l <;> rfl
theorem head_irow' (l : List Int) (n : Int) : headByte (l.map irow ++ [[.int .i64 n]]) = false := by cases l <;> rfl

def kmerge : List TR → List TR → List Int
  | [], [] => []
  | p :: A, [] => p.1 :: kmerge A []
  | [], q :: B => q.1 :: kmerge [] B
  | p :: A, q :: B =>
    if p.1 < q.1 then p.1 :: kmerge A (q :: B)
    else if q.1 < p.1 then q.1 :: kmerge (p :: A) B
    else p.1 :: kmerge A B
  termination_by A B => A.length + B.length
theorem kmergeAB {l m : List TR} {i k : Nat} (hi : i < l.length) (hk : k < m.length) : kmerge (l.drop i) (m.drop k) =
    if l[i].1 < m[k].1 then l[i].1 :: kmerge (l.drop (i + 1)) (m[k] :: m.drop (k + 1))
    else if m[k].1 < l[i].1 then m[k].1 :: kmerge (l[i] :: l.drop (i + 1)) (m.drop (k + 1))
    else l[i].1 :: kmerge (l.drop (i + 1)) (m.drop (k + 1)) := by
  rw [List.drop_eq_getElem_cons hi, List.drop_eq_getElem_cons hk, kmerge]
theorem kmergeA0 {l m : List TR} {i k : Nat} (hi : i < l.length) (hk : ¬ k < m.length) : kmerge (l.drop i) (m.drop k) = l[i].1 :: kmerge (l.drop (i + 1)) (m.drop k) := by
  rw [List.drop_eq_getElem_cons hi, List.drop_of_length_le (l := m) (by omega), kmerge]
theorem kmerge0B {l m : List TR} {i k : Nat} (hi : ¬ i < l.length) (hk : k < m.length) : kmerge (l.drop i) (m.drop k) = m[k].1 :: kmerge (l.drop i) (m.drop (k + 1)) := by
  rw [List.drop_eq_getElem_cons hk, List.drop_of_length_le (l := l) (by omega), kmerge]

def S45 (l m : List TR) (x : Nat × Nat × List Int) : St := { fr := mkF 91 [(0, .sl true (l.map trow)), (1, .sl true (m.map trow)), (5, .sl true (x.2.2.map irow)), (6, .int .i64 x.1), (7, .int .i64 x.2.1)], own := [5], hp := [], al := [], nb := 0 }
set_option maxHeartbeats 16000000 in
theorem call_45 (l m : List TR) (hl : l.length ≤ 10000) (hm' : m.length ≤ 10000) : (Lim cfg).call 45 [.sl true (l.map trow), .sl true (m.map trow)] [] = some (.sl true ((kmerge l m).map irow), false, []) := by
  refine call_eq fn_45 rfl ?_
  rw [k_start]
  simp only [Try.f45, List.length_cons, List.length_nil, Nat.zero_add, Nat.reduceSub, Nat.reduceAdd, List.replicate, List.cons_append, List.nil_append]
  simp only [go_sem, Nat.reduceAdd, Nat.reduceSub, Nat.reduceMul, Nat.reduceLT, Nat.reduceLeDiff, Nat.reduceEqDiff, Nat.reduceBEq, Nat.reduceBNe, reduceCtorEq, Nat.reduceLT, ty_29, ty_88, ty_68, ty_3, ty_4, ty_40]
  refine k_loop (S45 l m) (fun x => x.1 ≤ l.length ∧ x.2.1 ≤ m.length ∧ x.2.2.length ≤ x.1 + x.2.1 ∧ x.2.2 ++ kmerge (l.drop x.1) (m.drop x.2.1) = kmerge l m) (fun x => (l.length - x.1) + (m.length - x.2.1)) (0, 0, []) (K := cfg.kill 45 3) rfl
    ⟨Nat.zero_le _, Nat.zero_le _, Nat.le_refl _, rfl⟩ (by kernel_rfl) ?_
  intro ⟨i, k, O⟩ ⟨hia, hkb, hol, hm⟩ k' Q' hnorm hexit hret
  simp only at hia hkb hol hm
  have hbO : (O.length + 1) * 8 ≤ strMax := by unfold strMax; omega
  simp only [S45, mkF, List.foldl, List.replicate, List.set, List.cons_append, List.nil_append]
  by_cases hi : i < l.length
  · have hi1 : (i : Int) < (l.length : Int) := by omega
    have hi2 : ¬ ((i : Int) < 0) := by omega
    have hi3 : ((i : Int) == (l.length : Int)) = false := by simp; omega
    have hx : (l.map trow)[i]? = some [.int .i64 l[i].1, .int .i64 l[i].2.1.1, .bool l[i].2.1.2, .int .i64 l[i].2.2.1, .bool l[i].2.2.2] := by simp [hi, trow]
    by_cases hk : k < m.length
    · have hk1 : (k : Int) < (m.length : Int) := by omega
      have hk2 : ¬ ((k : Int) < 0) := by omega
      have hk3 : ((k : Int) == (m.length : Int)) = false := by simp; omega
      have hy : (m.map trow)[k]? = some [.int .i64 m[k].1, .int .i64 m[k].2.1.1, .bool m[k].2.1.2, .int .i64 m[k].2.2.1, .bool m[k].2.2.2] := by simp [hk, trow]
      by_cases hlt : l[i].1 < m[k].1
      · simp only [go_sem, Nat.reduceAdd, Nat.reduceSub, Nat.reduceMul, Nat.reduceLT, Nat.reduceLeDiff, Nat.reduceEqDiff, Nat.reduceBEq, Nat.reduceBNe, reduceCtorEq, Nat.reduceLT, ty_29, ty_88, ty_68, ty_3, ty_4, ty_40, draw_45_4, draw_45_7, hi1, hk1, hi2, hk2, hi3, hk3, hx, hy, hlt, Int.toNat_natCast, fit_irow, head_irow, hbO, head_irow']
        rw [wrap_i64 (n := (i : Int) + 1) (by omega) (by omega)]
        refine hnorm (i + 1, k, O ++ [l[i].1]) _ ⟨by show i + 1 ≤ _; omega, by show k ≤ _; omega, by show (O ++ [l[i].1]).length ≤ i + 1 + (k); rw [List.length_append]; simp only [List.length_singleton]; omega, ?_⟩ ?_ (by rw [S45, List.map_append]; kernel_rfl)
        · show O ++ [l[i].1] ++ _ = _
          rw [← hm, List.append_assoc, kmergeAB hi hk, if_pos hlt, List.drop_eq_getElem_cons hk]; rfl
        · show (l.length - (i + 1)) + (m.length - (k)) < (l.length - i) + (m.length - k); omega
      by_cases hgt : m[k].1 < l[i].1
      · simp only [go_sem, Nat.reduceAdd, Nat.reduceSub, Nat.reduceMul, Nat.reduceLT, Nat.reduceLeDiff, Nat.reduceEqDiff, Nat.reduceBEq, Nat.reduceBNe, reduceCtorEq, Nat.reduceLT, ty_29, ty_88, ty_68, ty_3, ty_4, ty_40, draw_45_4, draw_45_7, hi1, hk1, hi2, hk2, hi3, hk3, hx, hy, hlt, hgt, Int.toNat_natCast, fit_irow, head_irow, hbO, head_irow']
        rw [wrap_i64 (n := (k : Int) + 1) (by omega) (by omega)]
        refine hnorm (i, k + 1, O ++ [m[k].1]) _ ⟨by show i ≤ _; omega, by show k + 1 ≤ _; omega, by show (O ++ [m[k].1]).length ≤ i + (k + 1); rw [List.length_append]; simp only [List.length_singleton]; omega, ?_⟩ ?_ (by rw [S45, List.map_append]; kernel_rfl)
        · show O ++ [m[k].1] ++ _ = _
          rw [← hm, List.append_assoc, kmergeAB hi hk, if_neg hlt, if_pos hgt, List.drop_eq_getElem_cons hi]; rfl
        · show (l.length - (i)) + (m.length - (k + 1)) < (l.length - i) + (m.length - k); omega
      · simp only [go_sem, Nat.reduceAdd, Nat.reduceSub, Nat.reduceMul, Nat.reduceLT, Nat.reduceLeDiff, Nat.reduceEqDiff, Nat.reduceBEq, Nat.reduceBNe, reduceCtorEq, Nat.reduceLT, ty_29, ty_88, ty_68, ty_3, ty_4, ty_40, draw_45_4, draw_45_7, hi1, hk1, hi2, hk2, hi3, hk3, hx, hy, hlt, hgt, Int.toNat_natCast, fit_irow, head_irow, hbO, head_irow']
        rw [wrap_i64 (n := (i : Int) + 1) (by omega) (by omega)]
        rw [wrap_i64 (n := (k : Int) + 1) (by omega) (by omega)]
        refine hnorm (i + 1, k + 1, O ++ [l[i].1]) _ ⟨by show i + 1 ≤ _; omega, by show k + 1 ≤ _; omega, by show (O ++ [l[i].1]).length ≤ i + 1 + (k + 1); rw [List.length_append]; simp only [List.length_singleton]; omega, ?_⟩ ?_ (by rw [S45, List.map_append]; kernel_rfl)
        · show O ++ [l[i].1] ++ _ = _
          rw [← hm, List.append_assoc, kmergeAB hi hk, if_neg hlt, if_neg hgt]; rfl
        · show (l.length - (i + 1)) + (m.length - (k + 1)) < (l.length - i) + (m.length - k); omega
    · have hk1 : ¬ (k : Int) < (m.length : Int) := by omega
      have hk3 : ((k : Int) == (m.length : Int)) = true := by simp; omega
      simp only [go_sem, Nat.reduceAdd, Nat.reduceSub, Nat.reduceMul, Nat.reduceLT, Nat.reduceLeDiff, Nat.reduceEqDiff, Nat.reduceBEq, Nat.reduceBNe, reduceCtorEq, Nat.reduceLT, ty_29, ty_88, ty_68, ty_3, ty_4, ty_40, draw_45_4, draw_45_7, hi1, hk1, hi2, hi3, hk3, hx, Int.toNat_natCast, fit_irow, head_irow, hbO, head_irow']
      rw [wrap_i64 (n := (i : Int) + 1) (by omega) (by omega)]
      refine hnorm (i + 1, k, O ++ [l[i].1]) _ ⟨by show i + 1 ≤ _; omega, by show k ≤ _; omega, by show (O ++ [l[i].1]).length ≤ i + 1 + (k); rw [List.length_append]; simp only [List.length_singleton]; omega, ?_⟩ ?_ (by rw [S45, List.map_append]; kernel_rfl)
      · show O ++ [l[i].1] ++ _ = _
        rw [← hm, List.append_assoc, kmergeA0 hi hk]; rfl
      · show (l.length - (i + 1)) + (m.length - (k)) < (l.length - i) + (m.length - k); omega
  · have hi1 : ¬ (i : Int) < (l.length : Int) := by omega
    have hi3 : ((i : Int) == (l.length : Int)) = true := by simp; omega
    by_cases hk : k < m.length
    · have hk1 : (k : Int) < (m.length : Int) := by omega
      have hk2 : ¬ ((k : Int) < 0) := by omega
      have hk3 : ((k : Int) == (m.length : Int)) = false := by simp; omega
      have hy : (m.map trow)[k]? = some [.int .i64 m[k].1, .int .i64 m[k].2.1.1, .bool m[k].2.1.2, .int .i64 m[k].2.2.1, .bool m[k].2.2.2] := by simp [hk, trow]
      simp only [go_sem, Nat.reduceAdd, Nat.reduceSub, Nat.reduceMul, Nat.reduceLT, Nat.reduceLeDiff, Nat.reduceEqDiff, Nat.reduceBEq, Nat.reduceBNe, reduceCtorEq, Nat.reduceLT, ty_29, ty_88, ty_68, ty_3, ty_4, ty_40, draw_45_4, draw_45_7, hi1, hk1, hk2, hi3, hk3, hy, Int.toNat_natCast, fit_irow, head_irow, hbO, head_irow']
      rw [wrap_i64 (n := (k : Int) + 1) (by omega) (by omega)]
      refine hnorm (i, k + 1, O ++ [m[k].1]) _ ⟨by show i ≤ _; omega, by show k + 1 ≤ _; omega, by show (O ++ [m[k].1]).length ≤ i + (k + 1); rw [List.length_append]; simp only [List.length_singleton]; omega, ?_⟩ ?_ (by rw [S45, List.map_append]; kernel_rfl)
      · show O ++ [m[k].1] ++ _ = _
        rw [← hm, List.append_assoc, kmerge0B hi hk]; rfl
      · show (l.length - (i)) + (m.length - (k + 1)) < (l.length - i) + (m.length - k); omega
    · have hk1 : ¬ (k : Int) < (m.length : Int) := by omega
      simp only [go_sem, Nat.reduceAdd, Nat.reduceSub, Nat.reduceMul, Nat.reduceLT, Nat.reduceLeDiff, Nat.reduceEqDiff, Nat.reduceBEq, Nat.reduceBNe, reduceCtorEq, Nat.reduceLT, ty_29, ty_88, ty_68, ty_3, ty_4, ty_40, hi1, hk1]
      refine hexit 0 _ ?_
      simp only [go_sem, Nat.reduceAdd, Nat.reduceSub, Nat.reduceMul, Nat.reduceLT, Nat.reduceLeDiff, Nat.reduceEqDiff, Nat.reduceBEq, Nat.reduceBNe, reduceCtorEq, Nat.reduceLT]
      refine ret1 (fun _ => ex_ret) rfl rfl rfl ⟨?_, rfl, rfl⟩
      rw [← hm, List.drop_of_length_le (by omega), List.drop_of_length_le (by omega), kmerge, List.append_nil]; rfl

def S22 (a b : List Int) (i : Nat) : St := { fr := mkF 26 [(0, .sl true (a.map irow)), (1, .sl true (b.map irow)), (5, .int .i64 i)], own := [], hp := [], al := [], nb := 0 }
set_option maxHeartbeats 4000000 in
theorem call_22 (a b : List Int) (hlen : a.length ≤ 100000) (hlen2 : b.length ≤ 100000) : (Lim cfg).call 22 [.sl true (a.map irow), .sl true (b.map irow)] [] = some (.bool (decide (a = b)), false, []) := by
  by_cases hl : a.length = b.length
  · have hl2 : ((a.length : Int) != (b.length : Int)) = false := by simp [hl]
    refine call_eq fn_22 rfl ?_
    rw [k_start]
    simp only [Try.f22, List.length_cons, List.length_nil, Nat.zero_add, Nat.reduceSub, Nat.reduceAdd, List.replicate, List.cons_append, List.nil_append]
    simp only [go_sem, Nat.reduceAdd, Nat.reduceSub, Nat.reduceMul, Nat.reduceLT, Nat.reduceLeDiff, Nat.reduceEqDiff, Nat.reduceBEq, Nat.reduceBNe, reduceCtorEq, Nat.reduceLT, ty_40, ty_3, hl2]
    refine k_loop (S22 a b) (fun i => i ≤ a.length ∧ a.take i = b.take i) (fun i => a.length - i) 0 (K := cfg.kill 22 4) rfl ⟨Nat.zero_le _, rfl⟩ (by kernel_rfl) ?_
    intro i ⟨hi, hc⟩ k' Q' hnorm hexit hret
    simp only [S22, mkF, List.foldl, List.replicate, List.set, List.cons_append, List.nil_append]
    simp only [go_sem, Nat.reduceAdd, Nat.reduceSub, Nat.reduceMul, Nat.reduceLT, Nat.reduceLeDiff, Nat.reduceEqDiff, Nat.reduceBEq, Nat.reduceBNe, reduceCtorEq, Nat.reduceLT, ty_40, ty_3]
    by_cases hlt : i < a.length
    · have h1 : (i : Int) < (a.length : Int) := by omega
      have h2 : ¬ ((i : Int) < 0) := by omega
      have hx : (a.map irow)[i]? = some (irow a[i]) := by simp [hlt]
      have hy : (b.map irow)[i]? = some (irow b[i]) := by simp [show i < b.length by omega]
      simp only [go_sem, Nat.reduceAdd, Nat.reduceSub, Nat.reduceMul, Nat.reduceLT, Nat.reduceLeDiff, Nat.reduceEqDiff, Nat.reduceBEq, Nat.reduceBNe, reduceCtorEq, Nat.reduceLT, ty_40, ty_3, draw_22_6, h1, h2, hx, hy, irow, Int.toNat_natCast]
      have hab : a[i] = b[i] ↔ a.take (i + 1) = b.take (i + 1) := by
        have ib : i < b.length := by omega
        have ea := List.take_succ_eq_append_getElem hlt
        have eb := List.take_succ_eq_append_getElem ib
        rw [ea, eb, hc]
        constructor
        · intro h; rw [h]
        · intro h; exact (List.cons.inj (List.append_cancel_left h)).1
      refine WC_split (fun hb => ?_) (fun hb => ?_) <;> simp only [go_sem, Nat.reduceAdd, Nat.reduceSub, Nat.reduceMul, Nat.reduceLT, Nat.reduceLeDiff, Nat.reduceEqDiff, Nat.reduceBEq, Nat.reduceBNe, reduceCtorEq, Nat.reduceLT]
      · refine hret _ ?_
        simp only [go_sem, Nat.reduceAdd, Nat.reduceSub, Nat.reduceMul, Nat.reduceLT, Nat.reduceLeDiff, Nat.reduceEqDiff, Nat.reduceBEq, Nat.reduceBNe, reduceCtorEq, Nat.reduceLT]
        refine ret1n (fun _ => ex_ret) rfl rfl rfl ⟨?_, rfl, rfl⟩
        show V.bool _ = _
        simp only [bne_iff_ne, ne_eq] at hb
        rw [decide_eq_false (fun h => hb (by rw [hab, h]))]
      · rw [wrap_i64 (by omega) (by omega)]
        simp only [bne_eq_false_iff_eq] at hb
        exact hnorm (i + 1) _ ⟨by omega, hab.1 hb⟩ (by omega) (by kernel_rfl)
    · have h1 : ¬ (i : Int) < (a.length : Int) := by omega
      simp only [go_sem, Nat.reduceAdd, Nat.reduceSub, Nat.reduceMul, Nat.reduceLT, Nat.reduceLeDiff, Nat.reduceEqDiff, Nat.reduceBEq, Nat.reduceBNe, reduceCtorEq, Nat.reduceLT, h1]
      refine hexit 0 _ ?_
      simp only [go_sem, Nat.reduceAdd, Nat.reduceSub, Nat.reduceMul, Nat.reduceLT, Nat.reduceLeDiff, Nat.reduceEqDiff, Nat.reduceBEq, Nat.reduceBNe, reduceCtorEq, Nat.reduceLT]
      refine ret1n (fun _ => ex_ret) rfl rfl rfl ⟨?_, rfl, rfl⟩
      rw [List.take_of_length_le (by omega), List.take_of_length_le (by omega)] at hc
      show V.bool _ = _
      rw [decide_eq_true hc]
  · have hl2 : ((a.length : Int) != (b.length : Int)) = true := by simp; omega
    refine call_eq fn_22 rfl ?_
    rw [k_start]
    simp only [Try.f22, List.length_cons, List.length_nil, Nat.zero_add, Nat.reduceSub, Nat.reduceAdd, List.replicate, List.cons_append, List.nil_append]
    simp only [go_sem, Nat.reduceAdd, Nat.reduceSub, Nat.reduceMul, Nat.reduceLT, Nat.reduceLeDiff, Nat.reduceEqDiff, Nat.reduceBEq, Nat.reduceBNe, reduceCtorEq, Nat.reduceLT, ty_40, ty_3, hl2]
    refine ret1n (fun _ => ex_ret) rfl rfl rfl ⟨?_, rfl, rfl⟩
    show V.bool _ = _
    rw [decide_eq_false (fun h => hl (by rw [h]))]
end Go.Proofs.Ytpjolollnhfciaa
