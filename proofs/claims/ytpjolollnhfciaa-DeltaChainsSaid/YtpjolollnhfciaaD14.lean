/- What turns make, one behind the other: the document's answer. -/
import Derived.Test.YtpjolollnhfciaaD13
set_option linter.all false
set_option maxRecDepth 100000
namespace Go.Proofs.Ytpjolollnhfciaa
open Go Go.Abs

def S19 (l m : List TR) (x : Nat × Nat × Nat × List TR) : St := { fr := mkF 103 [(0, .sl true (l.map trow)), (1, .sl true (m.map trow)), (6, .sl true (x.2.2.2.map trow)), (7, .sl true ((kmerge l m).map irow)), (8, .int .i64 x.1)], own := [6], hp := [], al := [], nb := 0 }

set_option maxHeartbeats 32000000 in
theorem call_19 (l m : List TR) (hl : l.length ≤ 10000) (hm' : m.length ≤ 10000) : (Lim cfg).call 19 [.sl true (l.map trow), .sl true (m.map trow)] [] = some (.tup [.sl true ((thenR l m).1.map trow), .int .i64 (thenR l m).2], false, []) := by
  have c1 := call_31 l (by omega)
  have c2 := call_31 m (by omega)
  have c45 := call_45 l m hl hm'
  have hcl := fun key => call_46 l key (by omega)
  have hcm := fun key => call_46 m key (by omega)
  unfold thenR
  refine call_eq fn_19 rfl ?_
  rw [k_start]
  simp only [Try.f19, List.length_cons, List.length_nil, Nat.zero_add, Nat.reduceSub, Nat.reduceAdd, List.replicate, List.cons_append, List.nil_append]
  simp only [go_sem, Nat.reduceAdd, Nat.reduceSub, Nat.reduceMul, Nat.reduceLT, Nat.reduceLeDiff, Nat.reduceEqDiff, Nat.reduceBEq, Nat.reduceBNe, reduceCtorEq, Nat.reduceLT, ty_29, ty_88, ty_68, ty_3, ty_4, ty_40, ext_46, ext_31, c1]
  cases h1 : chkT l with
  | false =>
    simp only [go_sem, Nat.reduceAdd, Nat.reduceSub, Nat.reduceMul, Nat.reduceLT, Nat.reduceLeDiff, Nat.reduceEqDiff, Nat.reduceBEq, Nat.reduceBNe, reduceCtorEq, Nat.reduceLT, h1]
    refine ret2 (fun _ => ex_ret) rfl rfl rfl rfl ⟨rfl, rfl, rfl⟩
  | true =>
    simp only [go_sem, Nat.reduceAdd, Nat.reduceSub, Nat.reduceMul, Nat.reduceLT, Nat.reduceLeDiff, Nat.reduceEqDiff, Nat.reduceBEq, Nat.reduceBNe, reduceCtorEq, Nat.reduceLT, h1, ext_31, c2]
    cases h2 : chkT m with
    | false =>
      simp only [go_sem, Nat.reduceAdd, Nat.reduceSub, Nat.reduceMul, Nat.reduceLT, Nat.reduceLeDiff, Nat.reduceEqDiff, Nat.reduceBEq, Nat.reduceBNe, reduceCtorEq, Nat.reduceLT, h2]
      refine ret2 (fun _ => ex_ret) rfl rfl rfl rfl ⟨rfl, rfl, rfl⟩
    | true =>
    simp only [go_sem, Nat.reduceAdd, Nat.reduceSub, Nat.reduceMul, Nat.reduceLT, Nat.reduceLeDiff, Nat.reduceEqDiff, Nat.reduceBEq, Nat.reduceBNe, reduceCtorEq, Nat.reduceLT, h2, ty_29, ty_88, ty_68, ty_3, ty_4, ty_40, ext_46, ext_45, c45]
    obtain ⟨KK, hK⟩ : ∃ KK, kmerge l m = KK := ⟨_, rfl⟩
    have hKl : KK.length ≤ 20000 := by have := kmerge_len l m; rw [hK] at this; omega
    refine k_loop (S19 l m) (fun x => x.1 ≤ KK.length ∧ x.2.1 ≤ l.length ∧ x.2.2.1 ≤ m.length ∧ x.2.2.2.length ≤ x.1 ∧ KK.drop x.1 = kmerge (l.drop x.2.1) (m.drop x.2.2.1) ∧ (∃ lo, FrontT l x.2.1 lo ∧ FrontT m x.2.2.1 lo) ∧ tm (l.drop x.2.1) (m.drop x.2.2.1) x.2.2.2 = tm l m []) (fun x => KK.length - x.1) (0, 0, 0, []) (K := cfg.kill 19 6) rfl
      ⟨Nat.zero_le _, Nat.zero_le _, Nat.zero_le _, Nat.le_refl _, by simp [hK], ⟨-1, .start h1, .start h2⟩, rfl⟩ (by kernel_rfl) ?_
    intro ⟨n, i, k, O⟩ ⟨hn, hia, hkb, hol, hKd, ⟨lo, hfl, hfm⟩, hm⟩ k' Q' hnorm hexit hret
    simp only at hn hia hkb hol hKd hm
    have hbO : (O.length + 1) * 40 ≤ strMax := by unfold strMax; omega
    have hn2 : ¬ ((n : Int) < 0) := by omega
    simp only [S19, mkF, List.foldl, List.replicate, List.set, List.cons_append, List.nil_append]
    rw [hK]
    have hi2 : ¬ ((i : Int) < 0) := by omega
    have hk2 : ¬ ((k : Int) < 0) := by omega
    have hi4 : (i : Int) ≥ 0 := by omega
    have hk4 : (k : Int) ≥ 0 := by omega
    have hz : ¬ (-1 : Int) ≥ 0 := by omega
    by_cases hi : i < l.length
    · have hx : (l.map trow)[i]? = some [.int .i64 l[i].1, .int .i64 l[i].2.1.1, .bool l[i].2.1.2, .int .i64 l[i].2.2.1, .bool l[i].2.2.2] := by simp [hi, trow]
      have hgl := hfl.get hi
      by_cases hk : k < m.length
      · have hy : (m.map trow)[k]? = some [.int .i64 m[k].1, .int .i64 m[k].2.1.1, .bool m[k].2.1.2, .int .i64 m[k].2.2.1, .bool m[k].2.2.2] := by simp [hk, trow]
        have hgm := hfm.get hk
        by_cases hlt : l[i].1 < m[k].1
        · rw [kmergeAB hi hk, if_pos hlt, ← List.drop_eq_getElem_cons hk] at hKd
          obtain ⟨hn', hKn, hKr⟩ := kstep hKd
          have hn1 : (n : Int) < (KK.length : Int) := by omega
          have hz' : (KK.map irow)[n]? = some [.int .i64 l[i].1] := by simp [hn', hKn, irow]
          have hil := hfl.idx hi
          have him : idxT m l[i].1 = -1 := hfm.no hgl.1 fun _ => hlt
          have ht : tadd O l[i] = O ++ [l[i]] := by rw [tadd, if_neg hgl.2.2.1]
          simp only [go_sem, Nat.reduceAdd, Nat.reduceSub, Nat.reduceMul, Nat.reduceLT, Nat.reduceLeDiff, Nat.reduceEqDiff, Nat.reduceBEq, Nat.reduceBNe, reduceCtorEq, Nat.reduceLT, ty_29, ty_88, ty_68, ty_3, ty_4, ty_40, ext_46, draw_19_8, draw_19_10, draw_19_12, draw_19_13, hcl, hcm, hz', hil, him, hx, hi2, hi4, hz, Int.toNat_natCast, fit_trow, head_trow, hbO, head_trow', hn1, hn2]
          rw [wrap_i64 (n := (n : Int) + 1) (by omega) (by omega)]
          refine hnorm (n + 1, i + 1, k, O ++ [l[i]]) _ ⟨by show n + 1 ≤ _; omega, by show i + 1 ≤ _; omega, by show k ≤ _; omega, by have := tadd_len O; show List.length (O ++ [l[i]]) ≤ n + 1; rw [List.length_append]; simp only [List.length_singleton]; omega, ?_, ⟨_, hfl.adv hi, hfm.stay hgl.1 fun _ => hlt⟩, ?_⟩ (by show _ - (n + 1) < _ - n; omega) ?_
          · show KK.drop (n + 1) = _
            rw [hKr]; try rfl
          · show tm _ _ (O ++ [l[i]]) = _
            rw [← hm, tmAB hi hk, if_pos hlt, ← List.drop_eq_getElem_cons hk, ht]; try rfl
          · rw [S19, hK, List.map_append]; kernel_rfl
        · by_cases hgt : m[k].1 < l[i].1
          · rw [kmergeAB hi hk, if_neg hlt, if_pos hgt, ← List.drop_eq_getElem_cons hi] at hKd
            obtain ⟨hn', hKn, hKr⟩ := kstep hKd
            have hn1 : (n : Int) < (KK.length : Int) := by omega
            have hz' : (KK.map irow)[n]? = some [.int .i64 m[k].1] := by simp [hn', hKn, irow]
            have him := hfm.idx hk
            have hil : idxT l m[k].1 = -1 := hfl.no hgm.1 fun _ => hgt
            have ht : tadd O m[k] = O ++ [m[k]] := by rw [tadd, if_neg hgm.2.2.1]
            simp only [go_sem, Nat.reduceAdd, Nat.reduceSub, Nat.reduceMul, Nat.reduceLT, Nat.reduceLeDiff, Nat.reduceEqDiff, Nat.reduceBEq, Nat.reduceBNe, reduceCtorEq, Nat.reduceLT, ty_29, ty_88, ty_68, ty_3, ty_4, ty_40, ext_46, draw_19_8, draw_19_10, draw_19_12, draw_19_13, hcl, hcm, hz', hil, him, hy, hk2, hk4, hz, Int.toNat_natCast, fit_trow, head_trow, hbO, head_trow', hn1, hn2]
            rw [wrap_i64 (n := (n : Int) + 1) (by omega) (by omega)]
            refine hnorm (n + 1, i, k + 1, O ++ [m[k]]) _ ⟨by show n + 1 ≤ _; omega, by show i ≤ _; omega, by show k + 1 ≤ _; omega, by have := tadd_len O; show List.length (O ++ [m[k]]) ≤ n + 1; rw [List.length_append]; simp only [List.length_singleton]; omega, ?_, ⟨_, hfl.stay hgm.1 fun _ => hgt, hfm.adv hk⟩, ?_⟩ (by show _ - (n + 1) < _ - n; omega) ?_
            · show KK.drop (n + 1) = _
              rw [hKr]; try rfl
            · show tm _ _ (O ++ [m[k]]) = _
              rw [← hm, tmAB hi hk, if_neg hlt, if_pos hgt, ← List.drop_eq_getElem_cons hi, ht]; try rfl
            · rw [S19, hK, List.map_append]; kernel_rfl
          · rw [kmergeAB hi hk, if_neg hlt, if_neg hgt] at hKd
            obtain ⟨hn', hKn, hKr⟩ := kstep hKd
            have hn1 : (n : Int) < (KK.length : Int) := by omega
            have hz' : (KK.map irow)[n]? = some [.int .i64 l[i].1] := by simp [hn', hKn, irow]
            have hil := hfl.idx hi
            have heq : l[i].1 = m[k].1 := by omega
            have him : idxT m l[i].1 = k := heq ▸ hfm.idx hk
            simp only [go_sem, Nat.reduceAdd, Nat.reduceSub, Nat.reduceMul, Nat.reduceLT, Nat.reduceLeDiff, Nat.reduceEqDiff, Nat.reduceBEq, Nat.reduceBNe, reduceCtorEq, Nat.reduceLT, ty_29, ty_88, ty_68, ty_3, ty_4, ty_40, ext_46, draw_19_8, draw_19_10, hcl, hcm, hz', hil, him, hx, hy, hi2, hi4, hk2, hk4, hz, Int.toNat_natCast, fit_trow, head_trow, hbO, head_trow', hn1, hn2]
            rw [eq_cell]
            refine WC_split (fun he => ?_) (fun he => ?_) <;> simp only [go_sem, Nat.reduceAdd, Nat.reduceSub, Nat.reduceMul, Nat.reduceLT, Nat.reduceLeDiff, Nat.reduceEqDiff, Nat.reduceBEq, Nat.reduceBNe, reduceCtorEq, Nat.reduceLT, ty_29, ty_88, ty_68, ty_3, ty_4, ty_40, ext_46]
            · simp only [Bool.not_eq_true', decide_eq_false_iff_not] at he
              refine hret _ ?_
              simp only [go_sem, Nat.reduceAdd, Nat.reduceSub, Nat.reduceMul, Nat.reduceLT, Nat.reduceLeDiff, Nat.reduceEqDiff, Nat.reduceBEq, Nat.reduceBNe, reduceCtorEq, Nat.reduceLT]
              refine ret2 (fun _ => ex_ret) rfl rfl rfl rfl ⟨?_, rfl, rfl⟩
              rw [← hm, tmAB hi hk, if_neg hlt, if_neg hgt, if_neg he]; rfl
            · simp only [Bool.not_eq_false', decide_eq_true_eq] at he
              have hm2 : tm (l.drop i) (m.drop k) O = tm (l.drop (i + 1)) (m.drop (k + 1)) (tadd O (l[i].1, l[i].2.1, m[k].2.2)) := by rw [tmAB hi hk, if_neg hlt, if_neg hgt, if_pos he]
              simp only [go_sem, Nat.reduceAdd, Nat.reduceSub, Nat.reduceMul, Nat.reduceLT, Nat.reduceLeDiff, Nat.reduceEqDiff, Nat.reduceBEq, Nat.reduceBNe, reduceCtorEq, Nat.reduceLT, ty_29, ty_88, ty_68, ty_3, ty_4, ty_40, ext_46, draw_19_12, hz', hil, him, hx, hy, hi2, hi4, hk2, hk4, hz, Int.toNat_natCast, fit_trow, head_trow, hbO, head_trow', hn1, hn2]
              rw [eq_cell]
              refine WC_split (fun he2 => ?_) (fun he2 => ?_) <;> simp only [go_sem, Nat.reduceAdd, Nat.reduceSub, Nat.reduceMul, Nat.reduceLT, Nat.reduceLeDiff, Nat.reduceEqDiff, Nat.reduceBEq, Nat.reduceBNe, reduceCtorEq, Nat.reduceLT, ty_29, ty_88, ty_68, ty_3, ty_4, ty_40, ext_46, draw_19_13, hcl, hcm, hz', hil, him, hx, hy, hi2, hi4, hk2, hk4, hz, Int.toNat_natCast, fit_trow, head_trow, hbO, head_trow', hn1, hn2]
              · simp only [Bool.not_eq_true', decide_eq_false_iff_not] at he2
                have ht : tadd O (l[i].1, l[i].2.1, m[k].2.2) = O ++ [(l[i].1, l[i].2.1, m[k].2.2)] := by rw [tadd, if_neg he2]
                rw [wrap_i64 (n := (n : Int) + 1) (by omega) (by omega)]
                refine hnorm (n + 1, i + 1, k + 1, O ++ [(l[i].1, l[i].2.1, m[k].2.2)]) _ ⟨by show n + 1 ≤ _; omega, by show i + 1 ≤ _; omega, by show k + 1 ≤ _; omega, by have := tadd_len O; show List.length (O ++ [(l[i].1, l[i].2.1, m[k].2.2)]) ≤ n + 1; rw [List.length_append]; simp only [List.length_singleton]; omega, ?_, ⟨_, hfl.adv hi, heq ▸ hfm.adv hk⟩, ?_⟩ (by show _ - (n + 1) < _ - n; omega) ?_
                · show KK.drop (n + 1) = _
                  rw [hKr]; try rfl
                · show tm _ _ (O ++ [(l[i].1, l[i].2.1, m[k].2.2)]) = _
                  rw [← hm, hm2, ht]; try rfl
                · rw [S19, hK, List.map_append]; kernel_rfl
              · simp only [Bool.not_eq_false', decide_eq_true_eq] at he2
                have ht : tadd O (l[i].1, l[i].2.1, m[k].2.2) = O := by rw [tadd, if_pos he2]
                rw [wrap_i64 (n := (n : Int) + 1) (by omega) (by omega)]
                refine hnorm (n + 1, i + 1, k + 1, O) _ ⟨by show n + 1 ≤ _; omega, by show i + 1 ≤ _; omega, by show k + 1 ≤ _; omega, by have := tadd_len O; show List.length (O) ≤ n + 1; omega, ?_, ⟨_, hfl.adv hi, heq ▸ hfm.adv hk⟩, ?_⟩ (by show _ - (n + 1) < _ - n; omega) ?_
                · show KK.drop (n + 1) = _
                  rw [hKr]; try rfl
                · show tm _ _ (O) = _
                  rw [← hm, hm2, ht]; try rfl
                · rw [S19, hK]; kernel_rfl
      · rw [kmergeA0 hi hk] at hKd
        obtain ⟨hn', hKn, hKr⟩ := kstep hKd
        have hn1 : (n : Int) < (KK.length : Int) := by omega
        have hz' : (KK.map irow)[n]? = some [.int .i64 l[i].1] := by simp [hn', hKn, irow]
        have hil := hfl.idx hi
        have him : idxT m l[i].1 = -1 := hfm.no hgl.1 fun h => absurd h hk
        have ht : tadd O l[i] = O ++ [l[i]] := by rw [tadd, if_neg hgl.2.2.1]
        simp only [go_sem, Nat.reduceAdd, Nat.reduceSub, Nat.reduceMul, Nat.reduceLT, Nat.reduceLeDiff, Nat.reduceEqDiff, Nat.reduceBEq, Nat.reduceBNe, reduceCtorEq, Nat.reduceLT, ty_29, ty_88, ty_68, ty_3, ty_4, ty_40, ext_46, draw_19_8, draw_19_10, draw_19_12, draw_19_13, hcl, hcm, hz', hil, him, hx, hi2, hi4, hz, Int.toNat_natCast, fit_trow, head_trow, hbO, head_trow', hn1, hn2]
        rw [wrap_i64 (n := (n : Int) + 1) (by omega) (by omega)]
        refine hnorm (n + 1, i + 1, k, O ++ [l[i]]) _ ⟨by show n + 1 ≤ _; omega, by show i + 1 ≤ _; omega, by show k ≤ _; omega, by have := tadd_len O; show List.length (O ++ [l[i]]) ≤ n + 1; rw [List.length_append]; simp only [List.length_singleton]; omega, ?_, ⟨_, hfl.adv hi, hfm.stay hgl.1 fun h => absurd h hk⟩, ?_⟩ (by show _ - (n + 1) < _ - n; omega) ?_
        · show KK.drop (n + 1) = _
          rw [hKr]; try rfl
        · show tm _ _ (O ++ [l[i]]) = _
          rw [← hm, tmA0 hi hk, ht]; try rfl
        · rw [S19, hK, List.map_append]; kernel_rfl
    · by_cases hk : k < m.length
      · have hy : (m.map trow)[k]? = some [.int .i64 m[k].1, .int .i64 m[k].2.1.1, .bool m[k].2.1.2, .int .i64 m[k].2.2.1, .bool m[k].2.2.2] := by simp [hk, trow]
        have hgm := hfm.get hk
        rw [kmerge0B hi hk] at hKd
        obtain ⟨hn', hKn, hKr⟩ := kstep hKd
        have hn1 : (n : Int) < (KK.length : Int) := by omega
        have hz' : (KK.map irow)[n]? = some [.int .i64 m[k].1] := by simp [hn', hKn, irow]
        have him := hfm.idx hk
        have hil : idxT l m[k].1 = -1 := hfl.no hgm.1 fun h => absurd h hi
        have ht : tadd O m[k] = O ++ [m[k]] := by rw [tadd, if_neg hgm.2.2.1]
        simp only [go_sem, Nat.reduceAdd, Nat.reduceSub, Nat.reduceMul, Nat.reduceLT, Nat.reduceLeDiff, Nat.reduceEqDiff, Nat.reduceBEq, Nat.reduceBNe, reduceCtorEq, Nat.reduceLT, ty_29, ty_88, ty_68, ty_3, ty_4, ty_40, ext_46, draw_19_8, draw_19_10, draw_19_12, draw_19_13, hcl, hcm, hz', hil, him, hy, hk2, hk4, hz, Int.toNat_natCast, fit_trow, head_trow, hbO, head_trow', hn1, hn2]
        rw [wrap_i64 (n := (n : Int) + 1) (by omega) (by omega)]
        refine hnorm (n + 1, i, k + 1, O ++ [m[k]]) _ ⟨by show n + 1 ≤ _; omega, by show i ≤ _; omega, by show k + 1 ≤ _; omega, by have := tadd_len O; show List.length (O ++ [m[k]]) ≤ n + 1; rw [List.length_append]; simp only [List.length_singleton]; omega, ?_, ⟨_, hfl.stay hgm.1 fun h => absurd h hi, hfm.adv hk⟩, ?_⟩ (by show _ - (n + 1) < _ - n; omega) ?_
        · show KK.drop (n + 1) = _
          rw [hKr]; try rfl
        · show tm _ _ (O ++ [m[k]]) = _
          rw [← hm, tm0B hi hk, ht]; try rfl
        · rw [S19, hK, List.map_append]; kernel_rfl
      · rw [List.drop_of_length_le (l := l) (by omega), List.drop_of_length_le (l := m) (by omega), kmerge] at hKd
        have hnl := congrArg List.length hKd
        rw [List.length_drop, List.length_nil] at hnl
        have hn1 : ¬ (n : Int) < (KK.length : Int) := by omega
        simp only [go_sem, Nat.reduceAdd, Nat.reduceSub, Nat.reduceMul, Nat.reduceLT, Nat.reduceLeDiff, Nat.reduceEqDiff, Nat.reduceBEq, Nat.reduceBNe, reduceCtorEq, Nat.reduceLT, ty_29, ty_88, ty_68, ty_3, ty_4, ty_40, ext_46, hn1]
        refine hexit 0 _ ?_
        simp only [go_sem, Nat.reduceAdd, Nat.reduceSub, Nat.reduceMul, Nat.reduceLT, Nat.reduceLeDiff, Nat.reduceEqDiff, Nat.reduceBEq, Nat.reduceBNe, reduceCtorEq, Nat.reduceLT]
        refine ret2 (fun _ => ex_ret) rfl rfl rfl rfl ⟨?_, rfl, rfl⟩
        rw [← hm, tm_nil hi hk]; rfl
end Go.Proofs.Ytpjolollnhfciaa
