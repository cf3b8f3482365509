/- What is told, read: the document's answer. -/
import Derived.Test.YthikboobkmfgfaaM27
import Derived.Test.YthikboobkmfgfaaM29
import Derived.Test.YthikboobkmfgfaaM31
set_option linter.all false
set_option maxRecDepth 100000
namespace Go.Proofs.Ythikboobkmfgfaa
open Go Go.Abs

/-- The number of the four bytes at a place. -/
def numAt (s : List UInt8) (i : Nat) : Nat := ((s.getD i 0).toNat * 256 + (s.getD (i + 1) 0).toNat) * 65536 + (s.getD (i + 2) 0).toNat * 256 + (s.getD (i + 3) 0).toNat
theorem readK_at {s : List UInt8} {i : Nat} (h : i + 4 ≤ s.length) : readK (s.drop i) = numAt s i :: readK (s.drop (i + 4)) := by
  have e : s.drop i = s.getD i 0 :: s.getD (i + 1) 0 :: s.getD (i + 2) 0 :: s.getD (i + 3) 0 :: s.drop (i + 4) := by
    have g : ∀ j, j < s.length → s.drop j = s.getD j 0 :: s.drop (j + 1) := fun j hj => by
      rw [List.drop_eq_getElem_cons hj, List.getD_eq_getElem?_getD, List.getElem?_eq_getElem hj]; rfl
    rw [g i (by omega), g (i + 1) (by omega), g (i + 2) (by omega), g (i + 3) (by omega)]
  rw [e, readK]
  congr 1
  unfold numK numAt
  omega
theorem u32_id {n : Nat} (h : n < 4294967296) : IntKind.u32.wrap (n : Int) = (n : Int) := by
  show (n : Int) % 4294967296 = _
  omega
theorem u32_mul (b : UInt8) (d : Nat) (hd : d ≤ 16777216) : IntKind.u32.wrap ((b.toNat : Int) * (d : Int)) = ((b.toNat * d : Nat) : Int) := by
  have h1 := b.toNat_lt
  have h2 : b.toNat * d ≤ 255 * 16777216 := Nat.mul_le_mul (by omega) hd
  have h3 := u32_id (n := b.toNat * d) (by omega)
  push_cast at h3 ⊢
  exact h3
def T18 (s0 : List UInt8) (lv : Int) (L : List Int) (x : List Nat × Nat × List CR × List UInt8 × Int) : St := { fr := mkF 122 [(0, .str s0), (2, .ptr 0 0), (4, .ptr 1 0), (6, .ptr 2 0), (8, .ptr 3 0), (9, .int .i64 x.2.1)], own := [], hp := [.cells 41 [1, 2, 3] (toldR 0 [] [] []), rrB x.2.2.2.1 x.2.2.2.2, .cells 38 [] (askR lv L), .cells 41 x.1 (toldR lv L [] x.2.2.1)], al := [], nb := 0 }
def T18k (s0 : List UInt8) (s1 : List UInt8) (e1 : Int) (lv : Int) (L : List Int) (x : List Nat × Nat) : St := { fr := mkF 122 [(0, .str s0), (2, .ptr 0 0), (4, .ptr 1 0), (8, .ptr 3 0), (15, .int .i64 x.2)], own := [], hp := [.cells 41 [1, 2, 3] (toldR 0 [] [] []), rrB s1 e1, .cells 38 [] (askR lv L), .cells 41 [2, 3] (toldR lv L x.1 [])], al := [], nb := 0 }
set_option maxHeartbeats 32000000 in
theorem call_18 (s0 : List UInt8) (hlen : s0.length ≤ 100000) :
    (Lim cfg).call 18 [.str s0] [] = some (.tup [.agg (toldR (rdT s0).1.1 (rdT s0).1.2.1 (rdT s0).1.2.2.1 (rdT s0).1.2.2.2), .int .i64 (rdT s0).2], false, []) := by
  have ct := call_47 s0 0 s0.length (by omega)
  have lt := txR_len s0 0 s0.length
  have hr : rdT s0 = rdT s0 := rfl
  conv at hr => rhs; unfold rdT
  simp only at hr
  generalize rdT s0 = RT at hr ⊢
  generalize txR s0 0 s0.length = t at hr ct lt
  have ca := call_16 t.1 (by omega)
  simp only [askR] at ca
  have la := rdA_len t.1
  generalize rdA t.1 = a at hr ca la
  obtain ⟨lv, L, ea⟩ := a
  obtain ⟨th, s1, e1⟩ := t
  simp only at hr ct ca la lt
  by_cases h1 : ea = 0
  · subst h1
    rw [if_pos rfl] at hr
    by_cases h2 : lv = -1
    · subst h2
      have lc := readC_len L.length s1 e1
      have c9 := call_23 (-1) L [] (readC L.length s1 e1) (by omega) (by simp) (by omega)
      simp only [toldR, List.map_nil] at c9
      rw [bodyT, if_pos rfl] at hr
      simp only at hr
      refine call_eq fn_18 rfl ?_
      rw [k_start]
      simp only [Try.f18, st0, Nat.zero_add]
      repeat' (first | simp (maxSteps := 10000000) (disch := omega) only [go_sem, Nat.reduceAdd, Nat.reduceSub, Nat.reduceMul, Nat.reduceLT, Nat.reduceLeDiff, Nat.reduceEqDiff, Nat.reduceBEq, Nat.reduceBNe, reduceCtorEq, Int.reduceBNe, Int.reduceBEq, au, lst, if_pos, if_neg, ct, ca] | simp (disch := (simp only [lens]; omega)) only [str_add, if_pos, if_neg] | ((with_reducible first | refine WC_split ?_ ?_ | refine WS_split ?_ ?_ | refine WD_split ?_ ?_) <;> intro hc <;> (try simp only [hc]) <;> (try simp only [bools] at hc) <;> (try (have hb : @Eq Bool _ _ := hc; simp only [hb]; clear hb))))
      refine k_loop (T18 s0 (-1) L) (fun x => x.2.1 ≤ L.length ∧ (x.1 = [2, 3] ∨ x.1 = [3, 2]) ∧ x.2.2.1.length = x.2.1 ∧ x.2.2.2.1.length ≤ 1000000000 ∧ x.2.2.1 ++ readC (L.length - x.2.1) x.2.2.2.1 x.2.2.2.2 = readC L.length s1 e1) (fun x => L.length - x.2.1) ([2, 3], 0, [], s1, e1) (K := cfg.kill 18 8) rfl ⟨Nat.zero_le _, .inl rfl, rfl, by show s1.length ≤ _; omega, rfl⟩ (by kernel_rfl) ?_
      intro ⟨ow, i, acc, s, e⟩ ⟨hi, how, hac, hsl, hO⟩ k' Q' hnorm hexit hret
      simp only at hi how hac hsl hO
      simp only [T18, mkF, List.foldl, st0, List.set]
      by_cases hlt : i < L.length
      · have hst : readC (L.length - i) s e = (clR s e).1 :: readC (L.length - (i + 1)) (clR s e).2.1 (clR s e).2.2 := by
          rw [show L.length - i = (L.length - (i + 1)) + 1 by omega, readC]
        have hfl := flR_len s e
        have cf := call_48 s e hsl
        have hap : (acc.length + 1) * 16 ≤ strMax := by unfold strMax; omega
        unfold clR at hst
        simp only at hst
        generalize flR s e = f at hst hfl cf
        obtain ⟨b, s2, e2⟩ := f
        simp only at hst hfl cf
        have cw := call_39 s2 e2 (by omega)
        have hsl2 := stR_len s2 e2
        clear hexit hret
        rcases how with rfl | rfl
        all_goals
          cases b with
          | false =>
            rw [if_neg (by simp)] at hst
            repeat' (first | simp (maxSteps := 10000000) (disch := omega) only [go_sem, Nat.reduceAdd, Nat.reduceSub, Nat.reduceMul, Nat.reduceLT, Nat.reduceLeDiff, Nat.reduceEqDiff, Nat.reduceBEq, Nat.reduceBNe, reduceCtorEq, Int.reduceBNe, Int.reduceBEq, au, lst, if_pos, if_neg, cf, askR, toldR, hap, fit_crow, head_crow, head_crow'] | simp (disch := (simp only [lens]; omega)) only [str_add, if_pos, if_neg] | ((with_reducible first | refine WC_split ?_ ?_ | refine WS_split ?_ ?_ | refine WD_split ?_ ?_) <;> intro hc <;> (try simp only [hc]) <;> (try simp only [bools] at hc) <;> (try (have hb : @Eq Bool _ _ := hc; simp only [hb]; clear hb))))
            refine hnorm ([3, 2], i + 1, acc ++ [(0, false)], s2, e2) _ ⟨by show i + 1 ≤ _; omega, .inr rfl, by rw [List.length_append, hac]; rfl, by show s2.length ≤ _; omega, ?_⟩ (by show L.length - (i + 1) < L.length - i; omega) ?_
            · show acc ++ [(0, false)] ++ readC _ _ _ = _
              rw [← hO, hst, List.append_assoc]; rfl
            · rw [T18]
              simp only [toldR, List.map_append]
              kernel_rfl
          | true =>
            rw [if_pos rfl] at hst
            repeat' (first | simp (maxSteps := 10000000) (disch := omega) only [go_sem, Nat.reduceAdd, Nat.reduceSub, Nat.reduceMul, Nat.reduceLT, Nat.reduceLeDiff, Nat.reduceEqDiff, Nat.reduceBEq, Nat.reduceBNe, reduceCtorEq, Int.reduceBNe, Int.reduceBEq, au, lst, if_pos, if_neg, cf, cw, askR, toldR, hap, fit_crow, head_crow, head_crow'] | simp (disch := (simp only [lens]; omega)) only [str_add, if_pos, if_neg] | ((with_reducible first | refine WC_split ?_ ?_ | refine WS_split ?_ ?_ | refine WD_split ?_ ?_) <;> intro hc <;> (try simp only [hc]) <;> (try simp only [bools] at hc) <;> (try (have hb : @Eq Bool _ _ := hc; simp only [hb]; clear hb))))
            refine hnorm ([3, 2], i + 1, acc ++ [(wholeR s2 e2, true)], stR s2 e2) _ ⟨by show i + 1 ≤ _; omega, .inr rfl, by rw [List.length_append, hac]; rfl, by show (stR s2 e2).1.length ≤ _; omega, ?_⟩ (by show L.length - (i + 1) < L.length - i; omega) ?_
            · show acc ++ [(wholeR s2 e2, true)] ++ readC _ _ _ = _
              rw [← hO, hst, List.append_assoc]; rfl
            · rw [T18]
              simp only [toldR, List.map_append]
              kernel_rfl
      · rw [show L.length - i = 0 by omega, readC, List.append_nil] at hO
        subst hO
        clear hnorm hret
        repeat' (first | simp (maxSteps := 10000000) (disch := omega) only [go_sem, Nat.reduceAdd, Nat.reduceSub, Nat.reduceMul, Nat.reduceLT, Nat.reduceLeDiff, Nat.reduceEqDiff, Nat.reduceBEq, Nat.reduceBNe, reduceCtorEq, Int.reduceBNe, Int.reduceBEq, au, lst, if_pos, if_neg, askR] | simp (disch := (simp only [lens]; omega)) only [str_add, if_pos, if_neg] | ((with_reducible first | refine WC_split ?_ ?_ | refine WS_split ?_ ?_ | refine WD_split ?_ ?_) <;> intro hc <;> (try simp only [hc]) <;> (try simp only [bools] at hc) <;> (try (have hb : @Eq Bool _ _ := hc; simp only [hb]; clear hb))))
        refine hexit _ _ ?_
        have hss : (s0 == s0) = true := by simp
        generalize toldS _ _ _ _ = w at c9 hr
        by_cases hw : w = s0
        · rw [if_pos hw] at hr
          subst hr
          rw [hw] at c9
          repeat' (first | simp (maxSteps := 10000000) (disch := omega) only [go_sem, Nat.reduceAdd, Nat.reduceSub, Nat.reduceMul, Nat.reduceLT, Nat.reduceLeDiff, Nat.reduceEqDiff, Nat.reduceBEq, Nat.reduceBNe, reduceCtorEq, Int.reduceBNe, Int.reduceBEq, au, lst, if_pos, if_neg, toldR, askR, c9, strOp, hss] | simp (disch := (simp only [lens]; omega)) only [str_add, if_pos, if_neg] | ((with_reducible first | refine WC_split ?_ ?_ | refine WS_split ?_ ?_ | refine WD_split ?_ ?_) <;> intro hc <;> (try simp only [hc]) <;> (try simp only [bools] at hc) <;> (try (have hb : @Eq Bool _ _ := hc; simp only [hb]; clear hb))))
          exact retM (fun _ => ex_ret) rfl rfl ⟨rfl, rfl, rfl⟩
        · rw [if_neg hw] at hr
          subst hr
          have hw2 : (w == s0) = false := by simpa using hw
          repeat' (first | simp (maxSteps := 10000000) (disch := omega) only [go_sem, Nat.reduceAdd, Nat.reduceSub, Nat.reduceMul, Nat.reduceLT, Nat.reduceLeDiff, Nat.reduceEqDiff, Nat.reduceBEq, Nat.reduceBNe, reduceCtorEq, Int.reduceBNe, Int.reduceBEq, au, lst, if_pos, if_neg, toldR, askR, c9, strOp, hw2] | simp (disch := (simp only [lens]; omega)) only [str_add, if_pos, if_neg] | ((with_reducible first | refine WC_split ?_ ?_ | refine WS_split ?_ ?_ | refine WD_split ?_ ?_) <;> intro hc <;> (try simp only [hc]) <;> (try simp only [bools] at hc) <;> (try (have hb : @Eq Bool _ _ := hc; simp only [hb]; clear hb))))
          exact retM (fun _ => ex_ret) rfl rfl ⟨rfl, rfl, rfl⟩
    · rw [bodyT, if_neg h2] at hr
      by_cases h3 : s1.length = 64 * L.length
      · rw [if_pos h3] at hr
        simp only at hr
        have lk := readK_len s1
        have c9 := call_23 lv L (readK s1) [] (by omega) (by omega) (by simp)
        simp only [toldR, List.map_nil] at c9
        refine call_eq fn_18 rfl ?_
        rw [k_start]
        simp only [Try.f18, st0, Nat.zero_add]
        repeat' (first | simp (maxSteps := 10000000) (disch := omega) only [go_sem, Nat.reduceAdd, Nat.reduceSub, Nat.reduceMul, Nat.reduceLT, Nat.reduceLeDiff, Nat.reduceEqDiff, Nat.reduceBEq, Nat.reduceBNe, reduceCtorEq, Int.reduceBNe, Int.reduceBEq, au, lst, if_pos, if_neg, ct, ca] | simp (disch := (simp only [lens]; omega)) only [str_add, if_pos, if_neg] | ((with_reducible first | refine WC_split ?_ ?_ | refine WS_split ?_ ?_ | refine WD_split ?_ ?_) <;> intro hc <;> (try simp only [hc]) <;> (try simp only [bools] at hc) <;> (try (have hb : @Eq Bool _ _ := hc; simp only [hb]; clear hb))))
        refine k_loop (T18k s0 s1 e1 lv L) (fun x => x.2 % 4 = 0 ∧ x.2 ≤ s1.length ∧ x.1.length ≤ x.2 ∧ x.1 ++ readK (s1.drop x.2) = readK s1) (fun x => s1.length - x.2) ([], 0) (K := cfg.kill 18 21) rfl ⟨rfl, Nat.zero_le _, Nat.zero_le _, rfl⟩ (by kernel_rfl) ?_
        intro ⟨acc, i⟩ ⟨hm, hsl, hac, hO⟩ k' Q' hnorm hexit hret
        simp only at hm hsl hac hO
        simp only [T18k, mkF, List.foldl, st0, List.set]
        by_cases hlt : i < s1.length
        · have h4 : i + 4 ≤ s1.length := by omega
          have hst := readK_at h4
          have hap : (acc.length + 1) * 4 ≤ strMax := by unfold strMax; omega
          clear hexit hret
          have g0 : s1.getD i 0 = s1[i] := by rw [List.getD_eq_getElem?_getD, List.getElem?_eq_getElem (by omega)]; rfl
          have g1 : s1.getD (i + 1) 0 = s1[i + 1] := by rw [List.getD_eq_getElem?_getD, List.getElem?_eq_getElem (by omega)]; rfl
          have g2 : s1.getD (i + 2) 0 = s1[i + 2] := by rw [List.getD_eq_getElem?_getD, List.getElem?_eq_getElem (by omega)]; rfl
          have g3 : s1.getD (i + 3) 0 = s1[i + 3] := by rw [List.getD_eq_getElem?_getD, List.getElem?_eq_getElem (by omega)]; rfl
          have b0 := s1[i].toNat_lt
          have b1 := s1[i + 1].toNat_lt
          have b2 := s1[i + 2].toNat_lt
          have b3 := s1[i + 3].toNat_lt
          have t2 : ((i : Int) + 2).toNat = i + 2 := by omega
          have t3 : ((i : Int) + 3).toNat = i + 3 := by omega
          have m0 : IntKind.u32.wrap ((s1[i].toNat : Int) * 16777216) = ((s1[i].toNat * 16777216 : Nat) : Int) := u32_mul s1[i] 16777216 (by decide)
          have m1 : IntKind.u32.wrap ((s1[i + 1].toNat : Int) * 65536) = ((s1[i + 1].toNat * 65536 : Nat) : Int) := u32_mul s1[i + 1] 65536 (by decide)
          have m2 : IntKind.u32.wrap ((s1[i + 2].toNat : Int) * 256) = ((s1[i + 2].toNat * 256 : Nat) : Int) := u32_mul s1[i + 2] 256 (by decide)
          have a1 : IntKind.u32.wrap (((s1[i].toNat * 16777216 : Nat) : Int) + ((s1[i + 1].toNat * 65536 : Nat) : Int)) = ((s1[i].toNat * 16777216 + s1[i + 1].toNat * 65536 : Nat) : Int) := u32_id (n := s1[i].toNat * 16777216 + s1[i + 1].toNat * 65536) (by omega)
          have a2 : IntKind.u32.wrap (((s1[i].toNat * 16777216 + s1[i + 1].toNat * 65536 : Nat) : Int) + ((s1[i + 2].toNat * 256 : Nat) : Int)) = ((s1[i].toNat * 16777216 + s1[i + 1].toNat * 65536 + s1[i + 2].toNat * 256 : Nat) : Int) := u32_id (n := s1[i].toNat * 16777216 + s1[i + 1].toNat * 65536 + s1[i + 2].toNat * 256) (by omega)
          have a3 : IntKind.u32.wrap (((s1[i].toNat * 16777216 + s1[i + 1].toNat * 65536 + s1[i + 2].toNat * 256 : Nat) : Int) + (s1[i + 3].toNat : Int)) = (numAt s1 i : Int) := by
            have e := u32_id (n := s1[i].toNat * 16777216 + s1[i + 1].toNat * 65536 + s1[i + 2].toNat * 256 + s1[i + 3].toNat) (by omega)
            rw [show numAt s1 i = s1[i].toNat * 16777216 + s1[i + 1].toNat * 65536 + s1[i + 2].toNat * 256 + s1[i + 3].toNat by rw [numAt, g0, g1, g2, g3]; omega]
            exact e
          repeat' (first | simp (maxSteps := 10000000) (disch := omega) only [go_sem, Nat.reduceAdd, Nat.reduceSub, Nat.reduceMul, Nat.reduceLT, Nat.reduceLeDiff, Nat.reduceEqDiff, Nat.reduceBEq, Nat.reduceBNe, reduceCtorEq, Int.reduceBNe, Int.reduceBEq, au, lst, if_pos, if_neg, toldR, t2, t3, u32_byte, m0, m1, m2, a1, a2, a3, hap, fit_urow, head_urow, head_urow'] | simp (disch := (simp only [lens]; omega)) only [str_add, if_pos, if_neg] | ((with_reducible first | refine WC_split ?_ ?_ | refine WS_split ?_ ?_ | refine WD_split ?_ ?_) <;> intro hc <;> (try simp only [hc]) <;> (try simp only [bools] at hc) <;> (try (have hb : @Eq Bool _ _ := hc; simp only [hb]; clear hb))))
          refine hnorm (acc ++ [numAt s1 i], i + 4) _ ⟨by show (i + 4) % 4 = 0; omega, h4, by show (acc ++ [_]).length ≤ _; rw [List.length_append, List.length_singleton]; omega, ?_⟩ (by show s1.length - (i + 4) < s1.length - i; omega) ?_
          · show acc ++ [numAt s1 i] ++ readK (s1.drop (i + 4)) = _
            rw [← hO, hst, List.append_assoc]; rfl
          · rw [T18k]
            simp only [toldR, List.map_append]
            kernel_rfl
        · rw [show s1.drop i = [] from List.drop_of_length_le (by omega), readK, List.append_nil] at hO
          · subst hO
            clear hnorm hret
            repeat' (first | simp (maxSteps := 10000000) (disch := omega) only [go_sem, Nat.reduceAdd, Nat.reduceSub, Nat.reduceMul, Nat.reduceLT, Nat.reduceLeDiff, Nat.reduceEqDiff, Nat.reduceBEq, Nat.reduceBNe, reduceCtorEq, Int.reduceBNe, Int.reduceBEq, au, lst, if_pos, if_neg] | simp (disch := (simp only [lens]; omega)) only [str_add, if_pos, if_neg] | ((with_reducible first | refine WC_split ?_ ?_ | refine WS_split ?_ ?_ | refine WD_split ?_ ?_) <;> intro hc <;> (try simp only [hc]) <;> (try simp only [bools] at hc) <;> (try (have hb : @Eq Bool _ _ := hc; simp only [hb]; clear hb))))
            refine hexit _ _ ?_
            have hss : (s0 == s0) = true := by simp
            generalize toldS _ _ _ _ = w at c9 hr
            by_cases hw : w = s0
            · rw [if_pos hw] at hr
              subst hr
              rw [hw] at c9
              repeat' (first | simp (maxSteps := 10000000) (disch := omega) only [go_sem, Nat.reduceAdd, Nat.reduceSub, Nat.reduceMul, Nat.reduceLT, Nat.reduceLeDiff, Nat.reduceEqDiff, Nat.reduceBEq, Nat.reduceBNe, reduceCtorEq, Int.reduceBNe, Int.reduceBEq, au, lst, if_pos, if_neg, toldR, askR, c9, strOp, hss] | simp (disch := (simp only [lens]; omega)) only [str_add, if_pos, if_neg] | ((with_reducible first | refine WC_split ?_ ?_ | refine WS_split ?_ ?_ | refine WD_split ?_ ?_) <;> intro hc <;> (try simp only [hc]) <;> (try simp only [bools] at hc) <;> (try (have hb : @Eq Bool _ _ := hc; simp only [hb]; clear hb))))
              exact retM (fun _ => ex_ret) rfl rfl ⟨rfl, rfl, rfl⟩
            · rw [if_neg hw] at hr
              subst hr
              have hw2 : (w == s0) = false := by simpa using hw
              repeat' (first | simp (maxSteps := 10000000) (disch := omega) only [go_sem, Nat.reduceAdd, Nat.reduceSub, Nat.reduceMul, Nat.reduceLT, Nat.reduceLeDiff, Nat.reduceEqDiff, Nat.reduceBEq, Nat.reduceBNe, reduceCtorEq, Int.reduceBNe, Int.reduceBEq, au, lst, if_pos, if_neg, toldR, askR, c9, strOp, hw2] | simp (disch := (simp only [lens]; omega)) only [str_add, if_pos, if_neg] | ((with_reducible first | refine WC_split ?_ ?_ | refine WS_split ?_ ?_ | refine WD_split ?_ ?_) <;> intro hc <;> (try simp only [hc]) <;> (try simp only [bools] at hc) <;> (try (have hb : @Eq Bool _ _ := hc; simp only [hb]; clear hb))))
              exact retM (fun _ => ex_ret) rfl rfl ⟨rfl, rfl, rfl⟩
          all_goals simp
      · rw [if_neg h3] at hr
        simp only at hr
        have c9 := call_23 lv L [] [] (by omega) (by simp) (by simp)
        simp only [toldR, List.map_nil] at c9
        refine call_eq fn_18 rfl ?_
        rw [k_start]
        simp only [Try.f18, st0, Nat.zero_add]
        repeat' (first | simp (maxSteps := 10000000) (disch := omega) only [go_sem, Nat.reduceAdd, Nat.reduceSub, Nat.reduceMul, Nat.reduceLT, Nat.reduceLeDiff, Nat.reduceEqDiff, Nat.reduceBEq, Nat.reduceBNe, reduceCtorEq, Int.reduceBNe, Int.reduceBEq, au, lst, if_pos, if_neg, ct, ca] | simp (disch := (simp only [lens]; omega)) only [str_add, if_pos, if_neg] | ((with_reducible first | refine WC_split ?_ ?_ | refine WS_split ?_ ?_ | refine WD_split ?_ ?_) <;> intro hc <;> (try simp only [hc]) <;> (try simp only [bools] at hc) <;> (try (have hb : @Eq Bool _ _ := hc; simp only [hb]; clear hb))))
        have hss : (s0 == s0) = true := by simp
        generalize toldS _ _ _ _ = w at c9 hr
        by_cases hw : w = s0
        · rw [if_pos hw] at hr
          subst hr
          rw [hw] at c9
          repeat' (first | simp (maxSteps := 10000000) (disch := omega) only [go_sem, Nat.reduceAdd, Nat.reduceSub, Nat.reduceMul, Nat.reduceLT, Nat.reduceLeDiff, Nat.reduceEqDiff, Nat.reduceBEq, Nat.reduceBNe, reduceCtorEq, Int.reduceBNe, Int.reduceBEq, au, lst, if_pos, if_neg, toldR, askR, c9, strOp, hss] | simp (disch := (simp only [lens]; omega)) only [str_add, if_pos, if_neg] | ((with_reducible first | refine WC_split ?_ ?_ | refine WS_split ?_ ?_ | refine WD_split ?_ ?_) <;> intro hc <;> (try simp only [hc]) <;> (try simp only [bools] at hc) <;> (try (have hb : @Eq Bool _ _ := hc; simp only [hb]; clear hb))))
          exact retM (fun _ => ex_ret) rfl rfl ⟨rfl, rfl, rfl⟩
        · rw [if_neg hw] at hr
          subst hr
          have hw2 : (w == s0) = false := by simpa using hw
          repeat' (first | simp (maxSteps := 10000000) (disch := omega) only [go_sem, Nat.reduceAdd, Nat.reduceSub, Nat.reduceMul, Nat.reduceLT, Nat.reduceLeDiff, Nat.reduceEqDiff, Nat.reduceBEq, Nat.reduceBNe, reduceCtorEq, Int.reduceBNe, Int.reduceBEq, au, lst, if_pos, if_neg, toldR, askR, c9, strOp, hw2] | simp (disch := (simp only [lens]; omega)) only [str_add, if_pos, if_neg] | ((with_reducible first | refine WC_split ?_ ?_ | refine WS_split ?_ ?_ | refine WD_split ?_ ?_) <;> intro hc <;> (try simp only [hc]) <;> (try simp only [bools] at hc) <;> (try (have hb : @Eq Bool _ _ := hc; simp only [hb]; clear hb))))
          exact retM (fun _ => ex_ret) rfl rfl ⟨rfl, rfl, rfl⟩
  · rw [if_neg h1] at hr
    subst hr
    refine call_eq fn_18 rfl ?_
    rw [k_start]
    simp only [Try.f18, st0, Nat.zero_add]
    repeat' (first | simp (maxSteps := 10000000) (disch := omega) only [go_sem, Nat.reduceAdd, Nat.reduceSub, Nat.reduceMul, Nat.reduceLT, Nat.reduceLeDiff, Nat.reduceEqDiff, Nat.reduceBEq, Nat.reduceBNe, reduceCtorEq, Int.reduceBNe, Int.reduceBEq, au, lst, if_pos, if_neg, ct, ca] | simp (disch := (simp only [lens]; omega)) only [str_add, if_pos, if_neg] | ((with_reducible first | refine WC_split ?_ ?_ | refine WS_split ?_ ?_ | refine WD_split ?_ ?_) <;> intro hc <;> (try simp only [hc]) <;> (try simp only [bools] at hc) <;> (try (have hb : @Eq Bool _ _ := hc; simp only [hb]; clear hb))))
    exact retM (fun _ => ex_ret) rfl rfl ⟨rfl, rfl, rfl⟩
end Go.Proofs.Ythikboobkmfgfaa
