/- Readers of bytes: the program's Num, by the walk. -/
import Derived.Test.YthikboobkmfgfaaG3
set_option linter.all false
set_option maxRecDepth 100000
namespace Go.Proofs.Ythikboobkmfgfaa
open Go Go.Abs

def S48 (s : List UInt8) (x : Nat × Nat) : St := { fr := mkF 72 [(0, .ptr 0 0), (3, .int .i64 x.2), (13, .int .i64 s.length), (14, .int .i64 x.1)], own := [], hp := [rdB s 0], al := [], nb := 1 }
set_option maxHeartbeats 16000000 in
theorem call_77 (s : List UInt8) (e : Int) (hlen : s.length ≤ 1000000000) : (Lim cfg).call 77 [.ptr 0 0] [rdB s e] = some (.int .i64 (numR s e).1, false, [rdB (numR s e).2.1 (numR s e).2.2]) := by
  have call70 := call_95 s hlen
  refine call_eq fn_77 rfl ?_
  rw [k_start]
  simp only [Try.f77, List.length_cons, List.length_nil, Nat.zero_add, Nat.reduceSub, Nat.reduceAdd, List.replicate, List.cons_append, List.nil_append]
  simp only [go_sem, Nat.reduceAdd, Nat.reduceSub, Nat.reduceMul, Nat.reduceLT, Nat.reduceLeDiff, Nat.reduceEqDiff, Nat.reduceBEq, Nat.reduceBNe, reduceCtorEq, Int.reduceBNe, Int.reduceBEq, ty_96, ty_144, ty_9, ty_33, ty_3, ty_5, blt_zero]
  rw [callHeap_eq (R := [0]) (v' := .int .i64 e) (own' := false) (hp3 := [rdB s e]) (by kernel_rfl) (by kernel_rfl) (by kernel_rfl) (by kernel_rfl) (call_78 s e) (by kernel_rfl) rfl rfl]
  by_cases he : e = 0
  · subst he
    have h0 : ((0 : Int) != 0) = false := rfl
    simp only [rdB]
    simp only [go_sem, Nat.reduceAdd, Nat.reduceSub, Nat.reduceMul, Nat.reduceLT, Nat.reduceLeDiff, Nat.reduceEqDiff, Nat.reduceBEq, Nat.reduceBNe, reduceCtorEq, Int.reduceBNe, Int.reduceBEq, ty_96, ty_144, ty_9, ty_33, ty_3, ty_5, h0]
    refine k_loop (S48 s) (fun x => x.1 ≤ s.length ∧ x.1 ≤ 9 ∧ x.2 < 2 ^ (7 * x.1) ∧ (numG 0 s).1 = (numG x.1 (s.drop x.1)).1 ∧ (numG 0 s).2.1 = x.2 + 2 ^ (7 * x.1) * (numG x.1 (s.drop x.1)).2.1 ∧ (numG 0 s).2.2 = (numG x.1 (s.drop x.1)).2.2 ∧ wholeG 0 s = wholeG x.1 (s.drop x.1)) (fun x => s.length - x.1) (0, 0) (K := cfg.kill 77 5) rfl
      ⟨Nat.zero_le _, Nat.zero_le _, by decide, rfl, by simp, rfl, rfl⟩ (by kernel_rfl) ?_
    intro ⟨i, n⟩ ⟨hi, hi9, hn, g1, g2, g3, hw⟩ k' Q' hnorm hexit hret
    simp only at hi hi9 hn g1 g2 g3 hw
    simp only [S48, mkF, List.foldl, st0, List.set]
    simp only [rdB]
    by_cases hlt : i < s.length
    · have h1 : (i : Int) < (s.length : Int) := by omega
      have h2 : ¬ ((i : Int) < 0) := by omega
      have hx : s[i]? = some s[i] := List.getElem?_eq_getElem hlt
      have hd := List.drop_eq_getElem_cons hlt
      by_cases h9 : i = 9
      · have h9' : ((i : Int) == 9) = true := by simp [h9]
        have hwh : wholeG 0 s = true := by rw [hw, hd, wholeG, if_pos (.inl h9)]
        have hG : (numG 0 s).1 = 3 := by rw [g1, hd, numG, if_pos (.inl h9)]
        simp only [go_sem, Nat.reduceAdd, Nat.reduceSub, Nat.reduceMul, Nat.reduceLT, Nat.reduceLeDiff, Nat.reduceEqDiff, Nat.reduceBEq, Nat.reduceBNe, reduceCtorEq, Int.reduceBNe, Int.reduceBEq, ty_96, ty_144, ty_9, ty_33, ty_3, ty_5, h1, h2, hx, h9', Int.toNat_natCast]
        have hN : numR s 0 = (0, [], 3) := by rw [numR, if_pos rfl, if_neg (by rw [hG]; decide), hG]
        refine hexit 0 _ ?_
        simp only [go_sem, Nat.reduceAdd, Nat.reduceSub, Nat.reduceMul, Nat.reduceLT, Nat.reduceLeDiff, Nat.reduceEqDiff, Nat.reduceBEq, Nat.reduceBNe, reduceCtorEq, Int.reduceBNe, Int.reduceBEq, ty_96, ty_144, ty_9, ty_33, ty_3, ty_5, blt_zero, call70, hwh]
        rw [callHeap_eq (R := [0]) (v' := .tup []) (own' := false) (hp3 := [rdB [] 3]) (by kernel_rfl) (by kernel_rfl) (by kernel_rfl) (by kernel_rfl) (call_80 s 0 3) (by kernel_rfl) rfl rfl]
        simp only [go_sem, Nat.reduceAdd, Nat.reduceSub, Nat.reduceMul, Nat.reduceLT, Nat.reduceLeDiff, Nat.reduceEqDiff, Nat.reduceBEq, Nat.reduceBNe, reduceCtorEq, Int.reduceBNe, Int.reduceBEq, ty_96, ty_144, ty_9, ty_33, ty_3, ty_5, blt_zero]
        rw [callHeap_eq (R := [0]) (v' := .tup []) (own' := false) (hp3 := [rdB [] 3]) (by kernel_rfl) (by kernel_rfl) (by kernel_rfl) (by kernel_rfl) (call_80 [] 3 5) (by kernel_rfl) rfl rfl]
        simp only [go_sem, Nat.reduceAdd, Nat.reduceSub, Nat.reduceMul, Nat.reduceLT, Nat.reduceLeDiff, Nat.reduceEqDiff, Nat.reduceBEq, Nat.reduceBNe, reduceCtorEq, Int.reduceBNe, Int.reduceBEq, ty_96, ty_144, ty_9, ty_33, ty_3, ty_5]
        refine ⟨fun _ => ex_ret, .int .i64 0, false, rfl, ?_, rfl, ?_⟩
        · rw [hN]
        · rw [hN]; kernel_rfl
      · have h9' : ((i : Int) == 9) = false := by simp; omega
        by_cases hz : 0 < i ∧ s[i] = 0
        · have hz1 : (i : Int) > 0 := by omega
          have hz2 : (((s[i].toNat : Nat) : Int) == 0) = true := by rw [hz.2]; rfl
          have hwh : wholeG 0 s = true := by rw [hw, hd, wholeG, if_pos (.inr (by rw [hz.2]; decide))]
          have hG : (numG 0 s).1 = 3 := by rw [g1, hd, numG, if_pos (.inr hz)]
          simp only [go_sem, Nat.reduceAdd, Nat.reduceSub, Nat.reduceMul, Nat.reduceLT, Nat.reduceLeDiff, Nat.reduceEqDiff, Nat.reduceBEq, Nat.reduceBNe, reduceCtorEq, Int.reduceBNe, Int.reduceBEq, ty_96, ty_144, ty_9, ty_33, ty_3, ty_5, h1, h2, hx, h9', hz1, hz2, Int.toNat_natCast]
          have hN : numR s 0 = (0, [], 3) := by rw [numR, if_pos rfl, if_neg (by rw [hG]; decide), hG]
          refine hexit 0 _ ?_
          simp only [go_sem, Nat.reduceAdd, Nat.reduceSub, Nat.reduceMul, Nat.reduceLT, Nat.reduceLeDiff, Nat.reduceEqDiff, Nat.reduceBEq, Nat.reduceBNe, reduceCtorEq, Int.reduceBNe, Int.reduceBEq, ty_96, ty_144, ty_9, ty_33, ty_3, ty_5, blt_zero, call70, hwh]
          rw [callHeap_eq (R := [0]) (v' := .tup []) (own' := false) (hp3 := [rdB [] 3]) (by kernel_rfl) (by kernel_rfl) (by kernel_rfl) (by kernel_rfl) (call_80 s 0 3) (by kernel_rfl) rfl rfl]
          simp only [go_sem, Nat.reduceAdd, Nat.reduceSub, Nat.reduceMul, Nat.reduceLT, Nat.reduceLeDiff, Nat.reduceEqDiff, Nat.reduceBEq, Nat.reduceBNe, reduceCtorEq, Int.reduceBNe, Int.reduceBEq, ty_96, ty_144, ty_9, ty_33, ty_3, ty_5, blt_zero]
          rw [callHeap_eq (R := [0]) (v' := .tup []) (own' := false) (hp3 := [rdB [] 3]) (by kernel_rfl) (by kernel_rfl) (by kernel_rfl) (by kernel_rfl) (call_80 [] 3 5) (by kernel_rfl) rfl rfl]
          simp only [go_sem, Nat.reduceAdd, Nat.reduceSub, Nat.reduceMul, Nat.reduceLT, Nat.reduceLeDiff, Nat.reduceEqDiff, Nat.reduceBEq, Nat.reduceBNe, reduceCtorEq, Int.reduceBNe, Int.reduceBEq, ty_96, ty_144, ty_9, ty_33, ty_3, ty_5]
          refine ⟨fun _ => ex_ret, .int .i64 0, false, rfl, ?_, rfl, ?_⟩
          · rw [hN]
          · rw [hN]; kernel_rfl
        · have hb256 : s[i].toNat < 256 := s[i].toNat_lt
          have hpw := pow7_le (i := i) (by omega)
          have wi : IntKind.i64.wrap ((i : Int) + 1) = (i : Int) + 1 := wrap_i64 (by omega) (by omega)
          have w7 : IntKind.i64.wrap (7 * (i : Int)) = 7 * (i : Int) := wrap_i64 (by omega) (by omega)
          by_cases hi0 : i = 0
          · have hz1 : ¬ (i : Int) > 0 := by omega
            by_cases hb : s[i].toNat < 128
            · have hb' : ((s[i].toNat : Nat) : Int) < 128 := by omega
              have wb : IntKind.i64.wrap ((s[i].toNat : Nat) : Int) = ((s[i].toNat : Nat) : Int) := wrap_i64 (by omega) (by omega)
              have hsh := shl_7 (b := s[i].toNat) (i := i) (by omega) hb
              have hor := or_shl (n := n) (b := s[i].toNat) (i := i) (by omega) hn hb
              have hsl : sliceV cfg 9 (.str s) (some (.int .i64 ((i : Int) + 1))) none none = some (.str (s.drop (i + 1))) := str_from (j := i + 1) rfl (by omega)
              have hGe : numG i (s.drop i) = (0, s[i].toNat, s.drop (i + 1)) := by rw [hd, numG, if_neg (fun h => h.elim h9 hz), if_pos hb]
              have hN : numR s 0 = (((n + s[i].toNat * 2 ^ (7 * i) : Nat) : Int), s.drop (i + 1), 0) := by
                rw [numR, if_pos rfl, if_pos (by rw [g1, hGe]), g2, g3, hGe, Nat.mul_comm]
              simp only [go_sem, Nat.reduceAdd, Nat.reduceSub, Nat.reduceMul, Nat.reduceLT, Nat.reduceLeDiff, Nat.reduceEqDiff, Nat.reduceBEq, Nat.reduceBNe, reduceCtorEq, Int.reduceBNe, Int.reduceBEq, ty_96, ty_144, ty_9, ty_33, ty_3, ty_5, h1, h2, hx, h9', hz1, hb', wi, w7, wb, hsh, hor, hsl, Int.toNat_natCast]
              refine hret _ ?_
              simp only [k_blk_ret, k_code_ret, k_nil]
              refine ⟨fun _ => ex_ret, .int .i64 ((n + s[i].toNat * 2 ^ (7 * i) : Nat) : Int), false, rfl, ?_, rfl, ?_⟩
              · rw [hN]
              · rw [hN]; kernel_rfl
            · have hb' : ¬ ((s[i].toNat : Nat) : Int) < 128 := by omega
              have ha := and_127u hb256
              have wb : IntKind.i64.wrap ((s[i].toNat % 128 : Nat) : Int) = ((s[i].toNat % 128 : Nat) : Int) := wrap_i64 (by omega) (by omega)
              have hsh := shl_7 (b := s[i].toNat % 128) (i := i) (by omega) (by omega)
              have hor := or_shl (n := n) (b := s[i].toNat % 128) (i := i) (by omega) hn (by omega)
              have hGe : numG i (s.drop i) = ((numG (i + 1) (s.drop (i + 1))).1, s[i].toNat - 128 + 128 * (numG (i + 1) (s.drop (i + 1))).2.1, (numG (i + 1) (s.drop (i + 1))).2.2) := by rw [hd, numG, if_neg (fun h => h.elim h9 hz), if_neg hb]
              simp only [go_sem, Nat.reduceAdd, Nat.reduceSub, Nat.reduceMul, Nat.reduceLT, Nat.reduceLeDiff, Nat.reduceEqDiff, Nat.reduceBEq, Nat.reduceBNe, reduceCtorEq, Int.reduceBNe, Int.reduceBEq, ty_96, ty_144, ty_9, ty_33, ty_3, ty_5, h1, h2, hx, h9', hz1, hb', wi, w7, wb, ha, hsh, hor, Int.toNat_natCast]
              have e7 : 2 ^ (7 * (i + 1)) = 2 ^ (7 * i) * 128 := by rw [Nat.mul_add, Nat.pow_add]
              have em : s[i].toNat % 128 = s[i].toNat - 128 := by omega
              refine hnorm (i + 1, n + s[i].toNat % 128 * 2 ^ (7 * i)) _ ⟨by show i + 1 ≤ _; omega, by show i + 1 ≤ 9; omega, ?_, ?_, ?_, ?_, ?_⟩ (by show s.length - (i + 1) < s.length - i; omega) (by kernel_rfl)
              · show n + s[i].toNat % 128 * 2 ^ (7 * i) < 2 ^ (7 * (i + 1))
                have : s[i].toNat % 128 * 2 ^ (7 * i) ≤ 127 * 2 ^ (7 * i) := Nat.mul_le_mul_right _ (by omega)
                rw [e7]; omega
              · show (numG 0 s).1 = _
                rw [g1, hGe]
              · show (numG 0 s).2.1 = _
                rw [g2, hGe]
                show n + 2 ^ (7 * i) * (s[i].toNat - 128 + 128 * _) = n + s[i].toNat % 128 * 2 ^ (7 * i) + 2 ^ (7 * (i + 1)) * _
                rw [e7, em, Nat.mul_add, Nat.mul_comm (2 ^ (7 * i)) (s[i].toNat - 128), Nat.mul_assoc, Nat.add_assoc]
              · show (numG 0 s).2.2 = _
                rw [g3, hGe]
              · show wholeG 0 s = _
                rw [hw, hd, wholeG, if_neg (fun h => h.elim h9 hb)]
          · have hz1 : (i : Int) > 0 := by omega
            have hb0 : s[i].toNat ≠ 0 := fun h => hz ⟨by omega, by rw [← UInt8.toNat_inj, h]; rfl⟩
            have hz2 : (((s[i].toNat : Nat) : Int) == 0) = false := by simp; omega
            by_cases hb : s[i].toNat < 128
            · have hb' : ((s[i].toNat : Nat) : Int) < 128 := by omega
              have wb : IntKind.i64.wrap ((s[i].toNat : Nat) : Int) = ((s[i].toNat : Nat) : Int) := wrap_i64 (by omega) (by omega)
              have hsh := shl_7 (b := s[i].toNat) (i := i) (by omega) hb
              have hor := or_shl (n := n) (b := s[i].toNat) (i := i) (by omega) hn hb
              have hsl : sliceV cfg 9 (.str s) (some (.int .i64 ((i : Int) + 1))) none none = some (.str (s.drop (i + 1))) := str_from (j := i + 1) rfl (by omega)
              have hGe : numG i (s.drop i) = (0, s[i].toNat, s.drop (i + 1)) := by rw [hd, numG, if_neg (fun h => h.elim h9 hz), if_pos hb]
              have hN : numR s 0 = (((n + s[i].toNat * 2 ^ (7 * i) : Nat) : Int), s.drop (i + 1), 0) := by
                rw [numR, if_pos rfl, if_pos (by rw [g1, hGe]), g2, g3, hGe, Nat.mul_comm]
              simp only [go_sem, Nat.reduceAdd, Nat.reduceSub, Nat.reduceMul, Nat.reduceLT, Nat.reduceLeDiff, Nat.reduceEqDiff, Nat.reduceBEq, Nat.reduceBNe, reduceCtorEq, Int.reduceBNe, Int.reduceBEq, ty_96, ty_144, ty_9, ty_33, ty_3, ty_5, h1, h2, hx, h9', hz1, hz2, hb', wi, w7, wb, hsh, hor, hsl, Int.toNat_natCast]
              refine hret _ ?_
              simp only [k_blk_ret, k_code_ret, k_nil]
              refine ⟨fun _ => ex_ret, .int .i64 ((n + s[i].toNat * 2 ^ (7 * i) : Nat) : Int), false, rfl, ?_, rfl, ?_⟩
              · rw [hN]
              · rw [hN]; kernel_rfl
            · have hb' : ¬ ((s[i].toNat : Nat) : Int) < 128 := by omega
              have ha := and_127u hb256
              have wb : IntKind.i64.wrap ((s[i].toNat % 128 : Nat) : Int) = ((s[i].toNat % 128 : Nat) : Int) := wrap_i64 (by omega) (by omega)
              have hsh := shl_7 (b := s[i].toNat % 128) (i := i) (by omega) (by omega)
              have hor := or_shl (n := n) (b := s[i].toNat % 128) (i := i) (by omega) hn (by omega)
              have hGe : numG i (s.drop i) = ((numG (i + 1) (s.drop (i + 1))).1, s[i].toNat - 128 + 128 * (numG (i + 1) (s.drop (i + 1))).2.1, (numG (i + 1) (s.drop (i + 1))).2.2) := by rw [hd, numG, if_neg (fun h => h.elim h9 hz), if_neg hb]
              simp only [go_sem, Nat.reduceAdd, Nat.reduceSub, Nat.reduceMul, Nat.reduceLT, Nat.reduceLeDiff, Nat.reduceEqDiff, Nat.reduceBEq, Nat.reduceBNe, reduceCtorEq, Int.reduceBNe, Int.reduceBEq, ty_96, ty_144, ty_9, ty_33, ty_3, ty_5, h1, h2, hx, h9', hz1, hz2, hb', wi, w7, wb, ha, hsh, hor, Int.toNat_natCast]
              have e7 : 2 ^ (7 * (i + 1)) = 2 ^ (7 * i) * 128 := by rw [Nat.mul_add, Nat.pow_add]
              have em : s[i].toNat % 128 = s[i].toNat - 128 := by omega
              refine hnorm (i + 1, n + s[i].toNat % 128 * 2 ^ (7 * i)) _ ⟨by show i + 1 ≤ _; omega, by show i + 1 ≤ 9; omega, ?_, ?_, ?_, ?_, ?_⟩ (by show s.length - (i + 1) < s.length - i; omega) (by kernel_rfl)
              · show n + s[i].toNat % 128 * 2 ^ (7 * i) < 2 ^ (7 * (i + 1))
                have : s[i].toNat % 128 * 2 ^ (7 * i) ≤ 127 * 2 ^ (7 * i) := Nat.mul_le_mul_right _ (by omega)
                rw [e7]; omega
              · show (numG 0 s).1 = _
                rw [g1, hGe]
              · show (numG 0 s).2.1 = _
                rw [g2, hGe]
                show n + 2 ^ (7 * i) * (s[i].toNat - 128 + 128 * _) = n + s[i].toNat % 128 * 2 ^ (7 * i) + 2 ^ (7 * (i + 1)) * _
                rw [e7, em, Nat.mul_add, Nat.mul_comm (2 ^ (7 * i)) (s[i].toNat - 128), Nat.mul_assoc, Nat.add_assoc]
              · show (numG 0 s).2.2 = _
                rw [g3, hGe]
              · show wholeG 0 s = _
                rw [hw, hd, wholeG, if_neg (fun h => h.elim h9 hb)]
    · have h1 : ¬ (i : Int) < (s.length : Int) := by omega
      have hd : s.drop i = [] := List.drop_of_length_le (by omega)
      have hwh : wholeG 0 s = false := by rw [hw, hd]; rfl
      have hG : (numG 0 s).1 = 5 := by rw [g1, hd]; rfl
      simp only [go_sem, Nat.reduceAdd, Nat.reduceSub, Nat.reduceMul, Nat.reduceLT, Nat.reduceLeDiff, Nat.reduceEqDiff, Nat.reduceBEq, Nat.reduceBNe, reduceCtorEq, Int.reduceBNe, Int.reduceBEq, ty_96, ty_144, ty_9, ty_33, ty_3, ty_5, h1]
      have hN : numR s 0 = (0, [], 5) := by rw [numR, if_pos rfl, if_neg (by rw [hG]; decide), hG]
      refine hexit 0 _ ?_
      simp only [go_sem, Nat.reduceAdd, Nat.reduceSub, Nat.reduceMul, Nat.reduceLT, Nat.reduceLeDiff, Nat.reduceEqDiff, Nat.reduceBEq, Nat.reduceBNe, reduceCtorEq, Int.reduceBNe, Int.reduceBEq, ty_96, ty_144, ty_9, ty_33, ty_3, ty_5, blt_zero, call70, hwh]
      rw [callHeap_eq (R := [0]) (v' := .tup []) (own' := false) (hp3 := [rdB [] 5]) (by kernel_rfl) (by kernel_rfl) (by kernel_rfl) (by kernel_rfl) (call_80 s 0 5) (by kernel_rfl) rfl rfl]
      simp only [go_sem, Nat.reduceAdd, Nat.reduceSub, Nat.reduceMul, Nat.reduceLT, Nat.reduceLeDiff, Nat.reduceEqDiff, Nat.reduceBEq, Nat.reduceBNe, reduceCtorEq, Int.reduceBNe, Int.reduceBEq, ty_96, ty_144, ty_9, ty_33, ty_3, ty_5]
      refine ⟨fun _ => ex_ret, .int .i64 0, false, rfl, ?_, rfl, ?_⟩
      · rw [hN]
      · rw [hN]; kernel_rfl
  · have h0 : (e != 0) = true := by simp [he]
    simp only [go_sem, Nat.reduceAdd, Nat.reduceSub, Nat.reduceMul, Nat.reduceLT, Nat.reduceLeDiff, Nat.reduceEqDiff, Nat.reduceBEq, Nat.reduceBNe, reduceCtorEq, Int.reduceBNe, Int.reduceBEq, ty_33, ty_3, h0]
    refine ⟨fun _ => ex_ret, .int .i64 0, false, rfl, ?_, rfl, ?_⟩
    · rw [numR, if_neg he]
    · rw [numR, if_neg he]; kernel_rfl
end Go.Proofs.Ythikboobkmfgfaa
