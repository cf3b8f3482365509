/- Readers of bytes: the document's Num, Whole, End. -/
import Derived.Test.YthikboobkmfgfaaD33
set_option linter.all false
set_option maxRecDepth 100000
namespace Go.Proofs.Ythikboobkmfgfaa
open Go Go.Abs

theorem call_79 (e : Int) : (Lim cfg).call 79 [.int .i64 e] [] = some (.agg [.str [], .int .i64 e], false, []) := by
  refine call_eq fn_79 rfl ?_
  rw [k_start]
  simp only [Try.f79, st0, Nat.zero_add]
  simp only [go_sem, Nat.reduceAdd, Nat.reduceSub, Nat.reduceMul, Nat.reduceLT, Nat.reduceLeDiff, Nat.reduceEqDiff, Nat.reduceBEq, Nat.reduceBNe, reduceCtorEq, Int.reduceBNe, Int.reduceBEq]
  exact ⟨fun _ => ex_ret, .agg [.str [], .int .i64 e], false, by kernel_rfl, by kernel_rfl, by kernel_rfl, by kernel_rfl⟩

/-- The bytes that go on, ahead of place k. -/
def upG (s : List UInt8) (k : Nat) : Prop := ∀ j (h : j < s.length), j < k → 128 ≤ s[j].toNat
theorem upG_num {s : List UInt8} : ∀ {k : Nat}, k ≤ 9 → k ≤ s.length → upG s k → (numG 0 s).1 = (numG k (s.drop k)).1 ∧ (numG 0 s).2.2 = (numG k (s.drop k)).2.2
  | 0, _, _, _ => ⟨rfl, rfl⟩
  | k + 1, h9, hk, hu => by
    obtain ⟨h1, h2⟩ := upG_num (k := k) (by omega) (by omega) (fun j h hj => hu j h (by omega))
    have hlt : k < s.length := by omega
    have hb := hu k hlt (by omega)
    rw [List.drop_eq_getElem_cons hlt, numG] at h1 h2
    have hn : ¬ (k = 9 ∨ (0 < k ∧ s[k] = 0)) := by
      rintro (h | ⟨_, h⟩)
      · omega
      · rw [h] at hb; exact absurd hb (by decide)
    rw [if_neg hn, if_neg (by omega)] at h1 h2
    exact ⟨h1, h2⟩
/-- The value from place j on. -/
def valG (s : List UInt8) (k j : Nat) : Nat := if j = k + 1 then 0 else (numG j (s.drop j)).2.1
theorem valG_step {s : List UInt8} {k j : Nat} (h9 : k < 9) (hk : k < s.length) (hu : upG s k) (hb : s[k].toNat < 128) (hz : ¬ (0 < k ∧ s[k] = 0)) (hj : j ≤ k) (hjl : j < s.length) :
    valG s k j = 128 * valG s k (j + 1) + s[j].toNat % 128 := by
  have hlt : s[j].toNat < 256 := s[j].toNat_lt
  by_cases e : j = k
  · subst e
    rw [valG, if_neg (by omega), valG, if_pos rfl, List.drop_eq_getElem_cons hjl, numG, if_neg (by rintro (h | h); omega; exact hz h), if_pos hb]
    show s[j].toNat = _
    omega
  · have hbj := hu j hjl (by omega)
    rw [valG, if_neg (by omega), valG, if_neg (by omega), List.drop_eq_getElem_cons hjl, numG, if_neg (by
      rintro (h | ⟨_, h⟩)
      · omega
      · rw [h] at hbj; exact absurd hbj (by decide)), if_neg (by omega)]
    show s[j].toNat - 128 + 128 * _ = _
    omega

theorem errG {s : List UInt8} {k : Nat} (h9 : k < 9) (hk : k < s.length) (hu : upG s k) (hb : s[k].toNat < 128) (hz : ¬ (0 < k ∧ s[k] = 0)) : ∀ (d j : Nat), j + d = k → (numG j (s.drop j)).1 = 0 ∧ (numG j (s.drop j)).2.2 = s.drop (k + 1)
  | 0, j, h => by
    have e : j = k := by omega
    subst e
    rw [List.drop_eq_getElem_cons hk, numG, if_neg (by rintro (h | h); omega; exact hz h), if_pos hb]
    exact ⟨rfl, rfl⟩
  | d + 1, j, h => by
    have hjl : j < s.length := by omega
    have hbj := hu j hjl (by omega)
    have ih := errG h9 hk hu hb hz d (j + 1) (by omega)
    rw [List.drop_eq_getElem_cons hjl, numG, if_neg (by
      rintro (h | ⟨_, h⟩)
      · omega
      · rw [h] at hbj; exact absurd hbj (by decide)), if_neg (by omega)]
    exact ih
theorem valG_lt {s : List UInt8} {k j : Nat} (h9 : k < 9) (hk : k < s.length) (hu : upG s k) (hb : s[k].toNat < 128) (hz : ¬ (0 < k ∧ s[k] = 0)) (hj : j ≤ k + 1) : valG s k j < 9223372036854775808 := by
  unfold valG
  split
  · decide
  · have h1 := numG_lt (s.drop j) j (by omega) (errG h9 hk hu hb hz (k - j) j (by omega)).1
    have : (2 : Nat) ^ (7 * (9 - j)) ≤ 2 ^ 63 := Nat.pow_le_pow_right (by omega) (by omega)
    omega
def SrA (s : List UInt8) (k : Nat) : St := { fr := mkF 70 [(1, .ptr 0 0), (2, .ptr 1 0), (4, .int .i64 k)], own := [], hp := [.cells 93 [] [.str s, .int .i64 0], .cells 93 [] [.str [], .int .i64 0]], al := [], nb := 0 }
def SrB (s : List UInt8) (k : Nat) (j : Nat) : St := { fr := mkF 70 [(1, .ptr 0 0), (2, .ptr 1 0), (4, .int .i64 k), (5, .int .i64 (valG s k j)), (6, .int .i64 ((j : Int) - 1))], own := [], hp := [.cells 93 [] [.str s, .int .i64 0], .cells 93 [] [.str [], .int .i64 0]], al := [], nb := 0 }
set_option maxHeartbeats 4000000 in
theorem call_40 (s : List UInt8) (e : Int) (hlen : s.length ≤ 1000000000) :
    (Lim cfg).call 40 [.agg [.str s, .int .i64 e]] [] = some (.tup [.agg [.str (stR s e).1, .int .i64 (stR s e).2], .int .i64 (numN s e)], false, []) := by
  by_cases he : e = 0
  · subst he
    have bad : ∀ c, c ≠ 0 → (numG 0 s).1 = c → numN s 0 = 0 ∧ stR s 0 = ([], c) := fun c h0 hc => by
      refine ⟨by rw [numN, if_neg fun q => h0 (hc ▸ q.2)], by rw [stR, numR, if_pos rfl, if_neg (by rw [hc]; exact h0), hc]⟩
    refine call_eq fn_40 rfl ?_
    rw [k_start]
    simp only [Try.f40, st0, Nat.zero_add]
    simp only [go_sem, Nat.reduceAdd, Nat.reduceSub, Nat.reduceMul, Nat.reduceLT, Nat.reduceLeDiff, Nat.reduceEqDiff, Nat.reduceBEq, Nat.reduceBNe, reduceCtorEq, Int.reduceBNe, Int.reduceBEq]
    refine k_loop (SrA s) (fun k => k ≤ s.length ∧ k ≤ 9 ∧ upG s k) (fun k => s.length - k) 0 (K := cfg.kill 40 4) rfl
      ⟨Nat.zero_le _, Nat.zero_le _, fun j _ h => absurd h (by omega)⟩ (by kernel_rfl) ?_
    intro k ⟨hk, hk9, hu⟩ k' Q' hnorm hexit hret
    simp only [SrA, mkF, List.foldl, st0, List.set]
    obtain ⟨g1, g2⟩ := upG_num hk9 hk hu
    by_cases h1 : k < s.length
    · have h1' : (k : Int) < (s.length : Int) := by omega
      have h1'' : ((k : Int) == (s.length : Int)) = false := by simp; omega
      have hneg : ¬ ((k : Int) < 0) := by omega
      have hx : s[k]? = some s[k] := List.getElem?_eq_getElem h1
      have hd := List.drop_eq_getElem_cons h1
      have hb256 : s[k].toNat < 256 := s[k].toNat_lt
      by_cases h2 : k < 9
      · have h2' : (k : Int) < 9 := by omega
        have h2'' : ((k : Int) == 9) = false := by simp; omega
        by_cases h3 : s[k].toNat > 127
        · have h3' : ((s[k].toNat : Nat) : Int) > 127 := by omega
          have wi : IntKind.i64.wrap ((k : Int) + 1) = (k : Int) + 1 := wrap_i64 (by omega) (by omega)
          simp only [go_sem, Nat.reduceAdd, Nat.reduceSub, Nat.reduceMul, Nat.reduceLT, Nat.reduceLeDiff, Nat.reduceEqDiff, Nat.reduceBEq, Nat.reduceBNe, reduceCtorEq, Int.reduceBNe, Int.reduceBEq, blt0, h1', h2', hneg, hx, h3', wi, Int.toNat_natCast]
          refine hnorm (k + 1) _ ⟨by omega, by omega, fun j hj hlt => ?_⟩ (by omega) (by kernel_rfl)
          by_cases e : j = k
          · subst e; omega
          · exact hu j hj (by omega)
        · have h3' : ¬ ((s[k].toNat : Nat) : Int) > 127 := by omega
          simp only [go_sem, Nat.reduceAdd, Nat.reduceSub, Nat.reduceMul, Nat.reduceLT, Nat.reduceLeDiff, Nat.reduceEqDiff, Nat.reduceBEq, Nat.reduceBNe, reduceCtorEq, Int.reduceBNe, Int.reduceBEq, blt0, h1', h2', hneg, hx, h3', Int.toNat_natCast]
          refine hexit _ _ ?_
          have hb : s[k].toNat < 128 := by omega
          by_cases hz : 0 < k ∧ s[k] = 0
          · have hz1 : (k : Int) > 0 := by omega
            have hz2 : (((s[k].toNat : Nat) : Int) == 0) = true := by rw [hz.2]; rfl
            simp only [go_sem, Nat.reduceAdd, Nat.reduceSub, Nat.reduceMul, Nat.reduceLT, Nat.reduceLeDiff, Nat.reduceEqDiff, Nat.reduceBEq, Nat.reduceBNe, reduceCtorEq, Int.reduceBNe, Int.reduceBEq, blt0, h1'', h2'', hneg, hx, hz1, hz2, Int.toNat_natCast, call_79]
            obtain ⟨q1, q2⟩ := bad 3 (by decide) (g1.trans (by rw [hd, numG, if_pos (.inr hz)]))
            rw [q1, q2]
            exact ⟨fun _ => ex_ret, .tup [.agg [.str [], .int .i64 3], .int .i64 0], false, by kernel_rfl, by kernel_rfl, by kernel_rfl, by kernel_rfl⟩
          · by_cases hk0 : k = 0
            · have hz1 : ¬ (k : Int) > 0 := by omega
              simp only [go_sem, Nat.reduceAdd, Nat.reduceSub, Nat.reduceMul, Nat.reduceLT, Nat.reduceLeDiff, Nat.reduceEqDiff, Nat.reduceBEq, Nat.reduceBNe, reduceCtorEq, Int.reduceBNe, Int.reduceBEq, blt0, h1'', h2'', hneg, hx, hz1, Int.toNat_natCast]
              obtain ⟨q1, q2⟩ := errG h2 h1 hu hb hz k 0 (by omega)
              refine k_loop (SrB s k) (fun j => j ≤ k + 1) (fun j => j) (k + 1) (K := cfg.kill 40 12) rfl
                (Nat.le_refl _) (by rw [SrB, valG, if_pos rfl, show (((k + 1 : Nat) : Int) - 1) = (k : Int) by omega]; kernel_rfl) ?_
              intro j hj k2 Q2 hnorm2 hexit2 hret2
              simp only [SrB, mkF, List.foldl, st0, List.set]
              cases j with
              | zero =>
                have c0 : ¬ (((0 : Nat) : Int) - 1 ≥ 0) := by omega
                simp only [go_sem, Nat.reduceAdd, Nat.reduceSub, Nat.reduceMul, Nat.reduceLT, Nat.reduceLeDiff, Nat.reduceEqDiff, Nat.reduceBEq, Nat.reduceBNe, reduceCtorEq, Int.reduceBNe, Int.reduceBEq, blt0, c0]
                refine hexit2 _ _ ?_
                have hsl : sliceV cfg 9 (.str s) (some (.int .i64 ((k : Int) + 1))) none none = some (.str (s.drop (k + 1))) := str_from (j := k + 1) rfl (by omega)
                have wk : IntKind.i64.wrap ((k : Int) + 1) = (k : Int) + 1 := wrap_i64 (by omega) (by omega)
                simp only [go_sem, Nat.reduceAdd, Nat.reduceSub, Nat.reduceMul, Nat.reduceLT, Nat.reduceLeDiff, Nat.reduceEqDiff, Nat.reduceBEq, Nat.reduceBNe, reduceCtorEq, Int.reduceBNe, Int.reduceBEq, blt0, hsl, wk]
                have e1 : numN s 0 = valG s k 0 := by rw [numN, if_pos ⟨rfl, q1⟩, valG, if_neg (by omega)]; rfl
                have e2 : stR s 0 = (s.drop (k + 1), 0) := by rw [stR, numR, if_pos rfl, if_pos (show (numG 0 s).1 = 0 from q1)]; show ((numG 0 s).2.2, (0 : Int)) = _; rw [show (numG 0 s).2.2 = s.drop (k + 1) from q2]
                rw [e1, e2]
                exact ⟨fun _ => ex_ret, .tup [.agg [.str (s.drop (k + 1)), .int .i64 0], .int .i64 (valG s k 0)], false, by kernel_rfl, by kernel_rfl, by kernel_rfl, by kernel_rfl⟩
              | succ j =>
                have c1 : (((j + 1 : Nat) : Int) - 1) = (j : Int) := by omega
                have c2 : (j : Int) ≥ 0 := by omega
                have c3 : ¬ ((j : Int) < 0) := by omega
                have hjl : j < s.length := by omega
                have hxj : s[j]? = some s[j] := List.getElem?_eq_getElem hjl
                have hst := valG_step h2 h1 hu hb hz (j := j) (by omega) hjl
                have hlt := valG_lt h2 h1 hu hb hz (j := j) (by omega)
                have hb2 : s[j].toNat < 256 := s[j].toNat_lt
                have w1 : IntKind.i64.wrap (128 * (valG s k (j + 1) : Int)) = 128 * (valG s k (j + 1) : Int) := wrap_i64 (by omega) (by omega)
                have w2 : IntKind.i64.wrap (128 * (valG s k (j + 1) : Int) + ((s[j].toNat % 128 : Nat) : Int)) = (valG s k j : Int) := by rw [wrap_i64 (by omega) (by omega)]; omega
                have w3 : IntKind.i64.wrap ((s[j].toNat : Nat) : Int) = ((s[j].toNat : Nat) : Int) := wrap_i64 (by omega) (by omega)
                have w4 : IntKind.i64.wrap ((j : Int) - 1) = (j : Int) - 1 := wrap_i64 (by omega) (by omega)
                have t1 : Int.tmod ((s[j].toNat : Nat) : Int) 128 = ((s[j].toNat % 128 : Nat) : Int) := by rw [Int.tmod_eq_emod_of_nonneg (by omega)]; norm_cast
                have n0 : ¬ ((128 : Int) = 0) := by decide
                simp only [go_sem, Nat.reduceAdd, Nat.reduceSub, Nat.reduceMul, Nat.reduceLT, Nat.reduceLeDiff, Nat.reduceEqDiff, Nat.reduceBEq, Nat.reduceBNe, reduceCtorEq, Int.reduceBNe, Int.reduceBEq, blt0, c1, c2, c3, hxj, w1, w2, w3, w4, t1, n0, Int.toNat_natCast]
                refine hnorm2 j _ (by omega) (by omega) (by kernel_rfl)
            · have hz1 : (k : Int) > 0 := by omega
              have hz2 : (((s[k].toNat : Nat) : Int) == 0) = false := by
                have : s[k].toNat ≠ 0 := fun h => hz ⟨by omega, by rw [← UInt8.toNat_inj, h]; rfl⟩
                simp; omega
              simp only [go_sem, Nat.reduceAdd, Nat.reduceSub, Nat.reduceMul, Nat.reduceLT, Nat.reduceLeDiff, Nat.reduceEqDiff, Nat.reduceBEq, Nat.reduceBNe, reduceCtorEq, Int.reduceBNe, Int.reduceBEq, blt0, h1'', h2'', hneg, hx, hz1, hz2, Int.toNat_natCast]
              obtain ⟨q1, q2⟩ := errG h2 h1 hu hb hz k 0 (by omega)
              refine k_loop (SrB s k) (fun j => j ≤ k + 1) (fun j => j) (k + 1) (K := cfg.kill 40 12) rfl
                (Nat.le_refl _) (by rw [SrB, valG, if_pos rfl, show (((k + 1 : Nat) : Int) - 1) = (k : Int) by omega]; kernel_rfl) ?_
              intro j hj k2 Q2 hnorm2 hexit2 hret2
              simp only [SrB, mkF, List.foldl, st0, List.set]
              cases j with
              | zero =>
                have c0 : ¬ (((0 : Nat) : Int) - 1 ≥ 0) := by omega
                simp only [go_sem, Nat.reduceAdd, Nat.reduceSub, Nat.reduceMul, Nat.reduceLT, Nat.reduceLeDiff, Nat.reduceEqDiff, Nat.reduceBEq, Nat.reduceBNe, reduceCtorEq, Int.reduceBNe, Int.reduceBEq, blt0, c0]
                refine hexit2 _ _ ?_
                have hsl : sliceV cfg 9 (.str s) (some (.int .i64 ((k : Int) + 1))) none none = some (.str (s.drop (k + 1))) := str_from (j := k + 1) rfl (by omega)
                have wk : IntKind.i64.wrap ((k : Int) + 1) = (k : Int) + 1 := wrap_i64 (by omega) (by omega)
                simp only [go_sem, Nat.reduceAdd, Nat.reduceSub, Nat.reduceMul, Nat.reduceLT, Nat.reduceLeDiff, Nat.reduceEqDiff, Nat.reduceBEq, Nat.reduceBNe, reduceCtorEq, Int.reduceBNe, Int.reduceBEq, blt0, hsl, wk]
                have e1 : numN s 0 = valG s k 0 := by rw [numN, if_pos ⟨rfl, q1⟩, valG, if_neg (by omega)]; rfl
                have e2 : stR s 0 = (s.drop (k + 1), 0) := by rw [stR, numR, if_pos rfl, if_pos (show (numG 0 s).1 = 0 from q1)]; show ((numG 0 s).2.2, (0 : Int)) = _; rw [show (numG 0 s).2.2 = s.drop (k + 1) from q2]
                rw [e1, e2]
                exact ⟨fun _ => ex_ret, .tup [.agg [.str (s.drop (k + 1)), .int .i64 0], .int .i64 (valG s k 0)], false, by kernel_rfl, by kernel_rfl, by kernel_rfl, by kernel_rfl⟩
              | succ j =>
                have c1 : (((j + 1 : Nat) : Int) - 1) = (j : Int) := by omega
                have c2 : (j : Int) ≥ 0 := by omega
                have c3 : ¬ ((j : Int) < 0) := by omega
                have hjl : j < s.length := by omega
                have hxj : s[j]? = some s[j] := List.getElem?_eq_getElem hjl
                have hst := valG_step h2 h1 hu hb hz (j := j) (by omega) hjl
                have hlt := valG_lt h2 h1 hu hb hz (j := j) (by omega)
                have hb2 : s[j].toNat < 256 := s[j].toNat_lt
                have w1 : IntKind.i64.wrap (128 * (valG s k (j + 1) : Int)) = 128 * (valG s k (j + 1) : Int) := wrap_i64 (by omega) (by omega)
                have w2 : IntKind.i64.wrap (128 * (valG s k (j + 1) : Int) + ((s[j].toNat % 128 : Nat) : Int)) = (valG s k j : Int) := by rw [wrap_i64 (by omega) (by omega)]; omega
                have w3 : IntKind.i64.wrap ((s[j].toNat : Nat) : Int) = ((s[j].toNat : Nat) : Int) := wrap_i64 (by omega) (by omega)
                have w4 : IntKind.i64.wrap ((j : Int) - 1) = (j : Int) - 1 := wrap_i64 (by omega) (by omega)
                have t1 : Int.tmod ((s[j].toNat : Nat) : Int) 128 = ((s[j].toNat % 128 : Nat) : Int) := by rw [Int.tmod_eq_emod_of_nonneg (by omega)]; norm_cast
                have n0 : ¬ ((128 : Int) = 0) := by decide
                simp only [go_sem, Nat.reduceAdd, Nat.reduceSub, Nat.reduceMul, Nat.reduceLT, Nat.reduceLeDiff, Nat.reduceEqDiff, Nat.reduceBEq, Nat.reduceBNe, reduceCtorEq, Int.reduceBNe, Int.reduceBEq, blt0, c1, c2, c3, hxj, w1, w2, w3, w4, t1, n0, Int.toNat_natCast]
                refine hnorm2 j _ (by omega) (by omega) (by kernel_rfl)
      · have h2' : ¬ (k : Int) < 9 := by omega
        have h2'' : ((k : Int) == 9) = true := by simp; omega
        simp only [go_sem, Nat.reduceAdd, Nat.reduceSub, Nat.reduceMul, Nat.reduceLT, Nat.reduceLeDiff, Nat.reduceEqDiff, Nat.reduceBEq, Nat.reduceBNe, reduceCtorEq, Int.reduceBNe, Int.reduceBEq, blt0, h1', h2']
        refine hexit _ _ ?_
        simp only [go_sem, Nat.reduceAdd, Nat.reduceSub, Nat.reduceMul, Nat.reduceLT, Nat.reduceLeDiff, Nat.reduceEqDiff, Nat.reduceBEq, Nat.reduceBNe, reduceCtorEq, Int.reduceBNe, Int.reduceBEq, blt0, h1'', h2'', call_79]
        obtain ⟨q1, q2⟩ := bad 3 (by decide) (g1.trans (by rw [hd, numG, if_pos (.inl (by omega))]))
        rw [q1, q2]
        exact ⟨fun _ => ex_ret, .tup [.agg [.str [], .int .i64 3], .int .i64 0], false, by kernel_rfl, by kernel_rfl, by kernel_rfl, by kernel_rfl⟩
    · have h1' : ¬ (k : Int) < (s.length : Int) := by omega
      have h1'' : ((k : Int) == (s.length : Int)) = true := by simp; omega
      simp only [go_sem, Nat.reduceAdd, Nat.reduceSub, Nat.reduceMul, Nat.reduceLT, Nat.reduceLeDiff, Nat.reduceEqDiff, Nat.reduceBEq, Nat.reduceBNe, reduceCtorEq, Int.reduceBNe, Int.reduceBEq, blt0, h1']
      refine hexit _ _ ?_
      simp only [go_sem, Nat.reduceAdd, Nat.reduceSub, Nat.reduceMul, Nat.reduceLT, Nat.reduceLeDiff, Nat.reduceEqDiff, Nat.reduceBEq, Nat.reduceBNe, reduceCtorEq, Int.reduceBNe, Int.reduceBEq, blt0, h1'', call_79]
      obtain ⟨q1, q2⟩ := bad 5 (by decide) (g1.trans (by rw [List.drop_of_length_le (by omega)]; rfl))
      rw [q1, q2]
      exact ⟨fun _ => ex_ret, .tup [.agg [.str [], .int .i64 5], .int .i64 0], false, by kernel_rfl, by kernel_rfl, by kernel_rfl, by kernel_rfl⟩
  · have h0 : (e != 0) = true := by simp [he]
    refine call_eq fn_40 rfl ?_
    rw [k_start]
    simp only [Try.f40, st0, Nat.zero_add]
    simp only [go_sem, Nat.reduceAdd, Nat.reduceSub, Nat.reduceMul, Nat.reduceLT, Nat.reduceLeDiff, Nat.reduceEqDiff, Nat.reduceBEq, Nat.reduceBNe, reduceCtorEq, Int.reduceBNe, Int.reduceBEq, h0]
    rw [stR, numR, if_neg he, numN, if_neg fun q => he q.1]
    exact ⟨fun _ => ex_ret, .tup [.agg [.str s, .int .i64 e], .int .i64 0], false, by kernel_rfl, by kernel_rfl, by kernel_rfl, by kernel_rfl⟩
end Go.Proofs.Ythikboobkmfgfaa
