/- Readers of bytes: the program's Num. -/
import Derived.Test.YtbpkaajokffpjaaD29
set_option linter.all false
set_option maxRecDepth 100000
namespace Go.Proofs.Ytbpkaajokffpjaa
open Go Go.Abs

def wholeG : Nat → List UInt8 → Bool
  | _, [] => false
  | i, b :: r => if i = 9 ∨ b.toNat < 128 then true else wholeG (i + 1) r
def S70 (s : List UInt8) (i : Nat) : St := { fr := mkF 18 [(0, .str s), (5, .int .i64 s.length), (6, .int .i64 i)], own := [], hp := [], al := [], nb := 0 }
set_option maxHeartbeats 4000000 in
theorem call_161 (s : List UInt8) (hlen : s.length ≤ 1000000000) : (Lim cfg).call 161 [.str s] [] = some (.bool (wholeG 0 s), false, []) := by
  refine call_eq fn_161 rfl ?_
  rw [k_start]
  simp only [Try.f161, List.length_cons, List.length_nil, Nat.zero_add, Nat.reduceSub, Nat.reduceAdd, List.replicate, List.cons_append, List.nil_append]
  simp only [go_sem, Nat.reduceAdd, Nat.reduceSub, Nat.reduceMul, Nat.reduceLT, Nat.reduceLeDiff, Nat.reduceEqDiff, Nat.reduceBEq, Nat.reduceBNe, reduceCtorEq, Int.reduceBNe, Int.reduceBEq, ty_9, ty_3, ty_5]
  refine k_loop (S70 s) (fun i => i ≤ s.length ∧ wholeG 0 s = wholeG i (s.drop i)) (fun i => s.length - i) 0 (K := cfg.kill 161 2) rfl ⟨Nat.zero_le _, rfl⟩ (by kernel_rfl) ?_
  intro i ⟨hi, hc⟩ k' Q' hnorm hexit hret
  simp only [S70, mkF, List.foldl, List.replicate, List.set, List.cons_append, List.nil_append]
  by_cases hlt : i < s.length
  · have h1 : (i : Int) < (s.length : Int) := by omega
    have h2 : ¬ ((i : Int) < 0) := by omega
    have hx : s[i]? = some s[i] := List.getElem?_eq_getElem hlt
    have hd := List.drop_eq_getElem_cons hlt
    have done : ∀ s1 : St, s1.fr.getD 2 .any = .bool true → (i = 9 ∨ s[i].toNat < 128) → WK cfg 161 none k' Q' .ret s1 := fun s1 e1 e2 => by
      refine hret _ ?_
      simp only [k_blk_ret, k_code_ret, k_nil]
      refine ret1n (fun _ => ex_ret) e1 rfl rfl ⟨?_, rfl, rfl⟩
      rw [hc, hd, wholeG, if_pos e2]
    by_cases h9 : i = 9
    · have h9' : ((i : Int) == 9) = true := by simp [h9]
      simp only [go_sem, Nat.reduceAdd, Nat.reduceSub, Nat.reduceMul, Nat.reduceLT, Nat.reduceLeDiff, Nat.reduceEqDiff, Nat.reduceBEq, Nat.reduceBNe, reduceCtorEq, Int.reduceBNe, Int.reduceBEq, ty_9, ty_3, ty_5, h1, h2, hx, h9', Int.toNat_natCast]
      exact done _ rfl (.inl h9)
    · have h9' : ((i : Int) == 9) = false := by simp; omega
      by_cases hb : s[i].toNat < 128
      · have hb' : ((s[i].toNat : Nat) : Int) < 128 := by omega
        simp only [go_sem, Nat.reduceAdd, Nat.reduceSub, Nat.reduceMul, Nat.reduceLT, Nat.reduceLeDiff, Nat.reduceEqDiff, Nat.reduceBEq, Nat.reduceBNe, reduceCtorEq, Int.reduceBNe, Int.reduceBEq, ty_9, ty_3, ty_5, h1, h2, hx, h9', hb', Int.toNat_natCast]
        exact done _ rfl (.inr hb)
      · have hb' : ¬ ((s[i].toNat : Nat) : Int) < 128 := by omega
        simp only [go_sem, Nat.reduceAdd, Nat.reduceSub, Nat.reduceMul, Nat.reduceLT, Nat.reduceLeDiff, Nat.reduceEqDiff, Nat.reduceBEq, Nat.reduceBNe, reduceCtorEq, Int.reduceBNe, Int.reduceBEq, ty_9, ty_3, ty_5, h1, h2, hx, h9', hb', Int.toNat_natCast]
        rw [wrap_i64 (by omega) (by omega)]
        refine hnorm (i + 1) _ ⟨by omega, ?_⟩ (by omega) (by kernel_rfl)
        rw [hc, hd, wholeG, if_neg (by omega)]
  · have h1 : ¬ (i : Int) < (s.length : Int) := by omega
    simp only [go_sem, Nat.reduceAdd, Nat.reduceSub, Nat.reduceMul, Nat.reduceLT, Nat.reduceLeDiff, Nat.reduceEqDiff, Nat.reduceBEq, Nat.reduceBNe, reduceCtorEq, Int.reduceBNe, Int.reduceBEq, ty_9, ty_3, ty_5, h1]
    refine hexit 0 _ ?_
    simp only [go_sem, Nat.reduceAdd, Nat.reduceSub, Nat.reduceMul, Nat.reduceLT, Nat.reduceLeDiff, Nat.reduceEqDiff, Nat.reduceBEq, Nat.reduceBNe, reduceCtorEq, Int.reduceBNe, Int.reduceBEq]
    refine ret1n (fun _ => ex_ret) rfl rfl rfl ⟨?_, rfl, rfl⟩
    rw [hc, List.drop_of_length_le (by omega)]; rfl
end Go.Proofs.Ytbpkaajokffpjaa
