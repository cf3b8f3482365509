/- Turns: copied, compared; a key's cell. -/
import Derived.Test.YthikboobkmfgfaaD3
set_option linter.all false
set_option maxRecDepth 100000
namespace Go.Proofs.Ythikboobkmfgfaa
open Go Go.Abs

abbrev TR := Int × CR × CR
def trow (t : TR) : List V := [.int .i64 t.1, .int .i64 t.2.1.1, .bool t.2.1.2, .int .i64 t.2.2.1, .bool t.2.2.2]

theorem fit_trow (l : List TR) : rowsFit 5 (l.map trow) = true := by cases l <;> rfl
theorem head_trow (l : List TR) : headByte (l.map trow) = false := by cases l <;> rfl
theorem head_trow' (l : List TR) (r : List (List V)) (h : headByte r = false) : headByte (l.map trow ++ r) = false := by cases l <;> first | exact h | rfl
theorem take_trow {l : List TR} {i : Nat} (h : i < l.length) : (l.take i).map trow ++ [trow l[i]] = (l.take (i + 1)).map trow := by
  rw [List.take_succ_eq_append_getElem h, List.map_append]; rfl

def S17 (l : List TR) (i : Nat) : St := { fr := mkF 31 [(0, .sl true (l.map trow)), (3, .sl true ((l.take i).map trow)), (4, .int .i64 i)], own := [3], hp := [], al := [], nb := 0 }
theorem eq_turn {x y : TR} : (x.1 == y.1 && (x.2.1.1 == y.2.1.1 && x.2.1.2 == y.2.1.2 && (x.2.2.1 == y.2.2.1 && x.2.2.2 == y.2.2.2))) = decide (x = y) := by
  obtain ⟨a, ⟨b, c⟩, d, e⟩ := x
  obtain ⟨a', ⟨b', c'⟩, d', e'⟩ := y
  rw [Bool.eq_iff_iff]
  simp [and_assoc]

def S16 (a b : List TR) (i : Nat) : St := { fr := mkF 26 [(0, .sl true (a.map trow)), (1, .sl true (b.map trow)), (5, .int .i64 i)], own := [], hp := [], al := [], nb := 0 }
def getP : List PR → Int → CR
  | [], _ => (0, false)
  | p :: r, k => if p.1 = k then (p.2, true) else getP r k

def S35 (l : List PR) (k : Int) (i : Nat) : St := { fr := mkF 26 [(0, .sl true (l.map prow)), (1, .int .i64 k), (4, .ptr 0 0), (5, .int .i64 i)], own := [], hp := [.cells 85 [] [.int .i64 0, .bool false]], al := [], nb := 0 }
set_option maxHeartbeats 4000000 in
theorem call_36 (l : List PR) (k : Int) (hlen : l.length ≤ 100000) : (Lim cfg).call 36 [.sl true (l.map prow), .int .i64 k] [] = some (.agg (crow (getP l k)), false, []) := by
  refine call_eq fn_36 rfl ?_
  rw [k_start]
  simp only [Try.f36, st0, Nat.zero_add]
  simp only [go_sem, Nat.reduceAdd, Nat.reduceSub, Nat.reduceMul, Nat.reduceLT, Nat.reduceLeDiff, Nat.reduceEqDiff, Nat.reduceBEq, Nat.reduceBNe, reduceCtorEq, Int.reduceBNe, Int.reduceBEq, ty_44, ty_90, ty_85, ty_3, ty_4]
  refine k_loop (S35 l k) (fun i => i ≤ l.length ∧ getP l k = getP (l.drop i) k) (fun i => l.length - i) 0 (K := cfg.kill 36 2) rfl ⟨Nat.zero_le _, rfl⟩ (by kernel_rfl) ?_
  intro i ⟨hi, hc⟩ k' Q' hnorm hexit hret
  simp only [S35, mkF, List.foldl, st0, List.set]
  simp only [go_sem, Nat.reduceAdd, Nat.reduceSub, Nat.reduceMul, Nat.reduceLT, Nat.reduceLeDiff, Nat.reduceEqDiff, Nat.reduceBEq, Nat.reduceBNe, reduceCtorEq, Int.reduceBNe, Int.reduceBEq, ty_44, ty_90, ty_85, ty_3, ty_4]
  by_cases hlt : i < l.length
  · have h1 : (i : Int) < (l.length : Int) := by omega
    have h2 : ¬ ((i : Int) < 0) := by omega
    have hx : (l.map prow)[i]? = some (prow l[i]) := by simp [hlt]
    rw [List.drop_eq_getElem_cons hlt, getP] at hc
    simp only [go_sem, Nat.reduceAdd, Nat.reduceSub, Nat.reduceMul, Nat.reduceLT, Nat.reduceLeDiff, Nat.reduceEqDiff, Nat.reduceBEq, Nat.reduceBNe, reduceCtorEq, Int.reduceBNe, Int.reduceBEq, ty_44, ty_90, ty_85, ty_3, ty_4, h1, h2, hx, prow, Int.toNat_natCast]
    refine WC_split (fun hb => ?_) (fun hb => ?_) <;> simp only [go_sem, Nat.reduceAdd, Nat.reduceSub, Nat.reduceMul, Nat.reduceLT, Nat.reduceLeDiff, Nat.reduceEqDiff, Nat.reduceBEq, Nat.reduceBNe, reduceCtorEq, Int.reduceBNe, Int.reduceBEq, ty_44, ty_90, ty_85, ty_3, ty_4, h1, h2, hx, prow, Int.toNat_natCast]
    · refine hret _ ?_
      simp only [go_sem, Nat.reduceAdd, Nat.reduceSub, Nat.reduceMul, Nat.reduceLT, Nat.reduceLeDiff, Nat.reduceEqDiff, Nat.reduceBEq, Nat.reduceBNe, reduceCtorEq, Int.reduceBNe, Int.reduceBEq]
      refine retc1 (fun _ => ex_ret) (by simp only [loadV, ty_85]; rfl) rfl ⟨?_, rfl, rfl⟩
      rw [if_pos (by simpa using hb)] at hc
      rw [hc]; rfl
    · rw [wrap_i64 (by omega) (by omega)]
      refine hnorm (i + 1) _ ⟨by omega, ?_⟩ (by omega) (by kernel_rfl)
      rw [if_neg (by simpa using hb)] at hc
      exact hc
  · have h1 : ¬ (i : Int) < (l.length : Int) := by omega
    simp only [go_sem, Nat.reduceAdd, Nat.reduceSub, Nat.reduceMul, Nat.reduceLT, Nat.reduceLeDiff, Nat.reduceEqDiff, Nat.reduceBEq, Nat.reduceBNe, reduceCtorEq, Int.reduceBNe, Int.reduceBEq, h1]
    refine hexit 0 _ ?_
    simp only [go_sem, Nat.reduceAdd, Nat.reduceSub, Nat.reduceMul, Nat.reduceLT, Nat.reduceLeDiff, Nat.reduceEqDiff, Nat.reduceBEq, Nat.reduceBNe, reduceCtorEq, Int.reduceBNe, Int.reduceBEq, ty_44, ty_90, ty_85, ty_3, ty_4]
    refine retc1 (v := .agg (crow (0, false))) (fun _ => ex_ret) (by simp only [loadV, ty_85]; rfl) rfl ⟨?_, rfl, rfl⟩
    rw [hc, List.drop_of_length_le (by omega)]; rfl
end Go.Proofs.Ythikboobkmfgfaa
