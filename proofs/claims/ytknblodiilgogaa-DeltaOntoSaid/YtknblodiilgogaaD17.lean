/- What turns make, one behind the other, and behind others: all rounds of the program's. -/
import Derived.Test.YtknblodiilgogaaD16
set_option linter.all false
set_option maxRecDepth 100000
namespace Go.Proofs.Ytknblodiilgogaa
open Go Go.Abs

theorem h44 (t : TR) : (Lim cfg).call 61 [.agg [.int .i64 t.1, .int .i64 t.2.1.1, .bool t.2.1.2, .int .i64 t.2.2.1, .bool t.2.2.2]] [] = some (.int .i64 t.1, false, []) := call_61 t
theorem hraT {hp : List Blk} {x y z : Int} {a b : Bool} : reach hp [.agg [.int .i64 x, .int .i64 y, .bool a, .int .i64 z, .bool b]] = [] := reach_pure rfl
theorem h25 {d : Bool} {a b c e f : V} {xs : List (List V)} : sliceV cfg 39 (.sl d ([a, b, c, e, f] :: xs)) (some (.int .i64 1)) none none = some (.sl d xs) := slice_tail ty_39 ty_65 rfl
theorem oboth_len (k : Int) (p q : TR) (O : List TR) (C : List Int) : (oboth k p q O C).1.length ≤ O.length + 1 ∧ (oboth k p q O C).2.length ≤ C.length + 1 := by
  unfold oboth; split
  · split <;> simp
  · simp

def tabT (l : List TR) : Blk := .cells 39 [] [.sl true (l.map trow)]
def keyT : Blk := .cells 125 [] [.fn 61 []]
noncomputable def H18 (x : Bool × List TR × List TR × List TR) : List Blk := [outB [], errB (if x.1 then 0 else 7), outB x.2.2.2, tabT x.2.1, tabT x.2.2.1, keyT, loop18 x.1 0]
noncomputable def H20 (A B : List TR) (X : List TR × List Int) : List Blk := [outB X.1, clB X.2, tabT A, tabT B, keyT, loop20]

def om : List TR → List TR → List TR × List Int → List TR × List Int
  | [], [], X => X
  | p :: A, [], X => om A [] X
  | [], q :: B, X => om [] B (X.1 ++ [q], X.2)
  | p :: A, q :: B, X =>
    if p.1 < q.1 then om A (q :: B) X
    else if q.1 < p.1 then om (p :: A) B (X.1 ++ [q], X.2)
    else om A B (oboth p.1 p q X.1 X.2)
  termination_by A B => A.length + B.length

noncomputable def S69a (x : List TR × List TR × List TR) : St := { fr := mkF 91 [(0, .yld 6), (1, .ptr 3 0), (2, .ptr 4 0), (3, .ptr 5 0)], own := [], hp := H18 (true, x), al := [], nb := 7 }
noncomputable def S69b (x : List TR × List TR × List TR × List Int) : St := { fr := mkF 91 [(0, .yld 5), (1, .ptr 2 0), (2, .ptr 3 0), (3, .ptr 4 0)], own := [], hp := H20 x.1 x.2.1 x.2.2, al := [], nb := 6 }

set_option maxHeartbeats 16000000 in
theorem call_69a (A B : List TR) (O : List TR) (hlen : A.length + B.length + O.length ≤ 100000) :
    (Lim cfg).call 83 [.yld 6, .ptr 3 0, .ptr 4 0, .ptr 5 0] (H18 (true, A, B, O)) = some (.tup [], false, H18 (tm A B O)) := by
  refine call_eq fn_83 rfl ?_
  rw [k_start]
  simp only [Try.f83, List.length_cons, List.length_nil, Nat.zero_add, Nat.reduceSub, Nat.reduceAdd, List.replicate, List.cons_append, List.nil_append]
  simp only [go_sem, Nat.reduceAdd, Nat.reduceSub, Nat.reduceMul, Nat.reduceLT, Nat.reduceLeDiff, Nat.reduceEqDiff, Nat.reduceBEq, Nat.reduceBNe, reduceCtorEq, Int.reduceBNe, Int.reduceBEq]
  refine k_loop S69a (fun x => x.1.length + x.2.1.length + x.2.2.length ≤ 100000 ∧ tm x.1 x.2.1 x.2.2 = tm A B O) (fun x => x.1.length + x.2.1.length) (A, B, O) (K := cfg.kill 83 0) rfl ⟨hlen, rfl⟩ (by kernel_rfl) ?_
  intro ⟨A', B', O'⟩ ⟨hl, hm⟩ k' Q' hnorm hexit hret
  simp only at hl hm
  have hO : O'.length ≤ 100000 := by omega
  simp only [S69a, mkF, List.foldl, List.replicate, List.set, List.cons_append, List.nil_append]
  simp only [H18, outB, tabT, keyT, errB, if_true]
  rcases A' with _ | ⟨p, A'⟩
  · rcases B' with _ | ⟨q, B'⟩
    · have h0 : ¬ (((0 : Nat) : Int) > 0) := by omega
      simp only [go_sem, Nat.reduceAdd, Nat.reduceSub, Nat.reduceMul, Nat.reduceLT, Nat.reduceLeDiff, Nat.reduceEqDiff, Nat.reduceBEq, Nat.reduceBNe, reduceCtorEq, Int.reduceBNe, Int.reduceBEq, ty_39, ty_65, ty_63, ty_128, ty_125, ty_3, ty_4, ty_126, List.map_nil, h0]
      refine hexit 0 _ ?_
      simp only [go_sem, Nat.reduceAdd, Nat.reduceSub, Nat.reduceMul, Nat.reduceLT, Nat.reduceLeDiff, Nat.reduceEqDiff, Nat.reduceBEq, Nat.reduceBNe, reduceCtorEq, Int.reduceBNe, Int.reduceBEq]
      refine ret0 (hp' := H18 (true, [], [], O')) (fun _ => ex_normal) (by kernel_rfl) ⟨rfl, rfl, ?_⟩
      rw [← hm, tm]
    · have h0 : ¬ (((0 : Nat) : Int) > 0) := by omega
      have h3 : (((0 : Nat) : Int) == 0) = true := rfl
      have h4 : ¬ ((0 : Int) < 0) := by omega
      have h1 : ((B'.length + 1 : Nat) : Int) > 0 := by omega
      have h2 : (((B'.length + 1 : Nat) : Int) == 0) = false := by simp; omega
      simp only [go_sem, Nat.reduceAdd, Nat.reduceSub, Nat.reduceMul, Nat.reduceLT, Nat.reduceLeDiff, Nat.reduceEqDiff, Nat.reduceBEq, Nat.reduceBNe, reduceCtorEq, Int.reduceBNe, Int.reduceBEq, ty_39, ty_65, ty_63, ty_128, ty_125, ty_3, ty_4, ty_126, List.map_nil, List.map_cons, draw_83_3, draw_83_4, draw_83_5, draw_83_6, draw_83_2, Int.toNat_zero, trow, h44, h25, hraT, h0, h1, h2, h3, h4]
      rw [callYield_eq (R := [0, 1, 2, 6]) (n := 3) (hp3 := [outB [], errB 0, outB (tadd O' q), tabT [], tabT B', keyT, loop18 true 0, .cells 128 [] [.int .i64 q.1, pvT (none), pvT (some q)]]) (by kernel_rfl) (by kernel_rfl) (by kernel_rfl) (by kernel_rfl) (by kernel_rfl) (round_18b q.1 q O' hO) (by kernel_rfl)]
      simp only [go_sem, Nat.reduceAdd, Nat.reduceSub, Nat.reduceMul, Nat.reduceLT, Nat.reduceLeDiff, Nat.reduceEqDiff, Nat.reduceBEq, Nat.reduceBNe, reduceCtorEq, Int.reduceBNe, Int.reduceBEq]
      have he := tadd_len O' q
      refine hnorm ([], B', tadd O' q) _ ⟨?_, ?_⟩ ?_ (by kernel_rfl)
      · show List.length [] + List.length B' + List.length (tadd O' q) ≤ 100000; simp only [List.length_cons, List.length_nil] at hl ⊢; omega
      · rw [← hm]; show tm [] B' (tadd O' q) = _; simp only [tm]
      · show List.length [] + List.length B' < _; simp only [List.length_cons, List.length_nil]; omega
  · rcases B' with _ | ⟨q, B'⟩
    · have h0 : ¬ (((0 : Nat) : Int) > 0) := by omega
      have h3 : (((0 : Nat) : Int) == 0) = true := rfl
      have h4 : ¬ ((0 : Int) < 0) := by omega
      have h1 : ((A'.length + 1 : Nat) : Int) > 0 := by omega
      have h2 : (((A'.length + 1 : Nat) : Int) == 0) = false := by simp; omega
      simp only [go_sem, Nat.reduceAdd, Nat.reduceSub, Nat.reduceMul, Nat.reduceLT, Nat.reduceLeDiff, Nat.reduceEqDiff, Nat.reduceBEq, Nat.reduceBNe, reduceCtorEq, Int.reduceBNe, Int.reduceBEq, ty_39, ty_65, ty_63, ty_128, ty_125, ty_3, ty_4, ty_126, List.map_nil, List.map_cons, draw_83_3, draw_83_4, draw_83_5, draw_83_6, draw_83_2, Int.toNat_zero, trow, h44, h25, hraT, h0, h1, h2, h3, h4]
      rw [callYield_eq (R := [0, 1, 2, 6]) (n := 3) (hp3 := [outB [], errB 0, outB (tadd O' p), tabT A', tabT [], keyT, loop18 true 0, .cells 128 [] [.int .i64 p.1, pvT (some p), pvT (none)]]) (by kernel_rfl) (by kernel_rfl) (by kernel_rfl) (by kernel_rfl) (by kernel_rfl) (round_18a p.1 p O' hO) (by kernel_rfl)]
      simp only [go_sem, Nat.reduceAdd, Nat.reduceSub, Nat.reduceMul, Nat.reduceLT, Nat.reduceLeDiff, Nat.reduceEqDiff, Nat.reduceBEq, Nat.reduceBNe, reduceCtorEq, Int.reduceBNe, Int.reduceBEq]
      have he := tadd_len O' p
      refine hnorm (A', [], tadd O' p) _ ⟨?_, ?_⟩ ?_ (by kernel_rfl)
      · show List.length A' + List.length [] + List.length (tadd O' p) ≤ 100000; simp only [List.length_cons, List.length_nil] at hl ⊢; omega
      · rw [← hm]; show tm A' [] (tadd O' p) = _; simp only [tm]
      · show List.length A' + List.length [] < _; simp only [List.length_cons, List.length_nil]; omega
    · have h1 : ((A'.length + 1 : Nat) : Int) > 0 := by omega
      have h1' : ((B'.length + 1 : Nat) : Int) > 0 := by omega
      have h2 : (((A'.length + 1 : Nat) : Int) == 0) = false := by simp; omega
      have h2' : (((B'.length + 1 : Nat) : Int) == 0) = false := by simp; omega
      have h4 : ¬ ((0 : Int) < 0) := by omega
      by_cases hlt : p.1 < q.1
      · skip
        simp only [go_sem, Nat.reduceAdd, Nat.reduceSub, Nat.reduceMul, Nat.reduceLT, Nat.reduceLeDiff, Nat.reduceEqDiff, Nat.reduceBEq, Nat.reduceBNe, reduceCtorEq, Int.reduceBNe, Int.reduceBEq, ty_39, ty_65, ty_63, ty_128, ty_125, ty_3, ty_4, ty_126, List.map_nil, List.map_cons, draw_83_3, draw_83_4, draw_83_5, draw_83_6, draw_83_2, Int.toNat_zero, trow, h44, h25, hraT, h1, h1', h2, h2', h4, hlt]
        rw [callYield_eq (R := [0, 1, 2, 6]) (n := 3) (hp3 := [outB [], errB 0, outB (tadd O' p), tabT A', tabT (q :: B'), keyT, loop18 true 0, .cells 128 [] [.int .i64 p.1, pvT (some p), pvT (none)]]) (by kernel_rfl) (by kernel_rfl) (by kernel_rfl) (by kernel_rfl) (by kernel_rfl) (round_18a p.1 p O' hO) (by kernel_rfl)]
        simp only [go_sem, Nat.reduceAdd, Nat.reduceSub, Nat.reduceMul, Nat.reduceLT, Nat.reduceLeDiff, Nat.reduceEqDiff, Nat.reduceBEq, Nat.reduceBNe, reduceCtorEq, Int.reduceBNe, Int.reduceBEq]
        have he := tadd_len O' p
        refine hnorm (A', (q :: B'), tadd O' p) _ ⟨?_, ?_⟩ ?_ (by kernel_rfl)
        · show List.length A' + List.length (q :: B') + List.length (tadd O' p) ≤ 100000; simp only [List.length_cons, List.length_nil] at hl ⊢; omega
        · rw [← hm]; show tm A' (q :: B') (tadd O' p) = _; simp only [tm, if_pos hlt]
        · show List.length A' + List.length (q :: B') < _; simp only [List.length_cons, List.length_nil]; omega
      · by_cases hgt : q.1 < p.1
        · skip
          simp only [go_sem, Nat.reduceAdd, Nat.reduceSub, Nat.reduceMul, Nat.reduceLT, Nat.reduceLeDiff, Nat.reduceEqDiff, Nat.reduceBEq, Nat.reduceBNe, reduceCtorEq, Int.reduceBNe, Int.reduceBEq, ty_39, ty_65, ty_63, ty_128, ty_125, ty_3, ty_4, ty_126, List.map_nil, List.map_cons, draw_83_3, draw_83_4, draw_83_5, draw_83_6, draw_83_2, Int.toNat_zero, trow, h44, h25, hraT, h1, h1', h2, h2', h4, hlt, hgt]
          rw [callYield_eq (R := [0, 1, 2, 6]) (n := 3) (hp3 := [outB [], errB 0, outB (tadd O' q), tabT (p :: A'), tabT B', keyT, loop18 true 0, .cells 128 [] [.int .i64 q.1, pvT (none), pvT (some q)]]) (by kernel_rfl) (by kernel_rfl) (by kernel_rfl) (by kernel_rfl) (by kernel_rfl) (round_18b q.1 q O' hO) (by kernel_rfl)]
          simp only [go_sem, Nat.reduceAdd, Nat.reduceSub, Nat.reduceMul, Nat.reduceLT, Nat.reduceLeDiff, Nat.reduceEqDiff, Nat.reduceBEq, Nat.reduceBNe, reduceCtorEq, Int.reduceBNe, Int.reduceBEq]
          have he := tadd_len O' q
          refine hnorm ((p :: A'), B', tadd O' q) _ ⟨?_, ?_⟩ ?_ (by kernel_rfl)
          · show List.length (p :: A') + List.length B' + List.length (tadd O' q) ≤ 100000; simp only [List.length_cons, List.length_nil] at hl ⊢; omega
          · rw [← hm]; show tm (p :: A') B' (tadd O' q) = _; simp only [tm, if_neg hlt, if_pos hgt]
          · show List.length (p :: A') + List.length B' < _; simp only [List.length_cons, List.length_nil]; omega
        · by_cases heq : p.2.2 = q.2.1
          · skip
            simp only [go_sem, Nat.reduceAdd, Nat.reduceSub, Nat.reduceMul, Nat.reduceLT, Nat.reduceLeDiff, Nat.reduceEqDiff, Nat.reduceBEq, Nat.reduceBNe, reduceCtorEq, Int.reduceBNe, Int.reduceBEq, ty_39, ty_65, ty_63, ty_128, ty_125, ty_3, ty_4, ty_126, List.map_nil, List.map_cons, draw_83_3, draw_83_4, draw_83_5, draw_83_6, draw_83_2, Int.toNat_zero, trow, h44, h25, hraT, h1, h1', h2, h2', h4, hlt, hgt]
            rw [callYield_eq (R := [0, 1, 2, 6]) (n := 3) (hp3 := [outB [], errB 0, outB (tadd O' (p.1, p.2.1, q.2.2)), tabT A', tabT B', keyT, loop18 true 0, .cells 128 [] [.int .i64 p.1, pvT (some p), pvT (some q)]]) (by kernel_rfl) (by kernel_rfl) (by kernel_rfl) (by kernel_rfl) (by kernel_rfl) (round_18c p.1 p q O' hO heq) (by kernel_rfl)]
            simp only [go_sem, Nat.reduceAdd, Nat.reduceSub, Nat.reduceMul, Nat.reduceLT, Nat.reduceLeDiff, Nat.reduceEqDiff, Nat.reduceBEq, Nat.reduceBNe, reduceCtorEq, Int.reduceBNe, Int.reduceBEq]
            have he := tadd_len O' (p.1, p.2.1, q.2.2)
            refine hnorm (A', B', tadd O' (p.1, p.2.1, q.2.2)) _ ⟨?_, ?_⟩ ?_ (by kernel_rfl)
            · show List.length A' + List.length B' + List.length (tadd O' (p.1, p.2.1, q.2.2)) ≤ 100000; simp only [List.length_cons, List.length_nil] at hl ⊢; omega
            · rw [← hm]; show tm A' B' (tadd O' (p.1, p.2.1, q.2.2)) = _; simp only [tm, if_neg hlt, if_neg hgt, if_pos heq]
            · show List.length A' + List.length B' < _; simp only [List.length_cons, List.length_nil]; omega
          · skip
            simp only [go_sem, Nat.reduceAdd, Nat.reduceSub, Nat.reduceMul, Nat.reduceLT, Nat.reduceLeDiff, Nat.reduceEqDiff, Nat.reduceBEq, Nat.reduceBNe, reduceCtorEq, Int.reduceBNe, Int.reduceBEq, ty_39, ty_65, ty_63, ty_128, ty_125, ty_3, ty_4, ty_126, List.map_nil, List.map_cons, draw_83_3, draw_83_4, draw_83_5, draw_83_6, draw_83_2, Int.toNat_zero, trow, h44, h25, hraT, h1, h1', h2, h2', h4, hlt, hgt]
            rw [callYield_eq (R := [0, 1, 2, 6]) (n := 3) (hp3 := [outB [], errB 7, outB O', tabT A', tabT B', keyT, loop18 false 0, .cells 128 [] [.int .i64 p.1, pvT (some p), pvT (some q)]]) (by kernel_rfl) (by kernel_rfl) (by kernel_rfl) (by kernel_rfl) (by kernel_rfl) (round_18d p.1 p q O' heq) (by kernel_rfl)]
            simp only [go_sem, Nat.reduceAdd, Nat.reduceSub, Nat.reduceMul, Nat.reduceLT, Nat.reduceLeDiff, Nat.reduceEqDiff, Nat.reduceBEq, Nat.reduceBNe, reduceCtorEq, Int.reduceBNe, Int.reduceBEq]
            refine hret _ ?_
            simp only [go_sem, Nat.reduceAdd, Nat.reduceSub, Nat.reduceMul, Nat.reduceLT, Nat.reduceLeDiff, Nat.reduceEqDiff, Nat.reduceBEq, Nat.reduceBNe, reduceCtorEq, Int.reduceBNe, Int.reduceBEq]
            refine ret0 (hp' := H18 (false, A', B', O')) (fun _ => ex_ret) (by kernel_rfl) ⟨rfl, rfl, ?_⟩
            rw [← hm, tm, if_neg hlt, if_neg hgt, if_neg heq]

set_option maxHeartbeats 16000000 in
theorem call_69b (A B : List TR) (X : List TR × List Int) (hlen : A.length + B.length + X.1.length ≤ 100000) (hlen2 : A.length + B.length + X.2.length ≤ 100000) :
    (Lim cfg).call 83 [.yld 5, .ptr 2 0, .ptr 3 0, .ptr 4 0] (H20 A B X) = some (.tup [], false, H20 [] [] (om A B X)) := by
  refine call_eq fn_83 rfl ?_
  rw [k_start]
  simp only [Try.f83, List.length_cons, List.length_nil, Nat.zero_add, Nat.reduceSub, Nat.reduceAdd, List.replicate, List.cons_append, List.nil_append]
  simp only [go_sem, Nat.reduceAdd, Nat.reduceSub, Nat.reduceMul, Nat.reduceLT, Nat.reduceLeDiff, Nat.reduceEqDiff, Nat.reduceBEq, Nat.reduceBNe, reduceCtorEq, Int.reduceBNe, Int.reduceBEq]
  refine k_loop S69b (fun x => (x.1.length + x.2.1.length + x.2.2.1.length ≤ 100000 ∧ x.1.length + x.2.1.length + x.2.2.2.length ≤ 100000) ∧ om x.1 x.2.1 x.2.2 = om A B X) (fun x => x.1.length + x.2.1.length) (A, B, X) (K := cfg.kill 83 0) rfl ⟨⟨hlen, hlen2⟩, rfl⟩ (by kernel_rfl) ?_
  intro ⟨A', B', X'⟩ ⟨⟨hl, hl2⟩, hm⟩ k' Q' hnorm hexit hret
  simp only at hl hl2 hm
  have hO : X'.1.length ≤ 100000 := by omega
  have hC : X'.2.length ≤ 100000 := by omega
  simp only [S69b, mkF, List.foldl, List.replicate, List.set, List.cons_append, List.nil_append]
  simp only [H20, outB, tabT, keyT, clB]
  rcases A' with _ | ⟨p, A'⟩
  · rcases B' with _ | ⟨q, B'⟩
    · have h0 : ¬ (((0 : Nat) : Int) > 0) := by omega
      simp only [go_sem, Nat.reduceAdd, Nat.reduceSub, Nat.reduceMul, Nat.reduceLT, Nat.reduceLeDiff, Nat.reduceEqDiff, Nat.reduceBEq, Nat.reduceBNe, reduceCtorEq, Int.reduceBNe, Int.reduceBEq, ty_39, ty_65, ty_63, ty_128, ty_125, ty_3, ty_4, ty_126, List.map_nil, h0]
      refine hexit 0 _ ?_
      simp only [go_sem, Nat.reduceAdd, Nat.reduceSub, Nat.reduceMul, Nat.reduceLT, Nat.reduceLeDiff, Nat.reduceEqDiff, Nat.reduceBEq, Nat.reduceBNe, reduceCtorEq, Int.reduceBNe, Int.reduceBEq]
      refine ret0 (hp' := H20 [] [] X') (fun _ => ex_normal) (by kernel_rfl) ⟨rfl, rfl, ?_⟩
      rw [← hm, om]
    · have h0 : ¬ (((0 : Nat) : Int) > 0) := by omega
      have h3 : (((0 : Nat) : Int) == 0) = true := rfl
      have h4 : ¬ ((0 : Int) < 0) := by omega
      have h1 : ((B'.length + 1 : Nat) : Int) > 0 := by omega
      have h2 : (((B'.length + 1 : Nat) : Int) == 0) = false := by simp; omega
      simp only [go_sem, Nat.reduceAdd, Nat.reduceSub, Nat.reduceMul, Nat.reduceLT, Nat.reduceLeDiff, Nat.reduceEqDiff, Nat.reduceBEq, Nat.reduceBNe, reduceCtorEq, Int.reduceBNe, Int.reduceBEq, ty_39, ty_65, ty_63, ty_128, ty_125, ty_3, ty_4, ty_126, List.map_nil, List.map_cons, draw_83_3, draw_83_4, draw_83_5, draw_83_6, draw_83_2, Int.toNat_zero, trow, h44, h25, hraT, h0, h1, h2, h3, h4]
      rw [callYield_eq (R := [0, 1, 5]) (n := 2) (hp3 := [outB ((X'.1 ++ [q], X'.2)).1, clB ((X'.1 ++ [q], X'.2)).2, tabT [], tabT B', keyT, loop20, .cells 128 [] [.int .i64 q.1, pvT (none), pvT (some q)]]) (by kernel_rfl) (by kernel_rfl) (by kernel_rfl) (by kernel_rfl) (by kernel_rfl) (round_20b q.1 q X'.1 X'.2 hO) (by kernel_rfl)]
      simp only [go_sem, Nat.reduceAdd, Nat.reduceSub, Nat.reduceMul, Nat.reduceLT, Nat.reduceLeDiff, Nat.reduceEqDiff, Nat.reduceBEq, Nat.reduceBNe, reduceCtorEq, Int.reduceBNe, Int.reduceBEq]
      skip
      refine hnorm ([], B', (X'.1 ++ [q], X'.2)) _ ⟨⟨?_, ?_⟩, ?_⟩ ?_ (by kernel_rfl)
      · show List.length [] + List.length B' + List.length ((X'.1 ++ [q], X'.2)).1 ≤ 100000; simp only [List.length_cons, List.length_nil] at hl ⊢; try simp only [List.length_append, List.length_singleton]
        omega
      · show List.length [] + List.length B' + List.length ((X'.1 ++ [q], X'.2)).2 ≤ 100000; simp only [List.length_cons, List.length_nil] at hl2 ⊢; omega
      · rw [← hm]; show om [] B' ((X'.1 ++ [q], X'.2)) = _; simp only [om]
      · show List.length [] + List.length B' < _; simp only [List.length_cons, List.length_nil]; omega
  · rcases B' with _ | ⟨q, B'⟩
    · have h0 : ¬ (((0 : Nat) : Int) > 0) := by omega
      have h3 : (((0 : Nat) : Int) == 0) = true := rfl
      have h4 : ¬ ((0 : Int) < 0) := by omega
      have h1 : ((A'.length + 1 : Nat) : Int) > 0 := by omega
      have h2 : (((A'.length + 1 : Nat) : Int) == 0) = false := by simp; omega
      simp only [go_sem, Nat.reduceAdd, Nat.reduceSub, Nat.reduceMul, Nat.reduceLT, Nat.reduceLeDiff, Nat.reduceEqDiff, Nat.reduceBEq, Nat.reduceBNe, reduceCtorEq, Int.reduceBNe, Int.reduceBEq, ty_39, ty_65, ty_63, ty_128, ty_125, ty_3, ty_4, ty_126, List.map_nil, List.map_cons, draw_83_3, draw_83_4, draw_83_5, draw_83_6, draw_83_2, Int.toNat_zero, trow, h44, h25, hraT, h0, h1, h2, h3, h4]
      rw [callYield_eq (R := [0, 1, 5]) (n := 2) (hp3 := [outB (X').1, clB (X').2, tabT A', tabT [], keyT, loop20, .cells 128 [] [.int .i64 p.1, pvT (some p), pvT (none)]]) (by kernel_rfl) (by kernel_rfl) (by kernel_rfl) (by kernel_rfl) (by kernel_rfl) (round_20a p.1 p X'.1 X'.2) (by kernel_rfl)]
      simp only [go_sem, Nat.reduceAdd, Nat.reduceSub, Nat.reduceMul, Nat.reduceLT, Nat.reduceLeDiff, Nat.reduceEqDiff, Nat.reduceBEq, Nat.reduceBNe, reduceCtorEq, Int.reduceBNe, Int.reduceBEq]
      skip
      refine hnorm (A', [], X') _ ⟨⟨?_, ?_⟩, ?_⟩ ?_ (by kernel_rfl)
      · show List.length A' + List.length [] + List.length (X').1 ≤ 100000; simp only [List.length_cons, List.length_nil] at hl ⊢; try simp only [List.length_append, List.length_singleton]
        omega
      · show List.length A' + List.length [] + List.length (X').2 ≤ 100000; simp only [List.length_cons, List.length_nil] at hl2 ⊢; omega
      · rw [← hm]; show om A' [] (X') = _; simp only [om]
      · show List.length A' + List.length [] < _; simp only [List.length_cons, List.length_nil]; omega
    · have h1 : ((A'.length + 1 : Nat) : Int) > 0 := by omega
      have h1' : ((B'.length + 1 : Nat) : Int) > 0 := by omega
      have h2 : (((A'.length + 1 : Nat) : Int) == 0) = false := by simp; omega
      have h2' : (((B'.length + 1 : Nat) : Int) == 0) = false := by simp; omega
      have h4 : ¬ ((0 : Int) < 0) := by omega
      by_cases hlt : p.1 < q.1
      · skip
        simp only [go_sem, Nat.reduceAdd, Nat.reduceSub, Nat.reduceMul, Nat.reduceLT, Nat.reduceLeDiff, Nat.reduceEqDiff, Nat.reduceBEq, Nat.reduceBNe, reduceCtorEq, Int.reduceBNe, Int.reduceBEq, ty_39, ty_65, ty_63, ty_128, ty_125, ty_3, ty_4, ty_126, List.map_nil, List.map_cons, draw_83_3, draw_83_4, draw_83_5, draw_83_6, draw_83_2, Int.toNat_zero, trow, h44, h25, hraT, h1, h1', h2, h2', h4, hlt]
        rw [callYield_eq (R := [0, 1, 5]) (n := 2) (hp3 := [outB (X').1, clB (X').2, tabT A', tabT (q :: B'), keyT, loop20, .cells 128 [] [.int .i64 p.1, pvT (some p), pvT (none)]]) (by kernel_rfl) (by kernel_rfl) (by kernel_rfl) (by kernel_rfl) (by kernel_rfl) (round_20a p.1 p X'.1 X'.2) (by kernel_rfl)]
        simp only [go_sem, Nat.reduceAdd, Nat.reduceSub, Nat.reduceMul, Nat.reduceLT, Nat.reduceLeDiff, Nat.reduceEqDiff, Nat.reduceBEq, Nat.reduceBNe, reduceCtorEq, Int.reduceBNe, Int.reduceBEq]
        skip
        refine hnorm (A', (q :: B'), X') _ ⟨⟨?_, ?_⟩, ?_⟩ ?_ (by kernel_rfl)
        · show List.length A' + List.length (q :: B') + List.length (X').1 ≤ 100000; simp only [List.length_cons, List.length_nil] at hl ⊢; try simp only [List.length_append, List.length_singleton]
          omega
        · show List.length A' + List.length (q :: B') + List.length (X').2 ≤ 100000; simp only [List.length_cons, List.length_nil] at hl2 ⊢; omega
        · rw [← hm]; show om A' (q :: B') (X') = _; simp only [om, if_pos hlt]
        · show List.length A' + List.length (q :: B') < _; simp only [List.length_cons, List.length_nil]; omega
      · by_cases hgt : q.1 < p.1
        · skip
          simp only [go_sem, Nat.reduceAdd, Nat.reduceSub, Nat.reduceMul, Nat.reduceLT, Nat.reduceLeDiff, Nat.reduceEqDiff, Nat.reduceBEq, Nat.reduceBNe, reduceCtorEq, Int.reduceBNe, Int.reduceBEq, ty_39, ty_65, ty_63, ty_128, ty_125, ty_3, ty_4, ty_126, List.map_nil, List.map_cons, draw_83_3, draw_83_4, draw_83_5, draw_83_6, draw_83_2, Int.toNat_zero, trow, h44, h25, hraT, h1, h1', h2, h2', h4, hlt, hgt]
          rw [callYield_eq (R := [0, 1, 5]) (n := 2) (hp3 := [outB ((X'.1 ++ [q], X'.2)).1, clB ((X'.1 ++ [q], X'.2)).2, tabT (p :: A'), tabT B', keyT, loop20, .cells 128 [] [.int .i64 q.1, pvT (none), pvT (some q)]]) (by kernel_rfl) (by kernel_rfl) (by kernel_rfl) (by kernel_rfl) (by kernel_rfl) (round_20b q.1 q X'.1 X'.2 hO) (by kernel_rfl)]
          simp only [go_sem, Nat.reduceAdd, Nat.reduceSub, Nat.reduceMul, Nat.reduceLT, Nat.reduceLeDiff, Nat.reduceEqDiff, Nat.reduceBEq, Nat.reduceBNe, reduceCtorEq, Int.reduceBNe, Int.reduceBEq]
          skip
          refine hnorm ((p :: A'), B', (X'.1 ++ [q], X'.2)) _ ⟨⟨?_, ?_⟩, ?_⟩ ?_ (by kernel_rfl)
          · show List.length (p :: A') + List.length B' + List.length ((X'.1 ++ [q], X'.2)).1 ≤ 100000; simp only [List.length_cons, List.length_nil] at hl ⊢; try simp only [List.length_append, List.length_singleton]
            omega
          · show List.length (p :: A') + List.length B' + List.length ((X'.1 ++ [q], X'.2)).2 ≤ 100000; simp only [List.length_cons, List.length_nil] at hl2 ⊢; omega
          · rw [← hm]; show om (p :: A') B' ((X'.1 ++ [q], X'.2)) = _; simp only [om, if_neg hlt, if_pos hgt]
          · show List.length (p :: A') + List.length B' < _; simp only [List.length_cons, List.length_nil]; omega
        · skip
          simp only [go_sem, Nat.reduceAdd, Nat.reduceSub, Nat.reduceMul, Nat.reduceLT, Nat.reduceLeDiff, Nat.reduceEqDiff, Nat.reduceBEq, Nat.reduceBNe, reduceCtorEq, Int.reduceBNe, Int.reduceBEq, ty_39, ty_65, ty_63, ty_128, ty_125, ty_3, ty_4, ty_126, List.map_nil, List.map_cons, draw_83_3, draw_83_4, draw_83_5, draw_83_6, draw_83_2, Int.toNat_zero, trow, h44, h25, hraT, h1, h1', h2, h2', h4, hlt, hgt]
          rw [callYield_eq (R := [0, 1, 5]) (n := 2) (hp3 := [outB (oboth p.1 p q X'.1 X'.2).1, clB (oboth p.1 p q X'.1 X'.2).2, tabT A', tabT B', keyT, loop20, .cells 128 [] [.int .i64 p.1, pvT (some p), pvT (some q)]]) (by kernel_rfl) (by kernel_rfl) (by kernel_rfl) (by kernel_rfl) (by kernel_rfl) (round_20c p.1 p q X'.1 X'.2 hO hC) (by kernel_rfl)]
          simp only [go_sem, Nat.reduceAdd, Nat.reduceSub, Nat.reduceMul, Nat.reduceLT, Nat.reduceLeDiff, Nat.reduceEqDiff, Nat.reduceBEq, Nat.reduceBNe, reduceCtorEq, Int.reduceBNe, Int.reduceBEq]
          have he := oboth_len p.1 p q X'.1 X'.2
          refine hnorm (A', B', oboth p.1 p q X'.1 X'.2) _ ⟨⟨?_, ?_⟩, ?_⟩ ?_ (by kernel_rfl)
          · show List.length A' + List.length B' + List.length (oboth p.1 p q X'.1 X'.2).1 ≤ 100000; simp only [List.length_cons, List.length_nil] at hl ⊢; try simp only [List.length_append, List.length_singleton]
            omega
          · show List.length A' + List.length B' + List.length (oboth p.1 p q X'.1 X'.2).2 ≤ 100000; simp only [List.length_cons, List.length_nil] at hl2 ⊢; omega
          · rw [← hm]; show om A' B' (oboth p.1 p q X'.1 X'.2) = _; simp only [om, if_neg hlt, if_neg hgt]
          · show List.length A' + List.length B' < _; simp only [List.length_cons, List.length_nil]; omega
end Go.Proofs.Ytknblodiilgogaa
