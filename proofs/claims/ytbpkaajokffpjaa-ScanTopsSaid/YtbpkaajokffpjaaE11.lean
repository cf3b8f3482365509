/- The program's pages. -/
import Derived.Test.YtbpkaajokffpjaaE10
import Derived.Test.YtbpkaajokffpjaaE9
set_option linter.all false
set_option maxRecDepth 100000
namespace Go.Proofs.Ytbpkaajokffpjaa
open Go Go.Abs

/-- What lies behind a key. -/
def restL (l : List PR) (on : List SR) (a : Int) : List PR := (clip l on).drop (cnt (a + 1) (clip l on))
def pageL (l : List PR) (on : List SR) (a n : Int) : List PR := (restL l on a).take n.toNat
def lastK (a : Int) (p : List PR) : Int := match p.getLast? with
  | some q => q.1
  | none => a
def pageV (l : List PR) (on : List SR) (a n : Int) : V := if (chk l && okC on a n) = true then
    .tup [.sl true ((pageL l on a n).map prow), .agg (curR on (lastK a (pageL l on a n)) n), .bool (decide ((restL l on a).length > (pageL l on a n).length)), .int .i64 0]
  else .tup [.sl true [], .agg (curR [] 0 0), .bool false, .int .i64 1]

theorem slp_from (M : List PR) {k : Nat} (h : k ≤ M.length) : sliceV cfg 43 (.sl true (M.map prow)) (some (.int .i64 (k : Int))) none none = some (.sl true ((M.drop k).map prow)) := by
  have e1 : ((0 : Int) ≤ (k : Int) ∧ (k : Int) ≤ ((M.map prow).length : Nat)) := by rw [List.length_map]; omega
  have e2 : rowsFit 2 (M.map prow) = true := fit_prow M
  simp only [sliceV, ty_43, ty_125, Option.map_some, e2, bound, if_pos e1, Bool.true_eq_false, if_false, Int.toNat_natCast]
  rw [List.take_of_length_le (by rw [List.length_drop]; omega), List.map_drop]
theorem slp_to (M : List PR) {k : Nat} (h : k ≤ M.length) : sliceV cfg 43 (.sl true (M.map prow)) none (some (.int .i64 (k : Int))) none = some (.sl true ((M.take k).map prow)) := by
  have e1 : ((0 : Int) ≤ (k : Int) ∧ (k : Int) ≤ ((M.map prow).length : Nat)) := by rw [List.length_map]; omega
  have e2 : rowsFit 2 (M.map prow) = true := fit_prow M
  simp only [sliceV, ty_43, ty_125, Option.map_some, e2, bound, if_pos e1, Bool.true_eq_false, if_false, Int.toNat_natCast]
  rw [List.drop_zero, Nat.sub_zero, List.map_take]
theorem lastK_at {a : Int} {p : List PR} (h : 0 < p.length) : lastK a p = p[p.length - 1].1 := by
  unfold lastK
  rw [List.getLast?_eq_getElem?, List.getElem?_eq_getElem (by omega)]
theorem retPage {s : St} {e : Ex} {R : V → Bool → List Blk → Prop} {a b c d : V} (he : ∀ i, e ≠ .exit i) (ha : s.fr.getD 4 .any = a) (hb : loadV cfg s.hp 93 (s.fr.getD 5 .any) = some b) (hc : s.fr.getD 6 .any = c) (hd : s.fr.getD 7 .any = d)
    (hl : V.lt 0 (.tup [a, b, c, d]) = true) (h : R (.tup [a, b, c, d]) false []) : Ret cfg [.tmp 4, .cell 5 93, .tmp 6, .tmp 7] 0 R e s := by
  refine ⟨he, .tup [a, b, c, d], false, by simp only [resultsV, List.mapM_cons, List.mapM_nil, resOf, ha, hb, hc, hd]; rfl, ?_⟩
  simp only [hl, List.take_zero, List.all_nil, Bool.and_self, if_true, Bool.false_and]
  exact h

set_option maxHeartbeats 4000000 in
theorem call_56 (l : List PR) (on : List SR) (a n : Int) (hlen : l.length ≤ 100000) (hon : on.length ≤ 100000) :
    (Lim cfg).call 56 [.sl true (l.map prow), .agg (curR on a n)] [] = some (pageV l on a n, false, []) := by
  have c1 := call_106 l hlen
  have c2 := call_132 on a n hon
  by_cases h1 : chk l = true
  · rw [h1] at c1
    by_cases h2 : okC on a n = true
    · rw [h2] at c2
      have hb := h2
      simp only [okC, Bool.and_eq_true, decide_eq_true_eq] at hb
      obtain ⟨hs, ha1, ha2, hn1, hn2⟩ := hb
      have c3 := call_74 l on hlen hon
      obtain ⟨hr, _, hml⟩ := clip_rise l on
      have c4 := search_page (clip l on) (a + 1) (by omega) hr
      have c5 := call_136 on a n hon
      have w1 : IntKind.i64.wrap (a + 1) = a + 1 := wrap_i64 (by omega) (by omega)
      simp only [curR] at c2 c5
      rw [pageV, if_pos (by rw [h1, h2]; rfl), pageL, restL]
      rw [h1, hs] at c3
      have hcl := cnt_le (a + 1) (clip l on)
      cases hO : clip l on with
      | nil =>
        rw [hO] at c3 c4
        simp only [clipV, clipB, List.map_nil] at c3 c4
        have s1 : sliceV cfg 43 (.sl true []) (some (.int .i64 ((cnt (a + 1) [] : Nat) : Int))) none none = some (.sl true []) := slp_from [] (k := 0) (Nat.le_refl _)
        have s2 : sliceV cfg 43 (.sl true []) none (some (.int .i64 ((0 : Nat) : Int))) none = some (.sl true []) := slp_to [] (k := 0) (Nat.le_refl _)
        have hmin : min (((0 : Nat)) : Int) n = ((0 : Nat) : Int) := by omega
        have h6 : ¬ (((0 : Nat) : Int) > 0) := by omega
        refine call_eq fn_56 rfl ?_
        rw [k_start]
        simp only [Try.f56, List.length_cons, List.length_nil, Nat.zero_add, Nat.reduceSub, Nat.reduceAdd, List.replicate, List.cons_append, List.nil_append]
        simp only [go_sem, Nat.reduceAdd, Nat.reduceSub, Nat.reduceMul, Nat.reduceLT, Nat.reduceLeDiff, Nat.reduceEqDiff, Nat.reduceBEq, Nat.reduceBNe, reduceCtorEq, Int.reduceBNe, Int.reduceBEq, blt0, c1, c2, c3, c4, c5, w1, fz_cons, freezeT, curR, s1, s2, ite_min, hmin, h6]
        exact retPage (fun _ => ex_ret) rfl rfl rfl rfl rfl ⟨rfl, rfl, rfl⟩
      | cons o r =>
        rw [hO] at c3 c4 hcl
        simp only [clipV, clipB, prow] at c3
        have f1 : (flatP (o :: r)).length = (r.length + 1) * 2 := flatP_len _
        have f6 : (flatP (o :: r)).take ((r.length + 1) * 2) = flatP (o :: r) := flatP_take (o :: r)
        have q5 : aloneIn 3 [.cells 93 [] [.sl true (on.map srow), .int .i64 a, .int .i64 n], .cells 93 [0] [.sl true [], .int .i64 0, .int .i64 0], Blk.cells 125 [] [V.int IntKind.i64 o.fst, V.int IntKind.i64 o.snd], Blk.cells 125 [] (flatP (o :: r))] = true := rfl
        have hcons : [V.int .i64 o.1, V.int .i64 o.2] :: List.map prow r = List.map prow (o :: r) := rfl
        generalize hM : o :: r = M at c4 hcons hcl ⊢
        have s1 := slp_from M hcl
        obtain ⟨R, hR⟩ : ∃ R, R = M.drop (cnt (a + 1) M) := ⟨_, rfl⟩
        rw [← hR] at s1 ⊢
        have hk : min R.length n.toNat ≤ R.length := Nat.min_le_left _ _
        have hmin : min ((R.length : Nat) : Int) n = ((min R.length n.toNat : Nat) : Int) := by omega
        have s2 := slp_to R hk
        obtain ⟨P, hP⟩ : ∃ P, P = R.take (min R.length n.toNat) := ⟨_, rfl⟩
        have hPt : R.take n.toNat = P := by rw [hP]; exact List.take_eq_take_iff.2 (by omega)
        rw [← hP] at s2
        rw [hPt]
        have hPl : P.length ≤ 100000 := by
          have h8 : R.length ≤ M.length := by rw [hR, List.length_drop]; omega
          have h9 : M.length ≤ l.length := by rw [← hM, ← hO]; exact hml
          rw [hP, List.length_take]; omega
        by_cases h6 : 0 < P.length
        · have h6' : ((P.length : Nat) : Int) > 0 := by omega
          have h7 : ¬ ((P.length : Int) - 1 < 0) := by omega
          have h8 : ((P.length : Int) - 1).toNat = P.length - 1 := by omega
          have h9 : IntKind.i64.wrap ((P.length : Int) - 1) = (P.length : Int) - 1 := wrap_i64 (by omega) (by omega)
          have hx : (P.map prow)[P.length - 1]? = some [.int .i64 P[P.length - 1].1, .int .i64 P[P.length - 1].2] := by
            rw [List.getElem?_map, List.getElem?_eq_getElem (by omega)]; rfl
          rw [lastK_at h6]
          refine call_eq fn_56 rfl ?_
          rw [k_start]
          simp only [Try.f56, List.length_cons, List.length_nil, Nat.zero_add, Nat.reduceSub, Nat.reduceAdd, List.replicate, List.cons_append, List.nil_append]
          simp only [go_sem, Nat.reduceAdd, Nat.reduceSub, Nat.reduceMul, Nat.reduceLT, Nat.reduceLeDiff, Nat.reduceEqDiff, Nat.reduceBEq, Nat.reduceBNe, reduceCtorEq, Int.reduceBNe, Int.reduceBEq, blt0, c1, c2, c3, c4, c5, w1, fz_cons, freezeT, curR, f1, f6, flatP_rows, flatP_take2, flatP_drop2, Nat.le_refl, flatP_all, flatP_ren, flatP_lt, q5, St.lose, List.map_nil, List.map_cons (f := V.drop1 _), dl_any, dl_sl, dl_ms, dl_ptr, dl_int, dl_bool, dl_pc, hcons, s1, s2, ite_min, hmin, h6', h7, h8, h9, hx]
          refine retPage (fun _ => ex_ret) rfl rfl rfl rfl rfl ⟨?_, rfl, rfl⟩
          rw [show decide (R.length > P.length) = decide ((R.length : Int) > (P.length : Int)) from decide_eq_decide.2 (by omega)]; rfl
        · have h6' : ¬ ((P.length : Nat) : Int) > 0 := by omega
          have hPn : P = [] := List.length_eq_zero_iff.1 (by omega)
          refine call_eq fn_56 rfl ?_
          rw [k_start]
          simp only [Try.f56, List.length_cons, List.length_nil, Nat.zero_add, Nat.reduceSub, Nat.reduceAdd, List.replicate, List.cons_append, List.nil_append]
          simp only [go_sem, Nat.reduceAdd, Nat.reduceSub, Nat.reduceMul, Nat.reduceLT, Nat.reduceLeDiff, Nat.reduceEqDiff, Nat.reduceBEq, Nat.reduceBNe, reduceCtorEq, Int.reduceBNe, Int.reduceBEq, blt0, c1, c2, c3, c4, c5, w1, fz_cons, freezeT, curR, f1, f6, flatP_rows, flatP_take2, flatP_drop2, Nat.le_refl, flatP_all, flatP_ren, flatP_lt, q5, St.lose, List.map_nil, List.map_cons (f := V.drop1 _), dl_any, dl_sl, dl_ms, dl_ptr, dl_int, dl_bool, dl_pc, hcons, s1, s2, ite_min, hmin, h6']
          refine retPage (fun _ => ex_ret) rfl rfl rfl rfl rfl ⟨?_, rfl, rfl⟩
          rw [show decide (R.length > P.length) = decide ((R.length : Int) > (P.length : Int)) from decide_eq_decide.2 (by omega), hPn]; rfl
    · rw [Bool.not_eq_true] at h2
      rw [h2] at c2
      simp only [curR] at c2
      rw [pageV, if_neg (by simp [h2])]
      refine call_eq fn_56 rfl ?_
      rw [k_start]
      simp only [Try.f56, List.length_cons, List.length_nil, Nat.zero_add, Nat.reduceSub, Nat.reduceAdd, List.replicate, List.cons_append, List.nil_append]
      simp only [go_sem, Nat.reduceAdd, Nat.reduceSub, Nat.reduceMul, Nat.reduceLT, Nat.reduceLeDiff, Nat.reduceEqDiff, Nat.reduceBEq, Nat.reduceBNe, reduceCtorEq, Int.reduceBNe, Int.reduceBEq, blt0, c1, c2, curR]
      exact retPage (fun _ => ex_ret) rfl rfl rfl rfl rfl ⟨rfl, rfl, rfl⟩
  · rw [Bool.not_eq_true] at h1
    rw [h1] at c1
    rw [pageV, if_neg (by simp [h1])]
    refine call_eq fn_56 rfl ?_
    rw [k_start]
    simp only [Try.f56, List.length_cons, List.length_nil, Nat.zero_add, Nat.reduceSub, Nat.reduceAdd, List.replicate, List.cons_append, List.nil_append]
    simp only [go_sem, Nat.reduceAdd, Nat.reduceSub, Nat.reduceMul, Nat.reduceLT, Nat.reduceLeDiff, Nat.reduceEqDiff, Nat.reduceBEq, Nat.reduceBNe, reduceCtorEq, Int.reduceBNe, Int.reduceBEq, blt0, c1, curR]
    exact retPage (fun _ => ex_ret) rfl rfl rfl rfl rfl ⟨rfl, rfl, rfl⟩
end Go.Proofs.Ytbpkaajokffpjaa
