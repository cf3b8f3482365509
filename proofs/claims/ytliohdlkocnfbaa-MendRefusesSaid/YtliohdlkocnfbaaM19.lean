/- The law MendRefuses. -/
import Derived.Test.YtliohdlkocnfbaaM16
import Derived.Test.YtliohdlkocnfbaaM17
import Derived.Test.YtliohdlkocnfbaaM18
set_option linter.all false
set_option maxRecDepth 100000
namespace Go.Proofs.Ytliohdlkocnfbaa
open Go Go.Abs

theorem rng_filter4 {R : List Nat} (h : ∀ i ∈ R, i < 4) : ∀ k, (List.range (k + 4)).filter (fun i => R.contains i) = (List.range 4).filter fun i => R.contains i
  | 0 => rfl
  | k + 1 => by
    rw [show k + 1 + 4 = (k + 4) + 1 by omega, List.range_succ, List.filter_append, rng_filter4 h k]
    have : R.contains (k + 4) = false := by
      rw [← Bool.not_eq_true, List.contains_iff_mem]
      intro hm
      have := h _ hm
      omega
    rw [List.filter_cons, if_neg (by rw [this]; simp), List.filter_nil, List.append_nil]
section
variable {T1 T2 : TV} {t : TypeId} {ow : List Nat} {ms : List V} {r : List Blk} {X : Blk}
theorem v_tree {cs : List V} {M : Blk} (hc : V.idsl [3] cs = [3]) : reach (X :: treeB T1 :: M :: treeB T2 :: r) (.ptr 3 0 :: cs) = [3] := by
  have e : reachGo (X :: treeB T1 :: M :: treeB T2 :: r) (r.length + 4) [3] = [3] := by
    rw [show r.length + 4 = (r.length + 3) + 1 by omega]
    unfold reachGo
    show (if (V.idsl [3] (treeC T2)).length = [3].length then [3] else reachGo _ _ (V.idsl [3] (treeC T2))) = [3]
    rw [treeC_ids]; rfl
  show (List.range (r.length + 4)).filter (fun i => (reachGo (X :: treeB T1 :: M :: treeB T2 :: r) (r.length + 4) (V.idsl [3] cs)).contains i) = [3]
  rw [hc, e, rng_filter4 (by simp)]; rfl
theorem v_closed3 {cs : List V} {M : Blk} (hc : V.alll (fun i => [3].contains i) cs = true) : closedIn (X :: treeB T1 :: M :: treeB T2 :: r) [3] (.ptr 3 0 :: cs) = true := by
  show ((true && V.alll (fun i => [3].contains i) cs) && ((true && V.alll (fun i => [3].contains i) (treeC T2)) && true)) = true
  rw [treeC_all, hc]; rfl
theorem v_sub3 {M : Blk} : subHp (X :: treeB T1 :: M :: treeB T2 :: r) [3] = [treeB T2] := by
  show [Blk.cells 133 [] (V.renl (fun i => [3].idxOf i) (treeC T2))] = _
  rw [treeC_ren]
theorem v_men {cs : List V} (hc : V.idsl [2] cs = [2]) (hm : ∀ acc, V.idsl acc ms = acc) : reach (X :: treeB T1 :: .cells t ow (.ptr 1 0 :: ms) :: treeB T2 :: r) (.ptr 2 0 :: cs) = [1, 2] := by
  have e : reachGo (X :: treeB T1 :: .cells t ow (.ptr 1 0 :: ms) :: treeB T2 :: r) (r.length + 4) [2] = [1, 2] := by
    rw [show r.length + 4 = (r.length + 2) + 1 + 1 by omega]
    unfold reachGo
    show (if (V.idsl [1, 2] ms).length = [2].length then [2] else reachGo _ _ (V.idsl [1, 2] ms)) = [1, 2]
    rw [hm]
    show reachGo (X :: treeB T1 :: .cells t ow (.ptr 1 0 :: ms) :: treeB T2 :: r) (r.length + 2 + 1) [1, 2] = [1, 2]
    unfold reachGo
    show (if (V.idsl (V.idsl [1, 2] (treeC T1)) (.ptr 1 0 :: ms)).length = [1, 2].length then [1, 2] else reachGo _ _ (V.idsl (V.idsl [1, 2] (treeC T1)) (.ptr 1 0 :: ms))) = [1, 2]
    rw [treeC_ids]
    show (if (V.idsl [1, 2] ms).length = [1, 2].length then [1, 2] else _) = [1, 2]
    rw [hm]; rfl
  show (List.range (r.length + 4)).filter (fun i => (reachGo (X :: treeB T1 :: .cells t ow (.ptr 1 0 :: ms) :: treeB T2 :: r) (r.length + 4) (V.idsl [2] cs)).contains i) = [1, 2]
  rw [hc, e, rng_filter4 (by simp)]; rfl
theorem v_closed {cs : List V} (hc : V.alll (fun i => [1, 2].contains i) cs = true) (hm : ∀ p, V.alll p ms = true) : closedIn (X :: treeB T1 :: .cells t ow (.ptr 1 0 :: ms) :: treeB T2 :: r) [1, 2] (.ptr 2 0 :: cs) = true := by
  show ((true && V.alll (fun i => [1, 2].contains i) cs) && ((true && V.alll (fun i => [1, 2].contains i) (treeC T1)) && ((true && (true && V.alll (fun i => [1, 2].contains i) ms)) && true))) = true
  rw [treeC_all, hc, hm]; rfl
theorem v_sub (hm : ∀ f, V.renl f ms = ms) : subHp (X :: treeB T1 :: .cells t ow (.ptr 1 0 :: ms) :: treeB T2 :: r) [1, 2] = [treeB T1, .cells t ow (.ptr 0 0 :: ms)] := by
  show [Blk.cells 133 [] (V.renl (fun i => [1, 2].idxOf i) (treeC T1)), Blk.cells t ow (.ptr 0 0 :: V.renl (fun i => [1, 2].idxOf i) ms)] = _
  rw [treeC_ren, hm]
end
theorem beq_tf : (true == false) = false := rfl
theorem beq_ft : (false == true) = false := rfl
abbrev menC (lv : Int) (L : List Int) (l : List TR) (ov : Bool) : Blk := .cells 95 [3] [.ptr 1 0, .int .i64 lv, .sl true (L.map irow), .sl true (l.map trow), .bool ov]
abbrev tolB (lv : Int) (L : List Int) (K : List Nat) (C : List CR) : Blk := .cells 30 [] [.int .i64 lv, .sl true (L.map irow), .sl true (K.map urow), .sl true (C.map crow)]
theorem head_four {s : St} {K : List Nat} {X M : Blk} {T1 T2 : TV} {r : List Blk} {fr : List V} {own : List Nat} (hh : s.hp = X :: treeB T1 :: M :: treeB T2 :: r) (hX : X.all (fun i => Nat.blt i 4) = true) (hM : M.all (fun i => Nat.blt i 4) = true) (hnb : s.nb = 0) (hfr : killAll s.fr K = fr)
    (hown : s.own.filter (fun t => !K.contains t) = own) (hn : topIds fr = 4) (hl : V.ltl 4 fr = true) : s.head K = { fr := fr, own := own, hp := [X, treeB T1, M, treeB T2], al := [], nb := 0 } := by
  subst hfr hown
  obtain ⟨f, o, h, a, n⟩ := s
  simp only at hh hnb hn hl
  subst hh hnb
  have hall : ((X :: treeB T1 :: M :: treeB T2 :: r).take 4).all (Blk.all fun i => Nat.blt i 4) = true := by
    show (X.all _ && (V.alll _ (treeC T1) && (M.all _ && (V.alll _ (treeC T2) && true)))) = true
    rw [hX, hM, treeC_all, treeC_all]; rfl
  have hu : upTo (X :: treeB T1 :: M :: treeB T2 :: r) r.length 4 = 4 := by
    cases r with
    | nil => rfl
    | cons b r => rw [List.length_cons, upTo, hall]; rfl
  simp only [St.head, St.kill, St.gc, hn, hl, List.length_cons, Nat.zero_max, show r.length + 1 + 1 + 1 + 1 - 4 = r.length by omega, hu, hall]
  rfl
def S4 (T1 T2 : TV) (lx : Int) (Lx : List Int) (Kx : List Nat) (Cx : List CR) (x : Nat × Int × List Int × List TR × Bool) : St := { fr := mkF 128 [(5, .ptr 0 0), (7, .ptr 2 0), (9, .ptr 3 0), (11, .int .i64 x.1)], own := [], hp := [tolB lx Lx Kx Cx, treeB T1, menC x.2.1 x.2.2.1 x.2.2.2.1 x.2.2.2.2, treeB T2], al := [], nb := 0 }
set_option maxHeartbeats 32000000 in
theorem refuses_of (T1 T2 : TV) (o1 : T1.Ok) (o2 : T2.Ok) (ok1 : ∀ k, okC (getT T1 k) = true) (ok2 : ∀ k, okC (getT T2 k) = true) (a b : List PR) (ha : chk a = true) (hb : chk b = true) (lx : Int) (Lx : List Int) (Kx : List Nat) (Cx : List CR)
    (hf1 : fewT a Lx Kx Cx) (hf2 : fewT b Lx Kx Cx) (cm : (Lim cfg).call 17 [.sl true (a.map prow)] [] = some (.tup [.ptr 1 0, .int .i64 0], false, [treeB T1, menB 2 [0] [] false]))
    (cn : (Lim cfg).call 10 [.sl true (b.map prow)] [] = some (.tup [.ptr 0 0, .int .i64 0], false, [treeB T2])) :
    (Lim cfg).call 4 [.sl true (a.map prow), .sl true (b.map prow), .agg (toldR lx Lx Kx Cx)] [] = some (.bool true, false, []) := by
  have caw := call_9
  have c1 := call_8 a lx Lx Kx Cx
  have c2 := call_8 b lx Lx Kx Cx
  rw [decide_eq_true hf1] at c1
  rw [decide_eq_true hf2] at c2
  simp only [toldR] at c1 c2
  unfold fewT at hf1
  have crt := call_16 lx Lx Kx Cx (by omega)
  have cra := fun lv L => call_14 lv L
  have cwh := call_21 lx Lx Kx Cx (by omega) (by omega) (by omega)
  simp only [toldR] at crt cwh
  simp only [askR] at cra
  refine call_eq fn_4 rfl ?_
  rw [k_start]
  simp only [Try.f4, List.length_cons, List.length_nil, Nat.zero_add, Nat.reduceSub, Nat.reduceAdd, List.replicate, List.cons_append, List.nil_append]
  repeat' (first | simp (maxSteps := 10000000) (disch := omega) only [go_sem, Nat.reduceAdd, Nat.reduceSub, Nat.reduceMul, Nat.reduceLT, Nat.reduceLeDiff, Nat.reduceEqDiff, Nat.reduceBEq, Nat.reduceBNe, reduceCtorEq, Int.reduceBNe, Int.reduceBEq, blt0, Int.reduceToNat, Int.toNat_zero, Int.toNat_one, if_pos, if_neg, wrap_i64, decide_eq_true, decide_eq_false, ibeq_t, ibeq_f, ibne_t, ibne_f, Int.toNat_natCast, tn_sub1, tn_add1, List.getElem?_map, gx, reach_i1, reach_i2, reach_s1, reach_si, reach_ss, toldR, c1, c2, cm, cn, treeC_ren] | simp (maxSteps := 10000000) (disch := (simp only [List.length_append, List.length_map, List.length_take, List.length_drop, List.length_cons, List.length_nil]; omega)) only [str_add, if_pos, if_neg] | simp only [go_sem, Nat.reduceAdd, Nat.reduceSub, Nat.reduceMul, Nat.reduceLT, Nat.reduceLeDiff, Nat.reduceEqDiff, Nat.reduceBEq, Nat.reduceBNe, reduceCtorEq, Int.reduceBNe, Int.reduceBEq, blt0, toldR, c1, c2, cm, cn, treeC_ren] | ((first | with_reducible refine WC_split (fun hc => ?_) (fun hc => ?_) | with_reducible refine WS_split (fun hc => ?_) (fun hc => ?_) | with_reducible refine WD_split (fun hc => ?_) (fun hc => ?_)) <;> (try simp only [hc]) <;> (try simp only [Bool.and_eq_true, Bool.or_eq_true, Bool.not_eq_true', Bool.not_eq_false', decide_eq_true_eq, decide_eq_false_iff_not, beq_iff_eq, beq_eq_false_iff_ne, bne_iff_ne, bne_eq_false_iff_eq, ne_eq] at hc) <;> (try (have hb : @Eq Bool _ _ := hc; simp only [hb]; clear hb))))
  refine k_loop (S4 T1 T2 lx Lx Kx Cx) (fun x => x.1 ≤ 4 ∧ (x.2.2.2.2 = false → x.2.1 = 2 - (x.1 : Int) ∧ askOk x.2.1 x.2.2.1 = true ∧ x.2.2.2.1 = []) ∧ (x.2.2.2.2 = true → chkT x.2.2.2.1 = true ∧ x.2.2.2.1.length ≤ 10000 ∧ x.2.2.1.length ≤ 5000)) (fun x => 5 - x.1) (0, 2, [0], [], false)
    (K := cfg.kill 4 8) rfl ⟨Nat.zero_le _, fun _ => ⟨rfl, rfl, rfl⟩, fun h => by cases h⟩ (head_four rfl rfl rfl rfl (by kernel_rfl) (by kernel_rfl) (by kernel_rfl) (by kernel_rfl)) ?_
  rintro ⟨n, lv, L, l, ov⟩ ⟨hn, hF, hT⟩ k' Q' hnorm hexit hret
  simp only at hn hF hT
  have eS : ∀ n lv L l ov, S4 T1 T2 lx Lx Kx Cx (n, lv, L, l, ov) = { fr := mkF 128 [(5, .ptr 0 0), (7, .ptr 2 0), (9, .ptr 3 0), (11, .int .i64 n)], own := [], hp := [tolB lx Lx Kx Cx, treeB T1, menC lv L l ov, treeB T2], al := [], nb := 0 } := fun _ _ _ _ _ => rfl
  rw [eS]
  simp only [eS, mkF, List.foldl, List.replicate, List.set, List.cons_append, List.nil_append]
  cases ov with
  | true =>
    obtain ⟨t1, t2, t3⟩ := hT rfl
    have ck := ask_over (T := T1) (lv := lv) (L := L) (l := l) (by omega)
    have ct := call_19 (T := T1) (lv := lv) (L := L) (l := l) (ov := true) (by omega)
    rw [if_pos ⟨rfl, t1⟩] at ct
    have ch := hear_bad (T := T1) (lv := lv) (lv2 := lx) (L := L) (L2 := Lx) (l := l) (ov := true) (K := Kx) (C := Cx) t3 (by omega) (by omega) (by omega) rfl
    have cs := call_20 0 0 [] [] (by simp) (by simp)
    rw [decide_eq_true ⟨rfl, rfl⟩] at cs
    simp only [askR, toldR, List.map_nil] at ck ct ch cs
    have cra0 := cra 0 []
    simp only [List.map_nil] at cra0
    clear hnorm hexit
    repeat' (first | simp (maxSteps := 10000000) (disch := omega) only [go_sem, Nat.reduceAdd, Nat.reduceSub, Nat.reduceMul, Nat.reduceLT, Nat.reduceLeDiff, Nat.reduceEqDiff, Nat.reduceBEq, Nat.reduceBNe, reduceCtorEq, Int.reduceBNe, Int.reduceBEq, blt0, Int.reduceToNat, Int.toNat_zero, Int.toNat_one, if_pos, if_neg, wrap_i64, decide_eq_true, decide_eq_false, ibeq_t, ibeq_f, ibne_t, ibne_f, Int.toNat_natCast, tn_sub1, tn_add1, List.getElem?_map, gx, reach_i1, reach_i2, reach_s1, reach_si, reach_ss] | simp (maxSteps := 10000000) (disch := (simp only [List.length_append, List.length_map, List.length_take, List.length_drop, List.length_cons, List.length_nil]; omega)) only [str_add, if_pos, if_neg] | simp only [go_sem, Nat.reduceAdd, Nat.reduceSub, Nat.reduceMul, Nat.reduceLT, Nat.reduceLeDiff, Nat.reduceEqDiff, Nat.reduceBEq, Nat.reduceBNe, reduceCtorEq, Int.reduceBNe, Int.reduceBEq, blt0] | ((first | with_reducible refine WC_split (fun hc => ?_) (fun hc => ?_) | with_reducible refine WS_split (fun hc => ?_) (fun hc => ?_) | with_reducible refine WD_split (fun hc => ?_) (fun hc => ?_)) <;> (try simp only [hc]) <;> (try simp only [Bool.and_eq_true, Bool.or_eq_true, Bool.not_eq_true', Bool.not_eq_false', decide_eq_true_eq, decide_eq_false_iff_not, beq_iff_eq, beq_eq_false_iff_ne, bne_iff_ne, bne_eq_false_iff_eq, ne_eq] at hc) <;> (try (have hb : @Eq Bool _ _ := hc; simp only [hb]; clear hb))))
    rw [callHeap_at (R := [1, 2]) ck
    (hR := v_men rfl (fun _ => rfl)) (hc := v_closed rfl (fun _ => rfl)) (hs := v_sub (fun _ => rfl))]
    repeat' (first | simp (maxSteps := 10000000) (disch := omega) only [go_sem, Nat.reduceAdd, Nat.reduceSub, Nat.reduceMul, Nat.reduceLT, Nat.reduceLeDiff, Nat.reduceEqDiff, Nat.reduceBEq, Nat.reduceBNe, reduceCtorEq, Int.reduceBNe, Int.reduceBEq, blt0, Int.reduceToNat, Int.toNat_zero, Int.toNat_one, if_pos, if_neg, wrap_i64, decide_eq_true, decide_eq_false, ibeq_t, ibeq_f, ibne_t, ibne_f, Int.toNat_natCast, tn_sub1, tn_add1, List.getElem?_map, gx, reach_i1, reach_i2, reach_s1, reach_si, reach_ss, treeC_ren, beq_tf, beq_ft] | simp (maxSteps := 10000000) (disch := (simp only [List.length_append, List.length_map, List.length_take, List.length_drop, List.length_cons, List.length_nil]; omega)) only [str_add, if_pos, if_neg] | simp only [go_sem, Nat.reduceAdd, Nat.reduceSub, Nat.reduceMul, Nat.reduceLT, Nat.reduceLeDiff, Nat.reduceEqDiff, Nat.reduceBEq, Nat.reduceBNe, reduceCtorEq, Int.reduceBNe, Int.reduceBEq, blt0, treeC_ren, beq_tf, beq_ft] | ((first | with_reducible refine WC_split (fun hc => ?_) (fun hc => ?_) | with_reducible refine WS_split (fun hc => ?_) (fun hc => ?_) | with_reducible refine WD_split (fun hc => ?_) (fun hc => ?_)) <;> (try simp only [hc]) <;> (try simp only [Bool.and_eq_true, Bool.or_eq_true, Bool.not_eq_true', Bool.not_eq_false', decide_eq_true_eq, decide_eq_false_iff_not, beq_iff_eq, beq_eq_false_iff_ne, bne_iff_ne, bne_eq_false_iff_eq, ne_eq] at hc) <;> (try (have hb : @Eq Bool _ _ := hc; simp only [hb]; clear hb))))
    rw [callHeap_at (R := [1, 2]) ct
    (hR := v_men rfl (fun _ => rfl)) (hc := v_closed rfl (fun _ => rfl)) (hs := v_sub (fun _ => rfl))]
    repeat' (first | simp (maxSteps := 10000000) (disch := omega) only [go_sem, Nat.reduceAdd, Nat.reduceSub, Nat.reduceMul, Nat.reduceLT, Nat.reduceLeDiff, Nat.reduceEqDiff, Nat.reduceBEq, Nat.reduceBNe, reduceCtorEq, Int.reduceBNe, Int.reduceBEq, blt0, Int.reduceToNat, Int.toNat_zero, Int.toNat_one, if_pos, if_neg, wrap_i64, decide_eq_true, decide_eq_false, ibeq_t, ibeq_f, ibne_t, ibne_f, Int.toNat_natCast, tn_sub1, tn_add1, List.getElem?_map, gx, reach_i1, reach_i2, reach_s1, reach_si, reach_ss, treeC_ren, beq_tf, beq_ft] | simp (maxSteps := 10000000) (disch := (simp only [List.length_append, List.length_map, List.length_take, List.length_drop, List.length_cons, List.length_nil]; omega)) only [str_add, if_pos, if_neg] | simp only [go_sem, Nat.reduceAdd, Nat.reduceSub, Nat.reduceMul, Nat.reduceLT, Nat.reduceLeDiff, Nat.reduceEqDiff, Nat.reduceBEq, Nat.reduceBNe, reduceCtorEq, Int.reduceBNe, Int.reduceBEq, blt0, treeC_ren, beq_tf, beq_ft] | ((first | with_reducible refine WC_split (fun hc => ?_) (fun hc => ?_) | with_reducible refine WS_split (fun hc => ?_) (fun hc => ?_) | with_reducible refine WD_split (fun hc => ?_) (fun hc => ?_)) <;> (try simp only [hc]) <;> (try simp only [Bool.and_eq_true, Bool.or_eq_true, Bool.not_eq_true', Bool.not_eq_false', decide_eq_true_eq, decide_eq_false_iff_not, beq_iff_eq, beq_eq_false_iff_ne, bne_iff_ne, bne_eq_false_iff_eq, ne_eq] at hc) <;> (try (have hb : @Eq Bool _ _ := hc; simp only [hb]; clear hb))))
    rw [callHeap_at (R := [1, 2]) ch
    (hR := v_men rfl (fun _ => rfl)) (hc := v_closed rfl (fun _ => rfl)) (hs := v_sub (fun _ => rfl))]
    repeat' (first | simp (maxSteps := 10000000) (disch := omega) only [go_sem, Nat.reduceAdd, Nat.reduceSub, Nat.reduceMul, Nat.reduceLT, Nat.reduceLeDiff, Nat.reduceEqDiff, Nat.reduceBEq, Nat.reduceBNe, reduceCtorEq, Int.reduceBNe, Int.reduceBEq, blt0, Int.reduceToNat, Int.toNat_zero, Int.toNat_one, if_pos, if_neg, wrap_i64, decide_eq_true, decide_eq_false, ibeq_t, ibeq_f, ibne_t, ibne_f, Int.toNat_natCast, tn_sub1, tn_add1, List.getElem?_map, gx, reach_i1, reach_i2, reach_s1, reach_si, reach_ss, treeC_ren, beq_tf, beq_ft] | simp (maxSteps := 10000000) (disch := (simp only [List.length_append, List.length_map, List.length_take, List.length_drop, List.length_cons, List.length_nil]; omega)) only [str_add, if_pos, if_neg] | simp only [go_sem, Nat.reduceAdd, Nat.reduceSub, Nat.reduceMul, Nat.reduceLT, Nat.reduceLeDiff, Nat.reduceEqDiff, Nat.reduceBEq, Nat.reduceBNe, reduceCtorEq, Int.reduceBNe, Int.reduceBEq, blt0, treeC_ren, beq_tf, beq_ft] | ((first | with_reducible refine WC_split (fun hc => ?_) (fun hc => ?_) | with_reducible refine WS_split (fun hc => ?_) (fun hc => ?_) | with_reducible refine WD_split (fun hc => ?_) (fun hc => ?_)) <;> (try simp only [hc]) <;> (try simp only [Bool.and_eq_true, Bool.or_eq_true, Bool.not_eq_true', Bool.not_eq_false', decide_eq_true_eq, decide_eq_false_iff_not, beq_iff_eq, beq_eq_false_iff_ne, bne_iff_ne, bne_eq_false_iff_eq, ne_eq] at hc) <;> (try (have hb : @Eq Bool _ _ := hc; simp only [hb]; clear hb))))
    rw [callHeap_at (R := [1, 2]) ck
    (hR := v_men rfl (fun _ => rfl)) (hc := v_closed rfl (fun _ => rfl)) (hs := v_sub (fun _ => rfl))]
    repeat' (first | simp (maxSteps := 10000000) (disch := omega) only [go_sem, Nat.reduceAdd, Nat.reduceSub, Nat.reduceMul, Nat.reduceLT, Nat.reduceLeDiff, Nat.reduceEqDiff, Nat.reduceBEq, Nat.reduceBNe, reduceCtorEq, Int.reduceBNe, Int.reduceBEq, blt0, Int.reduceToNat, Int.toNat_zero, Int.toNat_one, if_pos, if_neg, wrap_i64, decide_eq_true, decide_eq_false, ibeq_t, ibeq_f, ibne_t, ibne_f, Int.toNat_natCast, tn_sub1, tn_add1, List.getElem?_map, gx, reach_i1, reach_i2, reach_s1, reach_si, reach_ss, treeC_ren, beq_tf, beq_ft, cra0, cs, caw] | simp (maxSteps := 10000000) (disch := (simp only [List.length_append, List.length_map, List.length_take, List.length_drop, List.length_cons, List.length_nil]; omega)) only [str_add, if_pos, if_neg] | simp only [go_sem, Nat.reduceAdd, Nat.reduceSub, Nat.reduceMul, Nat.reduceLT, Nat.reduceLeDiff, Nat.reduceEqDiff, Nat.reduceBEq, Nat.reduceBNe, reduceCtorEq, Int.reduceBNe, Int.reduceBEq, blt0, treeC_ren, beq_tf, beq_ft, cra0, cs, caw] | ((first | with_reducible refine WC_split (fun hc => ?_) (fun hc => ?_) | with_reducible refine WS_split (fun hc => ?_) (fun hc => ?_) | with_reducible refine WD_split (fun hc => ?_) (fun hc => ?_)) <;> (try simp only [hc]) <;> (try simp only [Bool.and_eq_true, Bool.or_eq_true, Bool.not_eq_true', Bool.not_eq_false', decide_eq_true_eq, decide_eq_false_iff_not, beq_iff_eq, beq_eq_false_iff_ne, bne_iff_ne, bne_eq_false_iff_eq, ne_eq] at hc) <;> (try (have hb : @Eq Bool _ _ := hc; simp only [hb]; clear hb))))
    refine hret _ ?_
    repeat' (first | simp (maxSteps := 10000000) (disch := omega) only [go_sem, Nat.reduceAdd, Nat.reduceSub, Nat.reduceMul, Nat.reduceLT, Nat.reduceLeDiff, Nat.reduceEqDiff, Nat.reduceBEq, Nat.reduceBNe, reduceCtorEq, Int.reduceBNe, Int.reduceBEq, blt0, Int.reduceToNat, Int.toNat_zero, Int.toNat_one, if_pos, if_neg, wrap_i64, decide_eq_true, decide_eq_false, ibeq_t, ibeq_f, ibne_t, ibne_f, Int.toNat_natCast, tn_sub1, tn_add1, List.getElem?_map, gx, reach_i1, reach_i2, reach_s1, reach_si, reach_ss] | simp (maxSteps := 10000000) (disch := (simp only [List.length_append, List.length_map, List.length_take, List.length_drop, List.length_cons, List.length_nil]; omega)) only [str_add, if_pos, if_neg] | simp only [go_sem, Nat.reduceAdd, Nat.reduceSub, Nat.reduceMul, Nat.reduceLT, Nat.reduceLeDiff, Nat.reduceEqDiff, Nat.reduceBEq, Nat.reduceBNe, reduceCtorEq, Int.reduceBNe, Int.reduceBEq, blt0] | ((first | with_reducible refine WC_split (fun hc => ?_) (fun hc => ?_) | with_reducible refine WS_split (fun hc => ?_) (fun hc => ?_) | with_reducible refine WD_split (fun hc => ?_) (fun hc => ?_)) <;> (try simp only [hc]) <;> (try simp only [Bool.and_eq_true, Bool.or_eq_true, Bool.not_eq_true', Bool.not_eq_false', decide_eq_true_eq, decide_eq_false_iff_not, beq_iff_eq, beq_eq_false_iff_ne, bne_iff_ne, bne_eq_false_iff_eq, ne_eq] at hc) <;> (try (have hb : @Eq Bool _ _ := hc; simp only [hb]; clear hb))))
    exact ret1n (v := .bool true) (fun _ => ex_ret) rfl rfl rfl ⟨rfl, rfl, rfl⟩
  | false =>
    obtain ⟨t1, t2, rfl⟩ := hF rfl
    obtain ⟨k1, k2, k3, k4⟩ := askOk_inv t2
    have hLl := ask_len t2
    have hsz := sizeZ_le lv
    have hn3 : n ≤ 3 := by omega
    have ck := ask_more (T := T1) (lv := lv) (L := L) (l := []) (by omega)
    have ct := call_19 (T := T1) (lv := lv) (L := L) (l := []) (ov := false) (by simp)
    rw [if_neg (by simp)] at ct
    have csa := call_20 lx lv Lx L (by omega) (by omega)
    have csb := call_20 lv lv L L (by omega) (by omega)
    rw [decide_eq_true ⟨rfl, rfl⟩] at csb
    have ca := ans_ok o2 (lv := lv) (L := L) (by omega) t2
    obtain ⟨KC, hKC, hwh⟩ : ∃ KC : List Nat × List CR, ansR T2 lv L = toldR lv L KC.1 KC.2 ∧ wholeT lv L KC.1 KC.2 = true ∧ KC.1.length ≤ 100000 ∧ KC.2.length ≤ 100000 ∧ (lv = -1 → KC.2.all okC = true) ∧ (lv ≠ -1 → KC.1.length = 16 * L.length) := by
      by_cases h1 : lv = -1
      · have hall : (L.map (getT T2)).all okC = true := by
          rw [List.all_map, List.all_eq_true]
          exact fun k _ => ok2 k
        refine ⟨([], L.map (getT T2)), by rw [ansR, if_pos h1], ?_, Nat.zero_le _, by simp only [List.length_map]; omega, fun _ => hall, fun h => absurd h1 h⟩
        simp only
        rw [wholeT, t2, hall, if_pos h1, decide_eq_true (by simp)]; rfl
      · have hkl := kids_len o2 (lv := lv) (by omega) k2 k4
        refine ⟨(kidsT T2 lv L, []), by rw [ansR, if_neg h1], ?_, by simp only; omega, Nat.zero_le _, fun h => absurd h h1, fun _ => hkl⟩
        simp only
        rw [wholeT, t2, if_neg h1, decide_eq_true ⟨rfl, hkl⟩]; rfl
    obtain ⟨K, C⟩ := KC
    obtain ⟨w1, w2, w3, w4, w5⟩ := hwh
    simp only at hKC w1 w2 w3 w4 w5
    rw [hKC] at ca
    have ch := hear_good o1 (lv := lv) (L := L) (l := []) (K := K) (C := C) (by omega) (by simp) w2 w3 w1
    obtain ⟨lv2, L2, l2, ov2, hB, hI⟩ : ∃ (lv2 : Int) (L2 : List Int) (l2 : List TR) (ov2 : Bool), hearB T1 lv L [] K C = menB lv2 L2 l2 ov2 ∧ (n + 1 ≤ 4 ∧ (ov2 = false → lv2 = 2 - ((n + 1 : Nat) : Int) ∧ askOk lv2 L2 = true ∧ l2 = []) ∧ (ov2 = true → chkT l2 = true ∧ l2.length ≤ 10000 ∧ L2.length ≤ 5000)) := by
      unfold hearB
      by_cases h1 : lv = -1
      · rw [if_pos h1]
        refine ⟨_, _, _, _, rfl, by omega, (fun h => by cases h), fun _ => ⟨?_, ?_, by omega⟩⟩
        · simp only [askOk, Bool.and_eq_true] at t2
          exact turns_ok ok1 hsz t2.2.2 (w4 h1)
        · have : ∀ (L : List Int) (C : List CR), (turnsT T1 L C []).length ≤ L.length := fun L => by
            induction L with
            | nil => intro C; cases C <;> exact Nat.le_refl _
            | cons k L ih =>
              intro C
              cases C with
              | nil => exact Nat.zero_le _
              | cons c C =>
                rw [turnsT, turnsT_app]
                have := ih C
                split <;> simp only [List.length_append, List.length_cons, List.length_nil] <;> omega
          have := this L C
          omega
      · rw [if_neg h1]
        refine ⟨_, _, _, _, rfl, by omega, fun h => ⟨by omega, ?_, rfl⟩, fun _ => ⟨rfl, Nat.zero_le _, ?_⟩⟩
        · refine next_ok (by omega) t2 (w5 h1) fun e => ?_
          rw [e] at h
          cases h
        · have := nextF_len L (kidsT T1 lv L) K K.length
          have hk := w5 h1
          have hx : (nextT L (kidsT T1 lv L) K).length ≤ 5000 := by
            by_cases hne : nextT L (kidsT T1 lv L) K = []
            · rw [hne]; exact Nat.zero_le _
            · have := ask_len (next_ok (by omega) t2 hk hne)
              have := sizeZ_le (lv - 1)
              omega
          exact hx
    rw [hB] at ch
    simp only [askR, toldR, List.map_nil] at ck ct csa csb ca ch
    by_cases hg : goodH lv L false lx Lx Kx Cx = true
    · unfold goodH at hg
      rw [Bool.not_false, Bool.true_and, Bool.and_eq_true, decide_eq_true_eq] at hg
      rw [decide_eq_true hg.1] at csa
      rw [hg.2] at cwh
      clear hexit hret
      repeat' (first | simp (maxSteps := 10000000) (disch := omega) only [go_sem, Nat.reduceAdd, Nat.reduceSub, Nat.reduceMul, Nat.reduceLT, Nat.reduceLeDiff, Nat.reduceEqDiff, Nat.reduceBEq, Nat.reduceBNe, reduceCtorEq, Int.reduceBNe, Int.reduceBEq, blt0, Int.reduceToNat, Int.toNat_zero, Int.toNat_one, if_pos, if_neg, wrap_i64, decide_eq_true, decide_eq_false, ibeq_t, ibeq_f, ibne_t, ibne_f, Int.toNat_natCast, tn_sub1, tn_add1, List.getElem?_map, gx, reach_i1, reach_i2, reach_s1, reach_si, reach_ss] | simp (maxSteps := 10000000) (disch := (simp only [List.length_append, List.length_map, List.length_take, List.length_drop, List.length_cons, List.length_nil]; omega)) only [str_add, if_pos, if_neg] | simp only [go_sem, Nat.reduceAdd, Nat.reduceSub, Nat.reduceMul, Nat.reduceLT, Nat.reduceLeDiff, Nat.reduceEqDiff, Nat.reduceBEq, Nat.reduceBNe, reduceCtorEq, Int.reduceBNe, Int.reduceBEq, blt0] | ((first | with_reducible refine WC_split (fun hc => ?_) (fun hc => ?_) | with_reducible refine WS_split (fun hc => ?_) (fun hc => ?_) | with_reducible refine WD_split (fun hc => ?_) (fun hc => ?_)) <;> (try simp only [hc]) <;> (try simp only [Bool.and_eq_true, Bool.or_eq_true, Bool.not_eq_true', Bool.not_eq_false', decide_eq_true_eq, decide_eq_false_iff_not, beq_iff_eq, beq_eq_false_iff_ne, bne_iff_ne, bne_eq_false_iff_eq, ne_eq] at hc) <;> (try (have hb : @Eq Bool _ _ := hc; simp only [hb]; clear hb))))
      rw [callHeap_at (R := [1, 2]) ck
      (hR := v_men rfl (fun _ => rfl)) (hc := v_closed rfl (fun _ => rfl)) (hs := v_sub (fun _ => rfl))]
      repeat' (first | simp (maxSteps := 10000000) (disch := omega) only [go_sem, Nat.reduceAdd, Nat.reduceSub, Nat.reduceMul, Nat.reduceLT, Nat.reduceLeDiff, Nat.reduceEqDiff, Nat.reduceBEq, Nat.reduceBNe, reduceCtorEq, Int.reduceBNe, Int.reduceBEq, blt0, Int.reduceToNat, Int.toNat_zero, Int.toNat_one, if_pos, if_neg, wrap_i64, decide_eq_true, decide_eq_false, ibeq_t, ibeq_f, ibne_t, ibne_f, Int.toNat_natCast, tn_sub1, tn_add1, List.getElem?_map, gx, reach_i1, reach_i2, reach_s1, reach_si, reach_ss, treeC_ren, beq_tf, beq_ft] | simp (maxSteps := 10000000) (disch := (simp only [List.length_append, List.length_map, List.length_take, List.length_drop, List.length_cons, List.length_nil]; omega)) only [str_add, if_pos, if_neg] | simp only [go_sem, Nat.reduceAdd, Nat.reduceSub, Nat.reduceMul, Nat.reduceLT, Nat.reduceLeDiff, Nat.reduceEqDiff, Nat.reduceBEq, Nat.reduceBNe, reduceCtorEq, Int.reduceBNe, Int.reduceBEq, blt0, treeC_ren, beq_tf, beq_ft] | ((first | with_reducible refine WC_split (fun hc => ?_) (fun hc => ?_) | with_reducible refine WS_split (fun hc => ?_) (fun hc => ?_) | with_reducible refine WD_split (fun hc => ?_) (fun hc => ?_)) <;> (try simp only [hc]) <;> (try simp only [Bool.and_eq_true, Bool.or_eq_true, Bool.not_eq_true', Bool.not_eq_false', decide_eq_true_eq, decide_eq_false_iff_not, beq_iff_eq, beq_eq_false_iff_ne, bne_iff_ne, bne_eq_false_iff_eq, ne_eq] at hc) <;> (try (have hb : @Eq Bool _ _ := hc; simp only [hb]; clear hb))))
      rw [callHeap_at (R := [1, 2]) ct
      (hR := v_men rfl (fun _ => rfl)) (hc := v_closed rfl (fun _ => rfl)) (hs := v_sub (fun _ => rfl))]
      repeat' (first | simp (maxSteps := 10000000) (disch := omega) only [go_sem, Nat.reduceAdd, Nat.reduceSub, Nat.reduceMul, Nat.reduceLT, Nat.reduceLeDiff, Nat.reduceEqDiff, Nat.reduceBEq, Nat.reduceBNe, reduceCtorEq, Int.reduceBNe, Int.reduceBEq, blt0, Int.reduceToNat, Int.toNat_zero, Int.toNat_one, if_pos, if_neg, wrap_i64, decide_eq_true, decide_eq_false, ibeq_t, ibeq_f, ibne_t, ibne_f, Int.toNat_natCast, tn_sub1, tn_add1, List.getElem?_map, gx, reach_i1, reach_i2, reach_s1, reach_si, reach_ss, treeC_ren, beq_tf, beq_ft, cra, csa, crt, cwh] | simp (maxSteps := 10000000) (disch := (simp only [List.length_append, List.length_map, List.length_take, List.length_drop, List.length_cons, List.length_nil]; omega)) only [str_add, if_pos, if_neg] | simp only [go_sem, Nat.reduceAdd, Nat.reduceSub, Nat.reduceMul, Nat.reduceLT, Nat.reduceLeDiff, Nat.reduceEqDiff, Nat.reduceBEq, Nat.reduceBNe, reduceCtorEq, Int.reduceBNe, Int.reduceBEq, blt0, treeC_ren, beq_tf, beq_ft, cra, csa, crt, cwh] | ((first | with_reducible refine WC_split (fun hc => ?_) (fun hc => ?_) | with_reducible refine WS_split (fun hc => ?_) (fun hc => ?_) | with_reducible refine WD_split (fun hc => ?_) (fun hc => ?_)) <;> (try simp only [hc]) <;> (try simp only [Bool.and_eq_true, Bool.or_eq_true, Bool.not_eq_true', Bool.not_eq_false', decide_eq_true_eq, decide_eq_false_iff_not, beq_iff_eq, beq_eq_false_iff_ne, bne_iff_ne, bne_eq_false_iff_eq, ne_eq] at hc) <;> (try (have hb : @Eq Bool _ _ := hc; simp only [hb]; clear hb))))
      rw [callHeap_at (R := [3]) ca (hR := v_tree rfl) (hc := v_closed3 rfl) (hs := v_sub3)]
      repeat' (first | simp (maxSteps := 10000000) (disch := omega) only [go_sem, Nat.reduceAdd, Nat.reduceSub, Nat.reduceMul, Nat.reduceLT, Nat.reduceLeDiff, Nat.reduceEqDiff, Nat.reduceBEq, Nat.reduceBNe, reduceCtorEq, Int.reduceBNe, Int.reduceBEq, blt0, Int.reduceToNat, Int.toNat_zero, Int.toNat_one, if_pos, if_neg, wrap_i64, decide_eq_true, decide_eq_false, ibeq_t, ibeq_f, ibne_t, ibne_f, Int.toNat_natCast, tn_sub1, tn_add1, List.getElem?_map, gx, reach_i1, reach_i2, reach_s1, reach_si, reach_ss, treeC_ren, beq_tf, beq_ft] | simp (maxSteps := 10000000) (disch := (simp only [List.length_append, List.length_map, List.length_take, List.length_drop, List.length_cons, List.length_nil]; omega)) only [str_add, if_pos, if_neg] | simp only [go_sem, Nat.reduceAdd, Nat.reduceSub, Nat.reduceMul, Nat.reduceLT, Nat.reduceLeDiff, Nat.reduceEqDiff, Nat.reduceBEq, Nat.reduceBNe, reduceCtorEq, Int.reduceBNe, Int.reduceBEq, blt0, treeC_ren, beq_tf, beq_ft] | ((first | with_reducible refine WC_split (fun hc => ?_) (fun hc => ?_) | with_reducible refine WS_split (fun hc => ?_) (fun hc => ?_) | with_reducible refine WD_split (fun hc => ?_) (fun hc => ?_)) <;> (try simp only [hc]) <;> (try simp only [Bool.and_eq_true, Bool.or_eq_true, Bool.not_eq_true', Bool.not_eq_false', decide_eq_true_eq, decide_eq_false_iff_not, beq_iff_eq, beq_eq_false_iff_ne, bne_iff_ne, bne_eq_false_iff_eq, ne_eq] at hc) <;> (try (have hb : @Eq Bool _ _ := hc; simp only [hb]; clear hb))))
      rw [callHeap_at (R := [1, 2]) ch
      (hR := v_men rfl (fun _ => rfl)) (hc := v_closed rfl (fun _ => rfl)) (hs := v_sub (fun _ => rfl))]
      repeat' (first | simp (maxSteps := 10000000) (disch := omega) only [go_sem, Nat.reduceAdd, Nat.reduceSub, Nat.reduceMul, Nat.reduceLT, Nat.reduceLeDiff, Nat.reduceEqDiff, Nat.reduceBEq, Nat.reduceBNe, reduceCtorEq, Int.reduceBNe, Int.reduceBEq, blt0, Int.reduceToNat, Int.toNat_zero, Int.toNat_one, if_pos, if_neg, wrap_i64, decide_eq_true, decide_eq_false, ibeq_t, ibeq_f, ibne_t, ibne_f, Int.toNat_natCast, tn_sub1, tn_add1, List.getElem?_map, gx, reach_i1, reach_i2, reach_s1, reach_si, reach_ss, treeC_ren, beq_tf, beq_ft] | simp (maxSteps := 10000000) (disch := (simp only [List.length_append, List.length_map, List.length_take, List.length_drop, List.length_cons, List.length_nil]; omega)) only [str_add, if_pos, if_neg] | simp only [go_sem, Nat.reduceAdd, Nat.reduceSub, Nat.reduceMul, Nat.reduceLT, Nat.reduceLeDiff, Nat.reduceEqDiff, Nat.reduceBEq, Nat.reduceBNe, reduceCtorEq, Int.reduceBNe, Int.reduceBEq, blt0, treeC_ren, beq_tf, beq_ft] | ((first | with_reducible refine WC_split (fun hc => ?_) (fun hc => ?_) | with_reducible refine WS_split (fun hc => ?_) (fun hc => ?_) | with_reducible refine WD_split (fun hc => ?_) (fun hc => ?_)) <;> (try simp only [hc]) <;> (try simp only [Bool.and_eq_true, Bool.or_eq_true, Bool.not_eq_true', Bool.not_eq_false', decide_eq_true_eq, decide_eq_false_iff_not, beq_iff_eq, beq_eq_false_iff_ne, bne_iff_ne, bne_eq_false_iff_eq, ne_eq] at hc) <;> (try (have hb : @Eq Bool _ _ := hc; simp only [hb]; clear hb))))
      refine hnorm (n + 1, lv2, L2, l2, ov2) _ hI (by simp only; omega) ?_
      rw [eS]
      exact head_four rfl rfl rfl rfl (by kernel_rfl) (by kernel_rfl) (by kernel_rfl) (by kernel_rfl)
    · rw [Bool.not_eq_true] at hg
      have chb := hear_bad (T := T1) (lv := lv) (lv2 := lx) (L := L) (L2 := Lx) (l := []) (ov := false) (K := Kx) (C := Cx) (by omega) (by omega) (by omega) (by omega) hg
      unfold goodH at hg
      rw [Bool.not_false, Bool.true_and] at hg
      simp only [toldR, List.map_nil] at chb
      clear hexit hret
      generalize decide (lx = lv ∧ Lx = L) = d1 at csa hg
      generalize wholeT lx Lx Kx Cx = d2 at cwh hg
      have hd : d1 = false ∨ (d1 = true ∧ d2 = false) := by cases d1 <;> cases d2 <;> simp_all
      rcases hd with rfl | ⟨rfl, rfl⟩
      all_goals
        repeat' (first | simp (maxSteps := 10000000) (disch := omega) only [go_sem, Nat.reduceAdd, Nat.reduceSub, Nat.reduceMul, Nat.reduceLT, Nat.reduceLeDiff, Nat.reduceEqDiff, Nat.reduceBEq, Nat.reduceBNe, reduceCtorEq, Int.reduceBNe, Int.reduceBEq, blt0, Int.reduceToNat, Int.toNat_zero, Int.toNat_one, if_pos, if_neg, wrap_i64, decide_eq_true, decide_eq_false, ibeq_t, ibeq_f, ibne_t, ibne_f, Int.toNat_natCast, tn_sub1, tn_add1, List.getElem?_map, gx, reach_i1, reach_i2, reach_s1, reach_si, reach_ss] | simp (maxSteps := 10000000) (disch := (simp only [List.length_append, List.length_map, List.length_take, List.length_drop, List.length_cons, List.length_nil]; omega)) only [str_add, if_pos, if_neg] | simp only [go_sem, Nat.reduceAdd, Nat.reduceSub, Nat.reduceMul, Nat.reduceLT, Nat.reduceLeDiff, Nat.reduceEqDiff, Nat.reduceBEq, Nat.reduceBNe, reduceCtorEq, Int.reduceBNe, Int.reduceBEq, blt0] | ((first | with_reducible refine WC_split (fun hc => ?_) (fun hc => ?_) | with_reducible refine WS_split (fun hc => ?_) (fun hc => ?_) | with_reducible refine WD_split (fun hc => ?_) (fun hc => ?_)) <;> (try simp only [hc]) <;> (try simp only [Bool.and_eq_true, Bool.or_eq_true, Bool.not_eq_true', Bool.not_eq_false', decide_eq_true_eq, decide_eq_false_iff_not, beq_iff_eq, beq_eq_false_iff_ne, bne_iff_ne, bne_eq_false_iff_eq, ne_eq] at hc) <;> (try (have hb : @Eq Bool _ _ := hc; simp only [hb]; clear hb))))
        rw [callHeap_at (R := [1, 2]) ck
        (hR := v_men rfl (fun _ => rfl)) (hc := v_closed rfl (fun _ => rfl)) (hs := v_sub (fun _ => rfl))]
        repeat' (first | simp (maxSteps := 10000000) (disch := omega) only [go_sem, Nat.reduceAdd, Nat.reduceSub, Nat.reduceMul, Nat.reduceLT, Nat.reduceLeDiff, Nat.reduceEqDiff, Nat.reduceBEq, Nat.reduceBNe, reduceCtorEq, Int.reduceBNe, Int.reduceBEq, blt0, Int.reduceToNat, Int.toNat_zero, Int.toNat_one, if_pos, if_neg, wrap_i64, decide_eq_true, decide_eq_false, ibeq_t, ibeq_f, ibne_t, ibne_f, Int.toNat_natCast, tn_sub1, tn_add1, List.getElem?_map, gx, reach_i1, reach_i2, reach_s1, reach_si, reach_ss, treeC_ren, beq_tf, beq_ft] | simp (maxSteps := 10000000) (disch := (simp only [List.length_append, List.length_map, List.length_take, List.length_drop, List.length_cons, List.length_nil]; omega)) only [str_add, if_pos, if_neg] | simp only [go_sem, Nat.reduceAdd, Nat.reduceSub, Nat.reduceMul, Nat.reduceLT, Nat.reduceLeDiff, Nat.reduceEqDiff, Nat.reduceBEq, Nat.reduceBNe, reduceCtorEq, Int.reduceBNe, Int.reduceBEq, blt0, treeC_ren, beq_tf, beq_ft] | ((first | with_reducible refine WC_split (fun hc => ?_) (fun hc => ?_) | with_reducible refine WS_split (fun hc => ?_) (fun hc => ?_) | with_reducible refine WD_split (fun hc => ?_) (fun hc => ?_)) <;> (try simp only [hc]) <;> (try simp only [Bool.and_eq_true, Bool.or_eq_true, Bool.not_eq_true', Bool.not_eq_false', decide_eq_true_eq, decide_eq_false_iff_not, beq_iff_eq, beq_eq_false_iff_ne, bne_iff_ne, bne_eq_false_iff_eq, ne_eq] at hc) <;> (try (have hb : @Eq Bool _ _ := hc; simp only [hb]; clear hb))))
        rw [callHeap_at (R := [1, 2]) ct
        (hR := v_men rfl (fun _ => rfl)) (hc := v_closed rfl (fun _ => rfl)) (hs := v_sub (fun _ => rfl))]
        repeat' (first | simp (maxSteps := 10000000) (disch := omega) only [go_sem, Nat.reduceAdd, Nat.reduceSub, Nat.reduceMul, Nat.reduceLT, Nat.reduceLeDiff, Nat.reduceEqDiff, Nat.reduceBEq, Nat.reduceBNe, reduceCtorEq, Int.reduceBNe, Int.reduceBEq, blt0, Int.reduceToNat, Int.toNat_zero, Int.toNat_one, if_pos, if_neg, wrap_i64, decide_eq_true, decide_eq_false, ibeq_t, ibeq_f, ibne_t, ibne_f, Int.toNat_natCast, tn_sub1, tn_add1, List.getElem?_map, gx, reach_i1, reach_i2, reach_s1, reach_si, reach_ss, treeC_ren, beq_tf, beq_ft, cra, csa, crt, cwh] | simp (maxSteps := 10000000) (disch := (simp only [List.length_append, List.length_map, List.length_take, List.length_drop, List.length_cons, List.length_nil]; omega)) only [str_add, if_pos, if_neg] | simp only [go_sem, Nat.reduceAdd, Nat.reduceSub, Nat.reduceMul, Nat.reduceLT, Nat.reduceLeDiff, Nat.reduceEqDiff, Nat.reduceBEq, Nat.reduceBNe, reduceCtorEq, Int.reduceBNe, Int.reduceBEq, blt0, treeC_ren, beq_tf, beq_ft, cra, csa, crt, cwh] | ((first | with_reducible refine WC_split (fun hc => ?_) (fun hc => ?_) | with_reducible refine WS_split (fun hc => ?_) (fun hc => ?_) | with_reducible refine WD_split (fun hc => ?_) (fun hc => ?_)) <;> (try simp only [hc]) <;> (try simp only [Bool.and_eq_true, Bool.or_eq_true, Bool.not_eq_true', Bool.not_eq_false', decide_eq_true_eq, decide_eq_false_iff_not, beq_iff_eq, beq_eq_false_iff_ne, bne_iff_ne, bne_eq_false_iff_eq, ne_eq] at hc) <;> (try (have hb : @Eq Bool _ _ := hc; simp only [hb]; clear hb))))
        rw [callHeap_at (R := [1, 2]) chb
        (hR := v_men rfl (fun _ => rfl)) (hc := v_closed rfl (fun _ => rfl)) (hs := v_sub (fun _ => rfl))]
        repeat' (first | simp (maxSteps := 10000000) (disch := omega) only [go_sem, Nat.reduceAdd, Nat.reduceSub, Nat.reduceMul, Nat.reduceLT, Nat.reduceLeDiff, Nat.reduceEqDiff, Nat.reduceBEq, Nat.reduceBNe, reduceCtorEq, Int.reduceBNe, Int.reduceBEq, blt0, Int.reduceToNat, Int.toNat_zero, Int.toNat_one, if_pos, if_neg, wrap_i64, decide_eq_true, decide_eq_false, ibeq_t, ibeq_f, ibne_t, ibne_f, Int.toNat_natCast, tn_sub1, tn_add1, List.getElem?_map, gx, reach_i1, reach_i2, reach_s1, reach_si, reach_ss, treeC_ren, beq_tf, beq_ft] | simp (maxSteps := 10000000) (disch := (simp only [List.length_append, List.length_map, List.length_take, List.length_drop, List.length_cons, List.length_nil]; omega)) only [str_add, if_pos, if_neg] | simp only [go_sem, Nat.reduceAdd, Nat.reduceSub, Nat.reduceMul, Nat.reduceLT, Nat.reduceLeDiff, Nat.reduceEqDiff, Nat.reduceBEq, Nat.reduceBNe, reduceCtorEq, Int.reduceBNe, Int.reduceBEq, blt0, treeC_ren, beq_tf, beq_ft] | ((first | with_reducible refine WC_split (fun hc => ?_) (fun hc => ?_) | with_reducible refine WS_split (fun hc => ?_) (fun hc => ?_) | with_reducible refine WD_split (fun hc => ?_) (fun hc => ?_)) <;> (try simp only [hc]) <;> (try simp only [Bool.and_eq_true, Bool.or_eq_true, Bool.not_eq_true', Bool.not_eq_false', decide_eq_true_eq, decide_eq_false_iff_not, beq_iff_eq, beq_eq_false_iff_ne, bne_iff_ne, bne_eq_false_iff_eq, ne_eq] at hc) <;> (try (have hb : @Eq Bool _ _ := hc; simp only [hb]; clear hb))))
        rw [callHeap_at (R := [1, 2]) ck
        (hR := v_men rfl (fun _ => rfl)) (hc := v_closed rfl (fun _ => rfl)) (hs := v_sub (fun _ => rfl))]
        repeat' (first | simp (maxSteps := 10000000) (disch := omega) only [go_sem, Nat.reduceAdd, Nat.reduceSub, Nat.reduceMul, Nat.reduceLT, Nat.reduceLeDiff, Nat.reduceEqDiff, Nat.reduceBEq, Nat.reduceBNe, reduceCtorEq, Int.reduceBNe, Int.reduceBEq, blt0, Int.reduceToNat, Int.toNat_zero, Int.toNat_one, if_pos, if_neg, wrap_i64, decide_eq_true, decide_eq_false, ibeq_t, ibeq_f, ibne_t, ibne_f, Int.toNat_natCast, tn_sub1, tn_add1, List.getElem?_map, gx, reach_i1, reach_i2, reach_s1, reach_si, reach_ss, treeC_ren, beq_tf, beq_ft, cra, csb] | simp (maxSteps := 10000000) (disch := (simp only [List.length_append, List.length_map, List.length_take, List.length_drop, List.length_cons, List.length_nil]; omega)) only [str_add, if_pos, if_neg] | simp only [go_sem, Nat.reduceAdd, Nat.reduceSub, Nat.reduceMul, Nat.reduceLT, Nat.reduceLeDiff, Nat.reduceEqDiff, Nat.reduceBEq, Nat.reduceBNe, reduceCtorEq, Int.reduceBNe, Int.reduceBEq, blt0, treeC_ren, beq_tf, beq_ft, cra, csb] | ((first | with_reducible refine WC_split (fun hc => ?_) (fun hc => ?_) | with_reducible refine WS_split (fun hc => ?_) (fun hc => ?_) | with_reducible refine WD_split (fun hc => ?_) (fun hc => ?_)) <;> (try simp only [hc]) <;> (try simp only [Bool.and_eq_true, Bool.or_eq_true, Bool.not_eq_true', Bool.not_eq_false', decide_eq_true_eq, decide_eq_false_iff_not, beq_iff_eq, beq_eq_false_iff_ne, bne_iff_ne, bne_eq_false_iff_eq, ne_eq] at hc) <;> (try (have hb : @Eq Bool _ _ := hc; simp only [hb]; clear hb))))
        rw [callHeap_at (R := [3]) ca (hR := v_tree rfl) (hc := v_closed3 rfl) (hs := v_sub3)]
        repeat' (first | simp (maxSteps := 10000000) (disch := omega) only [go_sem, Nat.reduceAdd, Nat.reduceSub, Nat.reduceMul, Nat.reduceLT, Nat.reduceLeDiff, Nat.reduceEqDiff, Nat.reduceBEq, Nat.reduceBNe, reduceCtorEq, Int.reduceBNe, Int.reduceBEq, blt0, Int.reduceToNat, Int.toNat_zero, Int.toNat_one, if_pos, if_neg, wrap_i64, decide_eq_true, decide_eq_false, ibeq_t, ibeq_f, ibne_t, ibne_f, Int.toNat_natCast, tn_sub1, tn_add1, List.getElem?_map, gx, reach_i1, reach_i2, reach_s1, reach_si, reach_ss, treeC_ren, beq_tf, beq_ft] | simp (maxSteps := 10000000) (disch := (simp only [List.length_append, List.length_map, List.length_take, List.length_drop, List.length_cons, List.length_nil]; omega)) only [str_add, if_pos, if_neg] | simp only [go_sem, Nat.reduceAdd, Nat.reduceSub, Nat.reduceMul, Nat.reduceLT, Nat.reduceLeDiff, Nat.reduceEqDiff, Nat.reduceBEq, Nat.reduceBNe, reduceCtorEq, Int.reduceBNe, Int.reduceBEq, blt0, treeC_ren, beq_tf, beq_ft] | ((first | with_reducible refine WC_split (fun hc => ?_) (fun hc => ?_) | with_reducible refine WS_split (fun hc => ?_) (fun hc => ?_) | with_reducible refine WD_split (fun hc => ?_) (fun hc => ?_)) <;> (try simp only [hc]) <;> (try simp only [Bool.and_eq_true, Bool.or_eq_true, Bool.not_eq_true', Bool.not_eq_false', decide_eq_true_eq, decide_eq_false_iff_not, beq_iff_eq, beq_eq_false_iff_ne, bne_iff_ne, bne_eq_false_iff_eq, ne_eq] at hc) <;> (try (have hb : @Eq Bool _ _ := hc; simp only [hb]; clear hb))))
        rw [callHeap_at (R := [1, 2]) ch
        (hR := v_men rfl (fun _ => rfl)) (hc := v_closed rfl (fun _ => rfl)) (hs := v_sub (fun _ => rfl))]
        repeat' (first | simp (maxSteps := 10000000) (disch := omega) only [go_sem, Nat.reduceAdd, Nat.reduceSub, Nat.reduceMul, Nat.reduceLT, Nat.reduceLeDiff, Nat.reduceEqDiff, Nat.reduceBEq, Nat.reduceBNe, reduceCtorEq, Int.reduceBNe, Int.reduceBEq, blt0, Int.reduceToNat, Int.toNat_zero, Int.toNat_one, if_pos, if_neg, wrap_i64, decide_eq_true, decide_eq_false, ibeq_t, ibeq_f, ibne_t, ibne_f, Int.toNat_natCast, tn_sub1, tn_add1, List.getElem?_map, gx, reach_i1, reach_i2, reach_s1, reach_si, reach_ss, treeC_ren, beq_tf, beq_ft] | simp (maxSteps := 10000000) (disch := (simp only [List.length_append, List.length_map, List.length_take, List.length_drop, List.length_cons, List.length_nil]; omega)) only [str_add, if_pos, if_neg] | simp only [go_sem, Nat.reduceAdd, Nat.reduceSub, Nat.reduceMul, Nat.reduceLT, Nat.reduceLeDiff, Nat.reduceEqDiff, Nat.reduceBEq, Nat.reduceBNe, reduceCtorEq, Int.reduceBNe, Int.reduceBEq, blt0, treeC_ren, beq_tf, beq_ft] | ((first | with_reducible refine WC_split (fun hc => ?_) (fun hc => ?_) | with_reducible refine WS_split (fun hc => ?_) (fun hc => ?_) | with_reducible refine WD_split (fun hc => ?_) (fun hc => ?_)) <;> (try simp only [hc]) <;> (try simp only [Bool.and_eq_true, Bool.or_eq_true, Bool.not_eq_true', Bool.not_eq_false', decide_eq_true_eq, decide_eq_false_iff_not, beq_iff_eq, beq_eq_false_iff_ne, bne_iff_ne, bne_eq_false_iff_eq, ne_eq] at hc) <;> (try (have hb : @Eq Bool _ _ := hc; simp only [hb]; clear hb))))
        refine hnorm (n + 1, lv2, L2, l2, ov2) _ hI (by simp only; omega) ?_
        rw [eS]
        exact head_four rfl rfl rfl rfl (by kernel_rfl) (by kernel_rfl) (by kernel_rfl) (by kernel_rfl)
end Go.Proofs.Ytliohdlkocnfbaa
