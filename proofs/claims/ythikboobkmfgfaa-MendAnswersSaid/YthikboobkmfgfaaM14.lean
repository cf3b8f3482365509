/- The worked example. -/
import Derived.Test.YthikboobkmfgfaaM13
import Derived.Test.YthikboobkmfgfaaM15
set_option linter.all false
set_option maxRecDepth 100000
namespace Go.Proofs.Ythikboobkmfgfaa
open Go Go.Abs

theorem rng_filter {R : List Nat} (h : ∀ i ∈ R, i < 3) : ∀ k, (List.range (k + 3)).filter (fun i => R.contains i) = (List.range 3).filter fun i => R.contains i
  | 0 => rfl
  | k + 1 => by
    rw [show k + 1 + 3 = (k + 3) + 1 by omega, List.range_succ, List.filter_append, rng_filter h k]
    have : R.contains (k + 3) = false := by
      rw [← Bool.not_eq_true, List.contains_iff_mem]
      intro hm
      have := h _ hm
      omega
    rw [List.filter_cons, if_neg (by rw [this]; simp), List.filter_nil, List.append_nil]
section
variable {T1 T2 : TV} {t : TypeId} {ow : List Nat} {ms : List V} {r : List Blk}
theorem w_two {cs : List V} {M : Blk} (hc : V.idsl [2] cs = [2]) : reach (treeB T1 :: M :: treeB T2 :: r) (.ptr 2 0 :: cs) = [2] := by
  have e : reachGo (treeB T1 :: M :: treeB T2 :: r) (r.length + 3) [2] = [2] := by
    rw [show r.length + 3 = (r.length + 2) + 1 by omega]
    unfold reachGo
    show (if (V.idsl [2] (treeC T2)).length = [2].length then [2] else reachGo _ _ (V.idsl [2] (treeC T2))) = [2]
    rw [treeC_ids]; rfl
  show (List.range (r.length + 3)).filter (fun i => (reachGo (treeB T1 :: M :: treeB T2 :: r) (r.length + 3) (V.idsl [2] cs)).contains i) = [2]
  rw [hc, e, rng_filter (by simp)]; rfl
theorem w_closed2 {cs : List V} {M : Blk} (hc : V.alll (fun i => [2].contains i) cs = true) : closedIn (treeB T1 :: M :: treeB T2 :: r) [2] (.ptr 2 0 :: cs) = true := by
  show ((true && V.alll (fun i => [2].contains i) cs) && ((true && V.alll (fun i => [2].contains i) (treeC T2)) && true)) = true
  rw [treeC_all, hc]; rfl
theorem w_sub2 {M : Blk} : subHp (treeB T1 :: M :: treeB T2 :: r) [2] = [treeB T2] := by
  show [Blk.cells 131 [] (V.renl (fun i => [2].idxOf i) (treeC T2))] = _
  rw [treeC_ren]
theorem w_one {cs : List V} (hc : V.idsl [1] cs = [1]) (hm : ∀ acc, V.idsl acc ms = acc) : reach (treeB T1 :: .cells t ow (.ptr 0 0 :: ms) :: treeB T2 :: r) (.ptr 1 0 :: cs) = [0, 1] := by
  have e : reachGo (treeB T1 :: .cells t ow (.ptr 0 0 :: ms) :: treeB T2 :: r) (r.length + 3) [1] = [0, 1] := by
    rw [show r.length + 3 = (r.length + 1) + 1 + 1 by omega]
    unfold reachGo
    show (if (V.idsl [0, 1] ms).length = [1].length then [1] else reachGo _ _ (V.idsl [0, 1] ms)) = [0, 1]
    rw [hm]
    show reachGo (treeB T1 :: .cells t ow (.ptr 0 0 :: ms) :: treeB T2 :: r) (r.length + 1 + 1) [0, 1] = [0, 1]
    unfold reachGo
    show (if (V.idsl (V.idsl [0, 1] (treeC T1)) (.ptr 0 0 :: ms)).length = [0, 1].length then [0, 1] else reachGo _ _ (V.idsl (V.idsl [0, 1] (treeC T1)) (.ptr 0 0 :: ms))) = [0, 1]
    rw [treeC_ids]
    show (if (V.idsl [0, 1] ms).length = [0, 1].length then [0, 1] else _) = [0, 1]
    rw [hm]; rfl
  show (List.range (r.length + 3)).filter (fun i => (reachGo (treeB T1 :: .cells t ow (.ptr 0 0 :: ms) :: treeB T2 :: r) (r.length + 3) (V.idsl [1] cs)).contains i) = [0, 1]
  rw [hc, e, rng_filter (by simp)]; rfl
theorem w_closed1 {cs : List V} (hc : V.alll (fun i => [0, 1].contains i) cs = true) (hm : ∀ p, V.alll p ms = true) : closedIn (treeB T1 :: .cells t ow (.ptr 0 0 :: ms) :: treeB T2 :: r) [0, 1] (.ptr 1 0 :: cs) = true := by
  show ((true && V.alll (fun i => [0, 1].contains i) cs) && ((true && V.alll (fun i => [0, 1].contains i) (treeC T1)) && ((true && (true && V.alll (fun i => [0, 1].contains i) ms)) && true))) = true
  rw [treeC_all, hc, hm]; rfl
theorem w_sub1 (hm : ∀ f, V.renl f ms = ms) : subHp (treeB T1 :: .cells t ow (.ptr 0 0 :: ms) :: treeB T2 :: r) [0, 1] = [treeB T1, .cells t ow (.ptr 0 0 :: ms)] := by
  show [Blk.cells 131 [] (V.renl (fun i => [0, 1].idxOf i) (treeC T1)), Blk.cells t ow (.ptr 0 0 :: V.renl (fun i => [0, 1].idxOf i) ms)] = _
  rw [treeC_ren, hm]
end
abbrev askA (lv : Int) (L : List Int) : Blk := .cells 25 [] [.int .i64 lv, .sl true (L.map irow)]
abbrev toldA (lv : Int) (L : List Int) (K : List Nat) (C : List CR) : Blk := .cells 30 [] [.int .i64 lv, .sl true (L.map irow), .sl true (K.map urow), .sl true (C.map crow)]
def HA (T1 T2 : TV) (K2 K1 K0 : List Nat) : Nat → List Blk
  | 0 => [treeB T1, menB 2 [0] [] false, treeB T2, askA 2 [0]]
  | 1 => [treeB T1, menB 1 [0] [] false, treeB T2, askA 2 [0], toldA 2 [0] K2 [], askA 1 [0]]
  | 2 => [treeB T1, menB 0 [0] [] false, treeB T2, askA 2 [0], toldA 2 [0] K2 [], askA 1 [0], toldA 1 [0] K1 [], askA 0 [0]]
  | 3 => [treeB T1, menB (-1) [5] [] false, treeB T2, askA 2 [0], toldA 2 [0] K2 [], askA 1 [0], toldA 1 [0] K1 [], askA 0 [0], toldA 0 [0] K0 [], askA (-1) [5]]
  | _ => [treeB T1, menB (-1) [5] [(5, (7, true), (8, true))] true, treeB T2, askA 2 [0], toldA 2 [0] K2 [], askA 1 [0], toldA 1 [0] K1 [], askA 0 [0], toldA 0 [0] K0 [], askA (-1) [5], toldA (-1) [5] [] [(8, true)], askA 0 []]
def S9 (T1 T2 : TV) (K2 K1 K0 : List Nat) (n : Nat) : St := { fr := mkF 94 [(1, .ptr 1 0), (2, .int .i64 0), (3, .ptr 2 0), (4, .int .i64 0), (5, .int .i64 n), (6, .ptr (3 + 2 * n) 0), (7, .bool (Nat.blt n 4))], own := [], hp := HA T1 T2 K2 K1 K0 n, al := [], nb := 0 }
theorem ans_ok {T : TV} (h : T.Ok) {lv : Int} {L : List Int} (hlen : L.length ≤ 100000) (ha : askOk lv L = true) : (Lim cfg).call 9 [.ptr 0 0, .agg (askR lv L)] [treeB T] = some (.tup [.agg (ansR T lv L), .int .i64 0], false, [treeB T]) := by
  have := call_9 h lv L hlen
  rwa [if_pos ha] at this
theorem ask_more {T : TV} {lv : Int} {L : List Int} {l : List TR} (hlen : L.length ≤ 100000) : (Lim cfg).call 25 [.ptr 1 0] [treeB T, menB lv L l false] = some (.tup [.agg (askR lv L), .bool true], false, [treeB T, menB lv L l false]) := by
  have := call_25 (T := T) (lv := lv) (L := L) (l := l) (ov := false) hlen
  rwa [if_neg (by simp)] at this
theorem ask_over {T : TV} {lv : Int} {L : List Int} {l : List TR} (hlen : L.length ≤ 100000) : (Lim cfg).call 25 [.ptr 1 0] [treeB T, menB lv L l true] = some (.tup [.agg (askR 0 []), .bool false], false, [treeB T, menB lv L l true]) := by
  have := call_25 (T := T) (lv := lv) (L := L) (l := l) (ov := true) hlen
  rwa [if_pos rfl] at this
set_option maxHeartbeats 16000000 in
theorem awake_of (T1 T2 : TV) (o1 : T1.Ok) (o2 : T2.Ok) (cm : (Lim cfg).call 24 [.sl true [[.int .i64 5, .int .i64 7]]] [] = some (.tup [.ptr 1 0, .int .i64 0], false, [treeB T1, menB 2 [0] [] false]))
    (cn : (Lim cfg).call 8 [.sl true [[.int .i64 5, .int .i64 8]]] [] = some (.tup [.ptr 0 0, .int .i64 0], false, [treeB T2]))
    (n2 : nextT [0] (kidsT T1 2 [0]) (kidsT T2 2 [0]) = [0]) (n1 : nextT [0] (kidsT T1 1 [0]) (kidsT T2 1 [0]) = [0]) (n0 : nextT [0] (kidsT T1 0 [0]) (kidsT T2 0 [0]) = [5])
    (g1 : getT T1 5 = (7, true)) (g2 : getT T2 5 = (8, true)) : (Lim cfg).call 7 [] [] = some (.bool true, false, []) := by
  have kl : ∀ lv : Int, 0 ≤ lv → lv ≤ 2 → (kidsT T2 lv [0]).length = 16 := fun lv a b => kids_len o2 a b (L := [0]) fun n hn => by
    simp only [List.mem_singleton] at hn
    subst hn
    have hc : lv = 0 ∨ lv = 1 ∨ lv = 2 := by omega
    rcases hc with rfl | rfl | rfl <;> decide
  have k2 := kl 2 (by decide) (by decide)
  have k1 := kl 1 (by decide) (by decide)
  have k0 := kl 0 (by decide) (by decide)
  have wh : ∀ (lv : Int) (K : List Nat), lv ≠ -1 → askOk lv [0] = true → K.length = 16 → wholeT lv [0] K [] = true := fun lv K h1 h2 h3 => by
    rw [wholeT, h2, if_neg h1, h3]; rfl
  have ca2 := ans_ok o2 (lv := 2) (L := [0]) (by decide) rfl
  have ca1 := ans_ok o2 (lv := 1) (L := [0]) (by decide) rfl
  have ca0 := ans_ok o2 (lv := 0) (L := [0]) (by decide) rfl
  have cak := ans_ok o2 (lv := -1) (L := [5]) (by decide) rfl
  have e2 : ansR T2 2 [0] = toldR 2 [0] (kidsT T2 2 [0]) [] := rfl
  have e1 : ansR T2 1 [0] = toldR 1 [0] (kidsT T2 1 [0]) [] := rfl
  have e0 : ansR T2 0 [0] = toldR 0 [0] (kidsT T2 0 [0]) [] := rfl
  have ek : ansR T2 (-1) [5] = toldR (-1) [5] [] [(8, true)] := by rw [ansR, if_pos rfl, ← g2]; rfl
  rw [e2] at ca2
  rw [e1] at ca1
  rw [e0] at ca0
  rw [ek] at cak
  have ch2 := hear_good o1 (lv := 2) (L := [0]) (l := []) (K := kidsT T2 2 [0]) (C := []) (by decide) (by decide) (by omega) (by decide) (wh 2 _ (by decide) rfl k2)
  have ch1 := hear_good o1 (lv := 1) (L := [0]) (l := []) (K := kidsT T2 1 [0]) (C := []) (by decide) (by decide) (by omega) (by decide) (wh 1 _ (by decide) rfl k1)
  have ch0 := hear_good o1 (lv := 0) (L := [0]) (l := []) (K := kidsT T2 0 [0]) (C := []) (by decide) (by decide) (by omega) (by decide) (wh 0 _ (by decide) rfl k0)
  have chk := hear_good o1 (lv := -1) (L := [5]) (l := []) (K := []) (C := [(8, true)]) (by decide) (by decide) (by decide) (by decide) rfl
  have b2 : hearB T1 2 [0] [] (kidsT T2 2 [0]) [] = menB 1 [0] [] false := by rw [hearB, if_neg (by decide), n2]; rfl
  have b1 : hearB T1 1 [0] [] (kidsT T2 1 [0]) [] = menB 0 [0] [] false := by rw [hearB, if_neg (by decide), n1]; rfl
  have b0 : hearB T1 0 [0] [] (kidsT T2 0 [0]) [] = menB (-1) [5] [] false := by rw [hearB, if_neg (by decide), n0]; rfl
  have bk : hearB T1 (-1) [5] [] [] [(8, true)] = menB (-1) [5] [(5, (7, true), (8, true))] true := by
    rw [hearB, if_pos rfl]
    have : turnsT T1 [5] [(8, true)] [] = [(5, (7, true), (8, true))] := by
      show turnsT T1 [] [] (if getT T1 5 = (8, true) then [] else [] ++ [(5, getT T1 5, (8, true))]) = _
      rw [g1, if_neg (by decide)]; rfl
    rw [this]
  rw [b2] at ch2
  rw [b1] at ch1
  rw [b0] at ch0
  rw [bk] at chk
  clear b2 b1 b0 bk e2 e1 e0 ek n2 n1 n0 wh kl k2 k1 k0
  generalize kidsT T2 2 [0] = K2 at ca2 ch2
  generalize kidsT T2 1 [0] = K1 at ca1 ch1
  generalize kidsT T2 0 [0] = K0 at ca0 ch0
  have ck2 := ask_more (T := T1) (lv := 2) (L := [0]) (l := []) (by decide)
  have ck1 := ask_more (T := T1) (lv := 1) (L := [0]) (l := []) (by decide)
  have ck0 := ask_more (T := T1) (lv := 0) (L := [0]) (l := []) (by decide)
  have ckk := ask_more (T := T1) (lv := -1) (L := [5]) (l := []) (by decide)
  have cke := ask_over (T := T1) (lv := -1) (L := [5]) (l := [(5, (7, true), (8, true))]) (by decide)
  have ct := call_27 (T := T1) (lv := -1) (L := [5]) (l := [(5, (7, true), (8, true))]) (ov := true) (by decide)
  rw [if_pos ⟨rfl, by kernel_rfl⟩] at ct
  simp only [askR, toldR, List.map_cons, List.map_nil] at ca2 ca1 ca0 cak ch2 ch1 ch0 chk ck2 ck1 ck0 ckk cke ct cm
  refine call_eq fn_7 rfl ?_
  rw [k_start]
  simp only [Try.f7, st0, Nat.zero_add]
  repeat' (first | simp (maxSteps := 10000000) (disch := omega) only [go_sem, Nat.reduceAdd, Nat.reduceSub, Nat.reduceMul, Nat.reduceLT, Nat.reduceLeDiff, Nat.reduceEqDiff, Nat.reduceBEq, Nat.reduceBNe, reduceCtorEq, Int.reduceBNe, Int.reduceBEq, au, lst, if_pos, if_neg, cm, cn, treeC_ren] | simp (disch := (simp only [lens]; omega)) only [str_add, if_pos, if_neg] | ((with_reducible first | refine WC_split ?_ ?_ | refine WS_split ?_ ?_ | refine WD_split ?_ ?_) <;> intro hc <;> (try simp only [hc]) <;> (try simp only [bools] at hc) <;> (try (have hb : @Eq Bool _ _ := hc; simp only [hb]; clear hb))))
  rw [callHeap_at (R := [0, 1]) ck2 (hR := w_one rfl (fun _ => rfl)) (hc := w_closed1 rfl (fun _ => rfl)) (hs := w_sub1 (fun _ => rfl))]
  repeat' (first | simp (maxSteps := 10000000) (disch := omega) only [go_sem, Nat.reduceAdd, Nat.reduceSub, Nat.reduceMul, Nat.reduceLT, Nat.reduceLeDiff, Nat.reduceEqDiff, Nat.reduceBEq, Nat.reduceBNe, reduceCtorEq, Int.reduceBNe, Int.reduceBEq, au, lst, if_pos, if_neg, treeC_ren] | simp (disch := (simp only [lens]; omega)) only [str_add, if_pos, if_neg] | ((with_reducible first | refine WC_split ?_ ?_ | refine WS_split ?_ ?_ | refine WD_split ?_ ?_) <;> intro hc <;> (try simp only [hc]) <;> (try simp only [bools] at hc) <;> (try (have hb : @Eq Bool _ _ := hc; simp only [hb]; clear hb))))
  refine k_loop (S9 T1 T2 K2 K1 K0) (fun n => n ≤ 4) (fun n => 4 - n) 0 (K := cfg.kill 7 5) rfl (Nat.zero_le _) (head_keep2 rfl (by kernel_rfl) (by kernel_rfl) (by kernel_rfl)) ?_
  intro n hn k' Q' hnorm hexit hret
  have hc : n = 0 ∨ n = 1 ∨ n = 2 ∨ n = 3 ∨ n = 4 := by omega
  rcases hc with rfl | rfl | rfl | rfl | rfl
  · have ca := ca2
    have ch := ch2
    have ck := ck1
    have eS : S9 T1 T2 K2 K1 K0 0 = { fr := mkF 94 [(1, .ptr 1 0), (2, .int .i64 0), (3, .ptr 2 0), (4, .int .i64 0), (5, .int .i64 0), (6, .ptr 3 0), (7, .bool true)], own := [], hp := [treeB T1, menB 2 [0] [] false, treeB T2, askA 2 [0]], al := [], nb := 0 } := rfl
    rw [eS]
    simp only [eS, mkF, List.foldl, st0, List.set]
    repeat' (first | simp (maxSteps := 10000000) (disch := omega) only [go_sem, Nat.reduceAdd, Nat.reduceSub, Nat.reduceMul, Nat.reduceLT, Nat.reduceLeDiff, Nat.reduceEqDiff, Nat.reduceBEq, Nat.reduceBNe, reduceCtorEq, Int.reduceBNe, Int.reduceBEq, au, lst, if_pos, if_neg] | simp (disch := (simp only [lens]; omega)) only [str_add, if_pos, if_neg] | ((with_reducible first | refine WC_split ?_ ?_ | refine WS_split ?_ ?_ | refine WD_split ?_ ?_) <;> intro hc <;> (try simp only [hc]) <;> (try simp only [bools] at hc) <;> (try (have hb : @Eq Bool _ _ := hc; simp only [hb]; clear hb))))
    rw [callHeap_at (R := [2]) ca (hR := w_two rfl) (hc := w_closed2 rfl) (hs := w_sub2)]
    repeat' (first | simp (maxSteps := 10000000) (disch := omega) only [go_sem, Nat.reduceAdd, Nat.reduceSub, Nat.reduceMul, Nat.reduceLT, Nat.reduceLeDiff, Nat.reduceEqDiff, Nat.reduceBEq, Nat.reduceBNe, reduceCtorEq, Int.reduceBNe, Int.reduceBEq, au, lst, if_pos, if_neg, treeC_ren] | simp (disch := (simp only [lens]; omega)) only [str_add, if_pos, if_neg] | ((with_reducible first | refine WC_split ?_ ?_ | refine WS_split ?_ ?_ | refine WD_split ?_ ?_) <;> intro hc <;> (try simp only [hc]) <;> (try simp only [bools] at hc) <;> (try (have hb : @Eq Bool _ _ := hc; simp only [hb]; clear hb))))
    rw [callHeap_at (R := [0, 1]) ch (hR := w_one rfl (fun _ => rfl)) (hc := w_closed1 rfl (fun _ => rfl)) (hs := w_sub1 (fun _ => rfl))]
    repeat' (first | simp (maxSteps := 10000000) (disch := omega) only [go_sem, Nat.reduceAdd, Nat.reduceSub, Nat.reduceMul, Nat.reduceLT, Nat.reduceLeDiff, Nat.reduceEqDiff, Nat.reduceBEq, Nat.reduceBNe, reduceCtorEq, Int.reduceBNe, Int.reduceBEq, au, lst, if_pos, if_neg, treeC_ren] | simp (disch := (simp only [lens]; omega)) only [str_add, if_pos, if_neg] | ((with_reducible first | refine WC_split ?_ ?_ | refine WS_split ?_ ?_ | refine WD_split ?_ ?_) <;> intro hc <;> (try simp only [hc]) <;> (try simp only [bools] at hc) <;> (try (have hb : @Eq Bool _ _ := hc; simp only [hb]; clear hb))))
    rw [callHeap_at (R := [0, 1]) ck (hR := w_one rfl (fun _ => rfl)) (hc := w_closed1 rfl (fun _ => rfl)) (hs := w_sub1 (fun _ => rfl))]
    repeat' (first | simp (maxSteps := 10000000) (disch := omega) only [go_sem, Nat.reduceAdd, Nat.reduceSub, Nat.reduceMul, Nat.reduceLT, Nat.reduceLeDiff, Nat.reduceEqDiff, Nat.reduceBEq, Nat.reduceBNe, reduceCtorEq, Int.reduceBNe, Int.reduceBEq, au, lst, if_pos, if_neg, treeC_ren] | simp (disch := (simp only [lens]; omega)) only [str_add, if_pos, if_neg] | ((with_reducible first | refine WC_split ?_ ?_ | refine WS_split ?_ ?_ | refine WD_split ?_ ?_) <;> intro hc <;> (try simp only [hc]) <;> (try simp only [bools] at hc) <;> (try (have hb : @Eq Bool _ _ := hc; simp only [hb]; clear hb))))
    refine hnorm 1 _ (by omega) (by omega) ?_
    exact head_keep2 rfl (by kernel_rfl) (by kernel_rfl) (by kernel_rfl)
  · have ca := ca1
    have ch := ch1
    have ck := ck0
    have eS : S9 T1 T2 K2 K1 K0 1 = { fr := mkF 94 [(1, .ptr 1 0), (2, .int .i64 0), (3, .ptr 2 0), (4, .int .i64 0), (5, .int .i64 1), (6, .ptr 5 0), (7, .bool true)], own := [], hp := [treeB T1, menB 1 [0] [] false, treeB T2, askA 2 [0], toldA 2 [0] K2 [], askA 1 [0]], al := [], nb := 0 } := rfl
    rw [eS]
    simp only [eS, mkF, List.foldl, st0, List.set]
    repeat' (first | simp (maxSteps := 10000000) (disch := omega) only [go_sem, Nat.reduceAdd, Nat.reduceSub, Nat.reduceMul, Nat.reduceLT, Nat.reduceLeDiff, Nat.reduceEqDiff, Nat.reduceBEq, Nat.reduceBNe, reduceCtorEq, Int.reduceBNe, Int.reduceBEq, au, lst, if_pos, if_neg] | simp (disch := (simp only [lens]; omega)) only [str_add, if_pos, if_neg] | ((with_reducible first | refine WC_split ?_ ?_ | refine WS_split ?_ ?_ | refine WD_split ?_ ?_) <;> intro hc <;> (try simp only [hc]) <;> (try simp only [bools] at hc) <;> (try (have hb : @Eq Bool _ _ := hc; simp only [hb]; clear hb))))
    rw [callHeap_at (R := [2]) ca (hR := w_two rfl) (hc := w_closed2 rfl) (hs := w_sub2)]
    repeat' (first | simp (maxSteps := 10000000) (disch := omega) only [go_sem, Nat.reduceAdd, Nat.reduceSub, Nat.reduceMul, Nat.reduceLT, Nat.reduceLeDiff, Nat.reduceEqDiff, Nat.reduceBEq, Nat.reduceBNe, reduceCtorEq, Int.reduceBNe, Int.reduceBEq, au, lst, if_pos, if_neg, treeC_ren] | simp (disch := (simp only [lens]; omega)) only [str_add, if_pos, if_neg] | ((with_reducible first | refine WC_split ?_ ?_ | refine WS_split ?_ ?_ | refine WD_split ?_ ?_) <;> intro hc <;> (try simp only [hc]) <;> (try simp only [bools] at hc) <;> (try (have hb : @Eq Bool _ _ := hc; simp only [hb]; clear hb))))
    rw [callHeap_at (R := [0, 1]) ch (hR := w_one rfl (fun _ => rfl)) (hc := w_closed1 rfl (fun _ => rfl)) (hs := w_sub1 (fun _ => rfl))]
    repeat' (first | simp (maxSteps := 10000000) (disch := omega) only [go_sem, Nat.reduceAdd, Nat.reduceSub, Nat.reduceMul, Nat.reduceLT, Nat.reduceLeDiff, Nat.reduceEqDiff, Nat.reduceBEq, Nat.reduceBNe, reduceCtorEq, Int.reduceBNe, Int.reduceBEq, au, lst, if_pos, if_neg, treeC_ren] | simp (disch := (simp only [lens]; omega)) only [str_add, if_pos, if_neg] | ((with_reducible first | refine WC_split ?_ ?_ | refine WS_split ?_ ?_ | refine WD_split ?_ ?_) <;> intro hc <;> (try simp only [hc]) <;> (try simp only [bools] at hc) <;> (try (have hb : @Eq Bool _ _ := hc; simp only [hb]; clear hb))))
    rw [callHeap_at (R := [0, 1]) ck (hR := w_one rfl (fun _ => rfl)) (hc := w_closed1 rfl (fun _ => rfl)) (hs := w_sub1 (fun _ => rfl))]
    repeat' (first | simp (maxSteps := 10000000) (disch := omega) only [go_sem, Nat.reduceAdd, Nat.reduceSub, Nat.reduceMul, Nat.reduceLT, Nat.reduceLeDiff, Nat.reduceEqDiff, Nat.reduceBEq, Nat.reduceBNe, reduceCtorEq, Int.reduceBNe, Int.reduceBEq, au, lst, if_pos, if_neg, treeC_ren] | simp (disch := (simp only [lens]; omega)) only [str_add, if_pos, if_neg] | ((with_reducible first | refine WC_split ?_ ?_ | refine WS_split ?_ ?_ | refine WD_split ?_ ?_) <;> intro hc <;> (try simp only [hc]) <;> (try simp only [bools] at hc) <;> (try (have hb : @Eq Bool _ _ := hc; simp only [hb]; clear hb))))
    refine hnorm 2 _ (by omega) (by omega) ?_
    exact head_keep2 rfl (by kernel_rfl) (by kernel_rfl) (by kernel_rfl)
  · have ca := ca0
    have ch := ch0
    have ck := ckk
    have eS : S9 T1 T2 K2 K1 K0 2 = { fr := mkF 94 [(1, .ptr 1 0), (2, .int .i64 0), (3, .ptr 2 0), (4, .int .i64 0), (5, .int .i64 2), (6, .ptr 7 0), (7, .bool true)], own := [], hp := [treeB T1, menB 0 [0] [] false, treeB T2, askA 2 [0], toldA 2 [0] K2 [], askA 1 [0], toldA 1 [0] K1 [], askA 0 [0]], al := [], nb := 0 } := rfl
    rw [eS]
    simp only [eS, mkF, List.foldl, st0, List.set]
    repeat' (first | simp (maxSteps := 10000000) (disch := omega) only [go_sem, Nat.reduceAdd, Nat.reduceSub, Nat.reduceMul, Nat.reduceLT, Nat.reduceLeDiff, Nat.reduceEqDiff, Nat.reduceBEq, Nat.reduceBNe, reduceCtorEq, Int.reduceBNe, Int.reduceBEq, au, lst, if_pos, if_neg] | simp (disch := (simp only [lens]; omega)) only [str_add, if_pos, if_neg] | ((with_reducible first | refine WC_split ?_ ?_ | refine WS_split ?_ ?_ | refine WD_split ?_ ?_) <;> intro hc <;> (try simp only [hc]) <;> (try simp only [bools] at hc) <;> (try (have hb : @Eq Bool _ _ := hc; simp only [hb]; clear hb))))
    rw [callHeap_at (R := [2]) ca (hR := w_two rfl) (hc := w_closed2 rfl) (hs := w_sub2)]
    repeat' (first | simp (maxSteps := 10000000) (disch := omega) only [go_sem, Nat.reduceAdd, Nat.reduceSub, Nat.reduceMul, Nat.reduceLT, Nat.reduceLeDiff, Nat.reduceEqDiff, Nat.reduceBEq, Nat.reduceBNe, reduceCtorEq, Int.reduceBNe, Int.reduceBEq, au, lst, if_pos, if_neg, treeC_ren] | simp (disch := (simp only [lens]; omega)) only [str_add, if_pos, if_neg] | ((with_reducible first | refine WC_split ?_ ?_ | refine WS_split ?_ ?_ | refine WD_split ?_ ?_) <;> intro hc <;> (try simp only [hc]) <;> (try simp only [bools] at hc) <;> (try (have hb : @Eq Bool _ _ := hc; simp only [hb]; clear hb))))
    rw [callHeap_at (R := [0, 1]) ch (hR := w_one rfl (fun _ => rfl)) (hc := w_closed1 rfl (fun _ => rfl)) (hs := w_sub1 (fun _ => rfl))]
    repeat' (first | simp (maxSteps := 10000000) (disch := omega) only [go_sem, Nat.reduceAdd, Nat.reduceSub, Nat.reduceMul, Nat.reduceLT, Nat.reduceLeDiff, Nat.reduceEqDiff, Nat.reduceBEq, Nat.reduceBNe, reduceCtorEq, Int.reduceBNe, Int.reduceBEq, au, lst, if_pos, if_neg, treeC_ren] | simp (disch := (simp only [lens]; omega)) only [str_add, if_pos, if_neg] | ((with_reducible first | refine WC_split ?_ ?_ | refine WS_split ?_ ?_ | refine WD_split ?_ ?_) <;> intro hc <;> (try simp only [hc]) <;> (try simp only [bools] at hc) <;> (try (have hb : @Eq Bool _ _ := hc; simp only [hb]; clear hb))))
    rw [callHeap_at (R := [0, 1]) ck (hR := w_one rfl (fun _ => rfl)) (hc := w_closed1 rfl (fun _ => rfl)) (hs := w_sub1 (fun _ => rfl))]
    repeat' (first | simp (maxSteps := 10000000) (disch := omega) only [go_sem, Nat.reduceAdd, Nat.reduceSub, Nat.reduceMul, Nat.reduceLT, Nat.reduceLeDiff, Nat.reduceEqDiff, Nat.reduceBEq, Nat.reduceBNe, reduceCtorEq, Int.reduceBNe, Int.reduceBEq, au, lst, if_pos, if_neg, treeC_ren] | simp (disch := (simp only [lens]; omega)) only [str_add, if_pos, if_neg] | ((with_reducible first | refine WC_split ?_ ?_ | refine WS_split ?_ ?_ | refine WD_split ?_ ?_) <;> intro hc <;> (try simp only [hc]) <;> (try simp only [bools] at hc) <;> (try (have hb : @Eq Bool _ _ := hc; simp only [hb]; clear hb))))
    refine hnorm 3 _ (by omega) (by omega) ?_
    exact head_keep2 rfl (by kernel_rfl) (by kernel_rfl) (by kernel_rfl)
  · have ca := cak
    have ch := chk
    have ck := cke
    have eS : S9 T1 T2 K2 K1 K0 3 = { fr := mkF 94 [(1, .ptr 1 0), (2, .int .i64 0), (3, .ptr 2 0), (4, .int .i64 0), (5, .int .i64 3), (6, .ptr 9 0), (7, .bool true)], own := [], hp := [treeB T1, menB (-1) [5] [] false, treeB T2, askA 2 [0], toldA 2 [0] K2 [], askA 1 [0], toldA 1 [0] K1 [], askA 0 [0], toldA 0 [0] K0 [], askA (-1) [5]], al := [], nb := 0 } := rfl
    rw [eS]
    simp only [eS, mkF, List.foldl, st0, List.set]
    repeat' (first | simp (maxSteps := 10000000) (disch := omega) only [go_sem, Nat.reduceAdd, Nat.reduceSub, Nat.reduceMul, Nat.reduceLT, Nat.reduceLeDiff, Nat.reduceEqDiff, Nat.reduceBEq, Nat.reduceBNe, reduceCtorEq, Int.reduceBNe, Int.reduceBEq, au, lst, if_pos, if_neg] | simp (disch := (simp only [lens]; omega)) only [str_add, if_pos, if_neg] | ((with_reducible first | refine WC_split ?_ ?_ | refine WS_split ?_ ?_ | refine WD_split ?_ ?_) <;> intro hc <;> (try simp only [hc]) <;> (try simp only [bools] at hc) <;> (try (have hb : @Eq Bool _ _ := hc; simp only [hb]; clear hb))))
    rw [callHeap_at (R := [2]) ca (hR := w_two rfl) (hc := w_closed2 rfl) (hs := w_sub2)]
    repeat' (first | simp (maxSteps := 10000000) (disch := omega) only [go_sem, Nat.reduceAdd, Nat.reduceSub, Nat.reduceMul, Nat.reduceLT, Nat.reduceLeDiff, Nat.reduceEqDiff, Nat.reduceBEq, Nat.reduceBNe, reduceCtorEq, Int.reduceBNe, Int.reduceBEq, au, lst, if_pos, if_neg, treeC_ren] | simp (disch := (simp only [lens]; omega)) only [str_add, if_pos, if_neg] | ((with_reducible first | refine WC_split ?_ ?_ | refine WS_split ?_ ?_ | refine WD_split ?_ ?_) <;> intro hc <;> (try simp only [hc]) <;> (try simp only [bools] at hc) <;> (try (have hb : @Eq Bool _ _ := hc; simp only [hb]; clear hb))))
    rw [callHeap_at (R := [0, 1]) ch (hR := w_one rfl (fun _ => rfl)) (hc := w_closed1 rfl (fun _ => rfl)) (hs := w_sub1 (fun _ => rfl))]
    repeat' (first | simp (maxSteps := 10000000) (disch := omega) only [go_sem, Nat.reduceAdd, Nat.reduceSub, Nat.reduceMul, Nat.reduceLT, Nat.reduceLeDiff, Nat.reduceEqDiff, Nat.reduceBEq, Nat.reduceBNe, reduceCtorEq, Int.reduceBNe, Int.reduceBEq, au, lst, if_pos, if_neg, treeC_ren] | simp (disch := (simp only [lens]; omega)) only [str_add, if_pos, if_neg] | ((with_reducible first | refine WC_split ?_ ?_ | refine WS_split ?_ ?_ | refine WD_split ?_ ?_) <;> intro hc <;> (try simp only [hc]) <;> (try simp only [bools] at hc) <;> (try (have hb : @Eq Bool _ _ := hc; simp only [hb]; clear hb))))
    rw [callHeap_at (R := [0, 1]) ck (hR := w_one rfl (fun _ => rfl)) (hc := w_closed1 rfl (fun _ => rfl)) (hs := w_sub1 (fun _ => rfl))]
    repeat' (first | simp (maxSteps := 10000000) (disch := omega) only [go_sem, Nat.reduceAdd, Nat.reduceSub, Nat.reduceMul, Nat.reduceLT, Nat.reduceLeDiff, Nat.reduceEqDiff, Nat.reduceBEq, Nat.reduceBNe, reduceCtorEq, Int.reduceBNe, Int.reduceBEq, au, lst, if_pos, if_neg, treeC_ren] | simp (disch := (simp only [lens]; omega)) only [str_add, if_pos, if_neg] | ((with_reducible first | refine WC_split ?_ ?_ | refine WS_split ?_ ?_ | refine WD_split ?_ ?_) <;> intro hc <;> (try simp only [hc]) <;> (try simp only [bools] at hc) <;> (try (have hb : @Eq Bool _ _ := hc; simp only [hb]; clear hb))))
    refine hnorm 4 _ (by omega) (by omega) ?_
    exact head_keep2 rfl (by kernel_rfl) (by kernel_rfl) (by kernel_rfl)
  · have eS : S9 T1 T2 K2 K1 K0 4 = { fr := mkF 94 [(1, .ptr 1 0), (2, .int .i64 0), (3, .ptr 2 0), (4, .int .i64 0), (5, .int .i64 4), (6, .ptr 11 0), (7, .bool false)], own := [], hp := [treeB T1, menB (-1) [5] [(5, (7, true), (8, true))] true, treeB T2, askA 2 [0], toldA 2 [0] K2 [], askA 1 [0], toldA 1 [0] K1 [], askA 0 [0], toldA 0 [0] K0 [], askA (-1) [5], toldA (-1) [5] [] [(8, true)], askA 0 []], al := [], nb := 0 } := rfl
    rw [eS]
    simp only [eS, mkF, List.foldl, st0, List.set]
    clear hnorm hret
    repeat' (first | simp (maxSteps := 10000000) (disch := omega) only [go_sem, Nat.reduceAdd, Nat.reduceSub, Nat.reduceMul, Nat.reduceLT, Nat.reduceLeDiff, Nat.reduceEqDiff, Nat.reduceBEq, Nat.reduceBNe, reduceCtorEq, Int.reduceBNe, Int.reduceBEq, au, lst, if_pos, if_neg] | simp (disch := (simp only [lens]; omega)) only [str_add, if_pos, if_neg] | ((with_reducible first | refine WC_split ?_ ?_ | refine WS_split ?_ ?_ | refine WD_split ?_ ?_) <;> intro hc <;> (try simp only [hc]) <;> (try simp only [bools] at hc) <;> (try (have hb : @Eq Bool _ _ := hc; simp only [hb]; clear hb))))
    refine hexit _ _ ?_
    repeat' (first | simp (maxSteps := 10000000) (disch := omega) only [go_sem, Nat.reduceAdd, Nat.reduceSub, Nat.reduceMul, Nat.reduceLT, Nat.reduceLeDiff, Nat.reduceEqDiff, Nat.reduceBEq, Nat.reduceBNe, reduceCtorEq, Int.reduceBNe, Int.reduceBEq, au, lst, if_pos, if_neg] | simp (disch := (simp only [lens]; omega)) only [str_add, if_pos, if_neg] | ((with_reducible first | refine WC_split ?_ ?_ | refine WS_split ?_ ?_ | refine WD_split ?_ ?_) <;> intro hc <;> (try simp only [hc]) <;> (try simp only [bools] at hc) <;> (try (have hb : @Eq Bool _ _ := hc; simp only [hb]; clear hb))))
    rw [callHeap_at (R := [0, 1]) ct (hR := w_one rfl (fun _ => rfl)) (hc := w_closed1 rfl (fun _ => rfl)) (hs := w_sub1 (fun _ => rfl))]
    repeat' (first | simp (maxSteps := 10000000) (disch := omega) only [go_sem, Nat.reduceAdd, Nat.reduceSub, Nat.reduceMul, Nat.reduceLT, Nat.reduceLeDiff, Nat.reduceEqDiff, Nat.reduceBEq, Nat.reduceBNe, reduceCtorEq, Int.reduceBNe, Int.reduceBEq, au, lst, if_pos, if_neg, treeC_ren, List.map_cons, List.map_nil, trow] | simp (disch := (simp only [lens]; omega)) only [str_add, if_pos, if_neg] | ((with_reducible first | refine WC_split ?_ ?_ | refine WS_split ?_ ?_ | refine WD_split ?_ ?_) <;> intro hc <;> (try simp only [hc]) <;> (try simp only [bools] at hc) <;> (try (have hb : @Eq Bool _ _ := hc; simp only [hb]; clear hb))))
    exact retK (v := .bool true) (own := false) (fun _ => ex_ret) rfl rfl rfl ⟨rfl, rfl, rfl⟩
end Go.Proofs.Ythikboobkmfgfaa
