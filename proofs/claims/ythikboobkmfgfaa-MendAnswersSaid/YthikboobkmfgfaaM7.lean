/- What is read of a tree, and asks: the program's answers. -/
import Derived.Test.YthikboobkmfgfaaM6
import Derived.Test.YthikboobkmfgfaaMI
import Derived.Test.YthikboobkmfgfaaMD
set_option linter.all false
set_option maxRecDepth 100000
namespace Go.Proofs.Ythikboobkmfgfaa
open Go Go.Abs

theorem retK {rs : List ResultVar} {n : Nat} {e : Ex} {s : St} {R : V → Bool → List Blk → Prop} {v : V} {own : Bool} (he : ∀ i, e ≠ .exit i) (hv : resultsV cfg s rs = some (v, own)) (hl : V.lt n v = true)
    (ha : (s.hp.take n).all (Blk.all fun i => Nat.blt i n) = true) (h : R v (own && isSl v) (s.hp.take n)) : Ret cfg rs n R e s := by
  refine ⟨he, v, own, hv, ?_⟩
  simp only [hl, ha, Bool.and_self, if_true]
  exact h
theorem t_keep {T : TV} {r : List Blk} : ((treeB T :: r).take 1).all (Blk.all fun i => Nat.blt i 1) = true := by
  show (V.alll _ (treeC T) && true) = true
  rw [treeC_all]; rfl
/-- A key's cell. -/
def getT (T : TV) (key : Int) : CR := if 0 ≤ key ∧ key < 4096 then T.cells.getD key.toNat (0, false) else (0, false)
set_option maxHeartbeats 4000000 in
theorem call_72 {T : TV} (h : T.Ok) (key : Int) : (Lim cfg).call 72 [.ptr 0 0, .int .i64 key] [treeB T] = some (.agg (crow (getT T key)), false, [treeB T]) := by
  have c1 : (Lim cfg).call 90 [.int .i64 key] [] = some (.bool (decide (0 ≤ key ∧ key < 4096)), false, []) := by
    by_cases h1 : 0 ≤ key
    · by_cases h2 : key < 4096
      · rw [decide_eq_true ⟨h1, h2⟩]
        refine call_eq fn_90 rfl ?_
        rw [k_start]
        simp only [Try.f90, st0, Nat.zero_add]
        repeat' (first | simp (maxSteps := 10000000) (disch := omega) only [go_sem, Nat.reduceAdd, Nat.reduceSub, Nat.reduceMul, Nat.reduceLT, Nat.reduceLeDiff, Nat.reduceEqDiff, Nat.reduceBEq, Nat.reduceBNe, reduceCtorEq, Int.reduceBNe, Int.reduceBEq, au, lst, if_pos, if_neg] | simp (disch := (simp only [lens]; omega)) only [str_add, if_pos, if_neg] | ((with_reducible first | refine WC_split ?_ ?_ | refine WS_split ?_ ?_ | refine WD_split ?_ ?_) <;> intro hc <;> (try simp only [hc]) <;> (try simp only [bools] at hc) <;> (try (have hb : @Eq Bool _ _ := hc; simp only [hb]; clear hb))))
        exact ret1n (fun _ => ex_ret) rfl rfl rfl ⟨rfl, rfl, rfl⟩
      · rw [decide_eq_false (fun e => h2 e.2)]
        refine call_eq fn_90 rfl ?_
        rw [k_start]
        simp only [Try.f90, st0, Nat.zero_add]
        repeat' (first | simp (maxSteps := 10000000) (disch := omega) only [go_sem, Nat.reduceAdd, Nat.reduceSub, Nat.reduceMul, Nat.reduceLT, Nat.reduceLeDiff, Nat.reduceEqDiff, Nat.reduceBEq, Nat.reduceBNe, reduceCtorEq, Int.reduceBNe, Int.reduceBEq, au, lst, if_pos, if_neg] | simp (disch := (simp only [lens]; omega)) only [str_add, if_pos, if_neg] | ((with_reducible first | refine WC_split ?_ ?_ | refine WS_split ?_ ?_ | refine WD_split ?_ ?_) <;> intro hc <;> (try simp only [hc]) <;> (try simp only [bools] at hc) <;> (try (have hb : @Eq Bool _ _ := hc; simp only [hb]; clear hb))))
        exact ret1n (fun _ => ex_ret) rfl rfl rfl ⟨rfl, rfl, rfl⟩
    · rw [decide_eq_false (fun e => h1 e.1)]
      refine call_eq fn_90 rfl ?_
      rw [k_start]
      simp only [Try.f90, st0, Nat.zero_add]
      repeat' (first | simp (maxSteps := 10000000) (disch := omega) only [go_sem, Nat.reduceAdd, Nat.reduceSub, Nat.reduceMul, Nat.reduceLT, Nat.reduceLeDiff, Nat.reduceEqDiff, Nat.reduceBEq, Nat.reduceBNe, reduceCtorEq, Int.reduceBNe, Int.reduceBEq, au, lst, if_pos, if_neg] | simp (disch := (simp only [lens]; omega)) only [str_add, if_pos, if_neg] | ((with_reducible first | refine WC_split ?_ ?_ | refine WS_split ?_ ?_ | refine WD_split ?_ ?_) <;> intro hc <;> (try simp only [hc]) <;> (try simp only [bools] at hc) <;> (try (have hb : @Eq Bool _ _ := hc; simp only [hb]; clear hb))))
      exact ret1n (fun _ => ex_ret) rfl rfl rfl ⟨rfl, rfl, rfl⟩
  have l1 := treeC_len h
  by_cases hk : 0 ≤ key ∧ key < 4096
  · rw [decide_eq_true hk] at c1
    obtain ⟨n, rfl⟩ : ∃ n : Nat, key = n := ⟨key.toNat, by omega⟩
    have hn : n < T.cells.length := by rw [h.cells]; omega
    have hg : getT T (n : Int) = T.cells[n] := by
      rw [getT, if_pos hk, Int.toNat_natCast, List.getD_eq_getElem?_getD, List.getElem?_eq_getElem hn]; rfl
    have ld : List.take 2 (List.drop (n * 2) (treeC T)) = crow T.cells[n] := by rw [Nat.mul_comm]; exact treeC_cell h (List.getElem?_eq_getElem hn)
    rw [hg]
    generalize T.cells[n] = c at ld
    refine call_eq fn_72 rfl ?_
    rw [k_start]
    simp only [Try.f72, st0, Nat.zero_add]
    repeat' (first | simp (maxSteps := 10000000) (disch := omega) only [go_sem, Nat.reduceAdd, Nat.reduceSub, Nat.reduceMul, Nat.reduceLT, Nat.reduceLeDiff, Nat.reduceEqDiff, Nat.reduceBEq, Nat.reduceBNe, reduceCtorEq, Int.reduceBNe, Int.reduceBEq, au, lst, if_pos, if_neg, c1, l1, ld, crow] | simp (disch := (simp only [lens]; omega)) only [str_add, if_pos, if_neg] | ((with_reducible first | refine WC_split ?_ ?_ | refine WS_split ?_ ?_ | refine WD_split ?_ ?_) <;> intro hc <;> (try simp only [hc]) <;> (try simp only [bools] at hc) <;> (try (have hb : @Eq Bool _ _ := hc; simp only [hb]; clear hb))))
    exact retK (v := .agg (crow c)) (own := false) (fun _ => ex_ret) rfl rfl t_keep ⟨rfl, rfl, rfl⟩
  · rw [decide_eq_false hk] at c1
    have hg : getT T key = (0, false) := if_neg hk
    rw [hg]
    refine call_eq fn_72 rfl ?_
    rw [k_start]
    simp only [Try.f72, st0, Nat.zero_add]
    repeat' (first | simp (maxSteps := 10000000) (disch := omega) only [go_sem, Nat.reduceAdd, Nat.reduceSub, Nat.reduceMul, Nat.reduceLT, Nat.reduceLeDiff, Nat.reduceEqDiff, Nat.reduceBEq, Nat.reduceBNe, reduceCtorEq, Int.reduceBNe, Int.reduceBEq, au, lst, if_pos, if_neg, c1, l1] | simp (disch := (simp only [lens]; omega)) only [str_add, if_pos, if_neg] | ((with_reducible first | refine WC_split ?_ ?_ | refine WS_split ?_ ?_ | refine WD_split ?_ ?_) <;> intro hc <;> (try simp only [hc]) <;> (try simp only [bools] at hc) <;> (try (have hb : @Eq Bool _ _ := hc; simp only [hb]; clear hb))))
    exact retK (v := .agg (crow (0, false))) (own := false) (fun _ => ex_ret) rfl rfl t_keep ⟨rfl, rfl, rfl⟩
theorem call_90 {key : Nat} (hk : key < 4096) : (Lim cfg).call 90 [.int .i64 key] [] = some (.bool true, false, []) := by
  refine call_eq fn_90 rfl ?_
  rw [k_start]
  simp only [Try.f90, st0, Nat.zero_add]
  repeat' (first | simp (maxSteps := 10000000) (disch := omega) only [go_sem, Nat.reduceAdd, Nat.reduceSub, Nat.reduceMul, Nat.reduceLT, Nat.reduceLeDiff, Nat.reduceEqDiff, Nat.reduceBEq, Nat.reduceBNe, reduceCtorEq, Int.reduceBNe, Int.reduceBEq, au, lst, if_pos, if_neg] | simp (disch := (simp only [lens]; omega)) only [str_add, if_pos, if_neg] | ((with_reducible first | refine WC_split ?_ ?_ | refine WS_split ?_ ?_ | refine WD_split ?_ ?_) <;> intro hc <;> (try simp only [hc]) <;> (try simp only [bools] at hc) <;> (try (have hb : @Eq Bool _ _ := hc; simp only [hb]; clear hb))))
  exact ret1n (fun _ => ex_ret) rfl rfl rfl ⟨rfl, rfl, rfl⟩
theorem call_91 {T : TV} (h : T.Ok) {key n : Nat} (hk : T.leaf[key]? = some n) : (Lim cfg).call 91 [.ptr 0 0, .int .i64 key] [treeB T] = some (.tup [.int .u32 n, .int .i64 0], false, [treeB T]) := by
  have hlt : key < 4096 := by have := (List.getElem?_eq_some_iff.1 hk).1; rw [h.leaf] at this; exact this
  have c1 := call_90 hlt
  have l1 := treeC_len h
  have ld : List.take 1 (List.drop (8192 + key * 1) (treeC T)) = [V.int .u32 (n : Int)] := by
    rw [Nat.mul_one]; exact take_one (by rw [treeC_leaf h hlt, hk]; rfl)
  refine call_eq fn_91 rfl ?_
  rw [k_start]
  simp only [Try.f91, st0, Nat.zero_add]
  repeat' (first | simp (maxSteps := 10000000) (disch := omega) only [go_sem, Nat.reduceAdd, Nat.reduceSub, Nat.reduceMul, Nat.reduceLT, Nat.reduceLeDiff, Nat.reduceEqDiff, Nat.reduceBEq, Nat.reduceBNe, reduceCtorEq, Int.reduceBNe, Int.reduceBEq, au, lst, if_pos, if_neg, c1, l1, ld] | simp (disch := (simp only [lens]; omega)) only [str_add, if_pos, if_neg] | ((with_reducible first | refine WC_split ?_ ?_ | refine WS_split ?_ ?_ | refine WD_split ?_ ?_) <;> intro hc <;> (try simp only [hc]) <;> (try simp only [bools] at hc) <;> (try (have hb : @Eq Bool _ _ := hc; simp only [hb]; clear hb))))
  exact retK (v := .tup [.int .u32 n, .int .i64 0]) (own := false) (fun _ => ex_ret) rfl rfl t_keep ⟨rfl, rfl, rfl⟩
theorem row_low {T : TV} : (Lim cfg).call 98 [.ptr 0 0, .int .i64 0] [treeB T] = some (.ms 0 12288 256 256, false, [treeB T]) := by
  have s1 : sliceV cfg 128 (.ptr 0 12288) none none none = some (.ms 0 12288 256 256) := by rw [slice_all rfl ty_89 (by omega)]; rfl
  refine call_eq fn_98 rfl ?_
  rw [k_start]
  simp only [Try.f98, st0, Nat.zero_add]
  repeat' (first | simp (maxSteps := 10000000) (disch := omega) only [go_sem, Nat.reduceAdd, Nat.reduceSub, Nat.reduceMul, Nat.reduceLT, Nat.reduceLeDiff, Nat.reduceEqDiff, Nat.reduceBEq, Nat.reduceBNe, reduceCtorEq, Int.reduceBNe, Int.reduceBEq, au, lst, if_pos, if_neg, s1] | simp (disch := (simp only [lens]; omega)) only [str_add, if_pos, if_neg] | ((with_reducible first | refine WC_split ?_ ?_ | refine WS_split ?_ ?_ | refine WD_split ?_ ?_) <;> intro hc <;> (try simp only [hc]) <;> (try simp only [bools] at hc) <;> (try (have hb : @Eq Bool _ _ := hc; simp only [hb]; clear hb))))
  exact retK (v := .ms 0 12288 256 256) (own := false) (fun _ => ex_ret) rfl rfl t_keep ⟨rfl, rfl, rfl⟩
theorem row_mid {T : TV} : (Lim cfg).call 98 [.ptr 0 0, .int .i64 1] [treeB T] = some (.ms 0 12544 16 16, false, [treeB T]) := by
  have s1 : sliceV cfg 129 (.ptr 0 12544) none none none = some (.ms 0 12544 16 16) := by rw [slice_all rfl ty_89 (by omega)]; rfl
  refine call_eq fn_98 rfl ?_
  rw [k_start]
  simp only [Try.f98, st0, Nat.zero_add]
  repeat' (first | simp (maxSteps := 10000000) (disch := omega) only [go_sem, Nat.reduceAdd, Nat.reduceSub, Nat.reduceMul, Nat.reduceLT, Nat.reduceLeDiff, Nat.reduceEqDiff, Nat.reduceBEq, Nat.reduceBNe, reduceCtorEq, Int.reduceBNe, Int.reduceBEq, au, lst, if_pos, if_neg, s1] | simp (disch := (simp only [lens]; omega)) only [str_add, if_pos, if_neg] | ((with_reducible first | refine WC_split ?_ ?_ | refine WS_split ?_ ?_ | refine WD_split ?_ ?_) <;> intro hc <;> (try simp only [hc]) <;> (try simp only [bools] at hc) <;> (try (have hb : @Eq Bool _ _ := hc; simp only [hb]; clear hb))))
  exact retK (v := .ms 0 12544 16 16) (own := false) (fun _ => ex_ret) rfl rfl t_keep ⟨rfl, rfl, rfl⟩
theorem t_reach1 {T : TV} {x : Int} : reach [treeB T] [.ptr 0 0, .int .i64 x] = [0] := t_reach (T := T) (o := 0) (k := 0) (c := 0)
theorem t_closed1 {T : TV} {x : Int} : closedIn [treeB T] [0] [.ptr 0 0, .int .i64 x] = true := by
  show (true && ((true && V.alll (fun i => [0].contains i) (treeC T)) && true)) = true
  rw [treeC_all]; rfl
theorem t_reach12 {T : TV} {x y : Int} : reach [treeB T] [.ptr 0 0, .int .i64 x, .int .i64 y] = [0] := t_reach (T := T) (o := 0) (k := 0) (c := 0)
theorem t_closed12 {T : TV} {x y : Int} : closedIn [treeB T] [0] [.ptr 0 0, .int .i64 x, .int .i64 y] = true := by
  show (true && ((true && V.alll (fun i => [0].contains i) (treeC T)) && true)) = true
  rw [treeC_all]; rfl
set_option maxHeartbeats 4000000 in
theorem node_low {T : TV} (h : T.Ok) {i n : Nat} (hi : T.low[i]? = some n) : (Lim cfg).call 92 [.ptr 0 0, .int .i64 0, .int .i64 i] [treeB T] = some (.tup [.int .u32 n, .int .i64 0], false, [treeB T]) := by
  have hlt : i < 256 := by have := (List.getElem?_eq_some_iff.1 hi).1; rw [h.low] at this; exact this
  have l1 := treeC_len h
  have ld : List.take 1 (List.drop (12288 + i * 1) (treeC T)) = [V.int .u32 (n : Int)] := by
    rw [Nat.mul_one]; exact take_one (by rw [treeC_low h hlt, hi]; rfl)
  refine call_eq fn_92 rfl ?_
  rw [k_start]
  simp only [Try.f92, st0, Nat.zero_add]
  repeat' (first | simp (maxSteps := 10000000) (disch := omega) only [go_sem, Nat.reduceAdd, Nat.reduceSub, Nat.reduceMul, Nat.reduceLT, Nat.reduceLeDiff, Nat.reduceEqDiff, Nat.reduceBEq, Nat.reduceBNe, reduceCtorEq, Int.reduceBNe, Int.reduceBEq, au, lst, if_pos, if_neg] | simp (disch := (simp only [lens]; omega)) only [str_add, if_pos, if_neg] | ((with_reducible first | refine WC_split ?_ ?_ | refine WS_split ?_ ?_ | refine WD_split ?_ ?_) <;> intro hc <;> (try simp only [hc]) <;> (try simp only [bools] at hc) <;> (try (have hb : @Eq Bool _ _ := hc; simp only [hb]; clear hb))))
  rw [callHeap_at (R := [0]) row_low (hR := t_reach1) (hc := t_closed1) (hs := t_sub)]
  repeat' (first | simp (maxSteps := 10000000) (disch := omega) only [go_sem, Nat.reduceAdd, Nat.reduceSub, Nat.reduceMul, Nat.reduceLT, Nat.reduceLeDiff, Nat.reduceEqDiff, Nat.reduceBEq, Nat.reduceBNe, reduceCtorEq, Int.reduceBNe, Int.reduceBEq, au, lst, if_pos, if_neg, treeC_ren, l1, ld] | simp (disch := (simp only [lens]; omega)) only [str_add, if_pos, if_neg] | ((with_reducible first | refine WC_split ?_ ?_ | refine WS_split ?_ ?_ | refine WD_split ?_ ?_) <;> intro hc <;> (try simp only [hc]) <;> (try simp only [bools] at hc) <;> (try (have hb : @Eq Bool _ _ := hc; simp only [hb]; clear hb))))
  exact retK (v := .tup [.int .u32 n, .int .i64 0]) (own := false) (fun _ => ex_ret) rfl rfl t_keep ⟨rfl, rfl, rfl⟩
set_option maxHeartbeats 4000000 in
theorem node_mid {T : TV} (h : T.Ok) {i n : Nat} (hi : T.mid[i]? = some n) : (Lim cfg).call 92 [.ptr 0 0, .int .i64 1, .int .i64 i] [treeB T] = some (.tup [.int .u32 n, .int .i64 0], false, [treeB T]) := by
  have hlt : i < 16 := by have := (List.getElem?_eq_some_iff.1 hi).1; rw [h.mid] at this; exact this
  have l1 := treeC_len h
  have ld : List.take 1 (List.drop (12544 + i * 1) (treeC T)) = [V.int .u32 (n : Int)] := by
    rw [Nat.mul_one]; exact take_one (by rw [treeC_mid h hlt, hi]; rfl)
  refine call_eq fn_92 rfl ?_
  rw [k_start]
  simp only [Try.f92, st0, Nat.zero_add]
  repeat' (first | simp (maxSteps := 10000000) (disch := omega) only [go_sem, Nat.reduceAdd, Nat.reduceSub, Nat.reduceMul, Nat.reduceLT, Nat.reduceLeDiff, Nat.reduceEqDiff, Nat.reduceBEq, Nat.reduceBNe, reduceCtorEq, Int.reduceBNe, Int.reduceBEq, au, lst, if_pos, if_neg] | simp (disch := (simp only [lens]; omega)) only [str_add, if_pos, if_neg] | ((with_reducible first | refine WC_split ?_ ?_ | refine WS_split ?_ ?_ | refine WD_split ?_ ?_) <;> intro hc <;> (try simp only [hc]) <;> (try simp only [bools] at hc) <;> (try (have hb : @Eq Bool _ _ := hc; simp only [hb]; clear hb))))
  rw [callHeap_at (R := [0]) row_mid (hR := t_reach1) (hc := t_closed1) (hs := t_sub)]
  repeat' (first | simp (maxSteps := 10000000) (disch := omega) only [go_sem, Nat.reduceAdd, Nat.reduceSub, Nat.reduceMul, Nat.reduceLT, Nat.reduceLeDiff, Nat.reduceEqDiff, Nat.reduceBEq, Nat.reduceBNe, reduceCtorEq, Int.reduceBNe, Int.reduceBEq, au, lst, if_pos, if_neg, treeC_ren, l1, ld] | simp (disch := (simp only [lens]; omega)) only [str_add, if_pos, if_neg] | ((with_reducible first | refine WC_split ?_ ?_ | refine WS_split ?_ ?_ | refine WD_split ?_ ?_) <;> intro hc <;> (try simp only [hc]) <;> (try simp only [bools] at hc) <;> (try (have hb : @Eq Bool _ _ := hc; simp only [hb]; clear hb))))
  exact retK (v := .tup [.int .u32 n, .int .i64 0]) (own := false) (fun _ => ex_ret) rfl rfl t_keep ⟨rfl, rfl, rfl⟩
/-- A level's kids. -/
def lvlT (T : TV) (lv : Int) : List Nat := if lv = 0 then T.leaf else if lv = 1 then T.low else T.mid
set_option maxHeartbeats 4000000 in
theorem call_73 {T : TV} (h : T.Ok) {lv : Int} (h1 : 0 ≤ lv) (h2 : lv ≤ 2) {i n : Nat} (hi : (lvlT T lv)[i]? = some n) : (Lim cfg).call 73 [.ptr 0 0, .int .i64 lv, .int .i64 i] [treeB T] = some (.int .u32 n, false, [treeB T]) := by
  have hc : lv = 0 ∨ lv = 1 ∨ lv = 2 := by omega
  rcases hc with rfl | rfl | rfl
  · have c1 := call_91 h (key := i) (n := n) hi
    refine call_eq fn_73 rfl ?_
    rw [k_start]
    simp only [Try.f73, st0, Nat.zero_add]
    repeat' (first | simp (maxSteps := 10000000) (disch := omega) only [go_sem, Nat.reduceAdd, Nat.reduceSub, Nat.reduceMul, Nat.reduceLT, Nat.reduceLeDiff, Nat.reduceEqDiff, Nat.reduceBEq, Nat.reduceBNe, reduceCtorEq, Int.reduceBNe, Int.reduceBEq, au, lst, if_pos, if_neg] | simp (disch := (simp only [lens]; omega)) only [str_add, if_pos, if_neg] | ((with_reducible first | refine WC_split ?_ ?_ | refine WS_split ?_ ?_ | refine WD_split ?_ ?_) <;> intro hc <;> (try simp only [hc]) <;> (try simp only [bools] at hc) <;> (try (have hb : @Eq Bool _ _ := hc; simp only [hb]; clear hb))))
    rw [callHeap_at (R := [0]) c1 (hR := t_reach1) (hc := t_closed1) (hs := t_sub)]
    repeat' (first | simp (maxSteps := 10000000) (disch := omega) only [go_sem, Nat.reduceAdd, Nat.reduceSub, Nat.reduceMul, Nat.reduceLT, Nat.reduceLeDiff, Nat.reduceEqDiff, Nat.reduceBEq, Nat.reduceBNe, reduceCtorEq, Int.reduceBNe, Int.reduceBEq, au, lst, if_pos, if_neg, treeC_ren] | simp (disch := (simp only [lens]; omega)) only [str_add, if_pos, if_neg] | ((with_reducible first | refine WC_split ?_ ?_ | refine WS_split ?_ ?_ | refine WD_split ?_ ?_) <;> intro hc <;> (try simp only [hc]) <;> (try simp only [bools] at hc) <;> (try (have hb : @Eq Bool _ _ := hc; simp only [hb]; clear hb))))
    exact retK (v := .int .u32 n) (own := false) (fun _ => ex_ret) rfl rfl t_keep ⟨rfl, rfl, rfl⟩
  · have c1 := node_low h (i := i) (n := n) hi
    refine call_eq fn_73 rfl ?_
    rw [k_start]
    simp only [Try.f73, st0, Nat.zero_add]
    repeat' (first | simp (maxSteps := 10000000) (disch := omega) only [go_sem, Nat.reduceAdd, Nat.reduceSub, Nat.reduceMul, Nat.reduceLT, Nat.reduceLeDiff, Nat.reduceEqDiff, Nat.reduceBEq, Nat.reduceBNe, reduceCtorEq, Int.reduceBNe, Int.reduceBEq, au, lst, if_pos, if_neg] | simp (disch := (simp only [lens]; omega)) only [str_add, if_pos, if_neg] | ((with_reducible first | refine WC_split ?_ ?_ | refine WS_split ?_ ?_ | refine WD_split ?_ ?_) <;> intro hc <;> (try simp only [hc]) <;> (try simp only [bools] at hc) <;> (try (have hb : @Eq Bool _ _ := hc; simp only [hb]; clear hb))))
    rw [callHeap_at (R := [0]) c1 (hR := t_reach12) (hc := t_closed12) (hs := t_sub)]
    repeat' (first | simp (maxSteps := 10000000) (disch := omega) only [go_sem, Nat.reduceAdd, Nat.reduceSub, Nat.reduceMul, Nat.reduceLT, Nat.reduceLeDiff, Nat.reduceEqDiff, Nat.reduceBEq, Nat.reduceBNe, reduceCtorEq, Int.reduceBNe, Int.reduceBEq, au, lst, if_pos, if_neg, treeC_ren] | simp (disch := (simp only [lens]; omega)) only [str_add, if_pos, if_neg] | ((with_reducible first | refine WC_split ?_ ?_ | refine WS_split ?_ ?_ | refine WD_split ?_ ?_) <;> intro hc <;> (try simp only [hc]) <;> (try simp only [bools] at hc) <;> (try (have hb : @Eq Bool _ _ := hc; simp only [hb]; clear hb))))
    exact retK (v := .int .u32 n) (own := false) (fun _ => ex_ret) rfl rfl t_keep ⟨rfl, rfl, rfl⟩
  · have c1 := node_mid h (i := i) (n := n) hi
    refine call_eq fn_73 rfl ?_
    rw [k_start]
    simp only [Try.f73, st0, Nat.zero_add]
    repeat' (first | simp (maxSteps := 10000000) (disch := omega) only [go_sem, Nat.reduceAdd, Nat.reduceSub, Nat.reduceMul, Nat.reduceLT, Nat.reduceLeDiff, Nat.reduceEqDiff, Nat.reduceBEq, Nat.reduceBNe, reduceCtorEq, Int.reduceBNe, Int.reduceBEq, au, lst, if_pos, if_neg] | simp (disch := (simp only [lens]; omega)) only [str_add, if_pos, if_neg] | ((with_reducible first | refine WC_split ?_ ?_ | refine WS_split ?_ ?_ | refine WD_split ?_ ?_) <;> intro hc <;> (try simp only [hc]) <;> (try simp only [bools] at hc) <;> (try (have hb : @Eq Bool _ _ := hc; simp only [hb]; clear hb))))
    rw [callHeap_at (R := [0]) c1 (hR := t_reach12) (hc := t_closed12) (hs := t_sub)]
    repeat' (first | simp (maxSteps := 10000000) (disch := omega) only [go_sem, Nat.reduceAdd, Nat.reduceSub, Nat.reduceMul, Nat.reduceLT, Nat.reduceLeDiff, Nat.reduceEqDiff, Nat.reduceBEq, Nat.reduceBNe, reduceCtorEq, Int.reduceBNe, Int.reduceBEq, au, lst, if_pos, if_neg, treeC_ren] | simp (disch := (simp only [lens]; omega)) only [str_add, if_pos, if_neg] | ((with_reducible first | refine WC_split ?_ ?_ | refine WS_split ?_ ?_ | refine WD_split ?_ ?_) <;> intro hc <;> (try simp only [hc]) <;> (try simp only [bools] at hc) <;> (try (have hb : @Eq Bool _ _ := hc; simp only [hb]; clear hb))))
    exact retK (v := .int .u32 n) (own := false) (fun _ => ex_ret) rfl rfl t_keep ⟨rfl, rfl, rfl⟩
end Go.Proofs.Ythikboobkmfgfaa
