/- A tree's numbers above a leaf: the program's answers. -/
import Derived.Test.YthikboobkmfgfaaM3
set_option linter.all false
set_option maxRecDepth 100000
namespace Go.Proofs.Ythikboobkmfgfaa
open Go Go.Abs

/-- A row of sixteen. -/
def row16 (l : List Nat) (i : Nat) : List Nat := (l.drop (16 * i)).take 16
theorem row16_len {l : List Nat} {i : Nat} (h : 16 * i + 16 ≤ l.length) : (row16 l i).length = 16 := by rw [row16, List.length_take, List.length_drop]; omega
theorem row16_get {l : List Nat} {i j : Nat} (h : 16 * i + 16 ≤ l.length) (hj : j < (row16 l i).length) : l[16 * i + j]? = some (row16 l i)[j] := by
  have hj' : j < 16 := by rwa [row16_len h] at hj
  rw [List.getElem?_eq_getElem (by omega)]
  simp [row16]
theorem kids_leaf {T : TV} (h : T.Ok) {i : Nat} (hi : i < 256) : ∀ j (hj : j < (row16 T.leaf i).length), (treeC T)[8192 + 16 * i + j]? = some (u32 (row16 T.leaf i)[j]) := fun j hj => by
  have hl : 16 * i + 16 ≤ T.leaf.length := by rw [h.leaf]; omega
  have hj' : j < 16 := by rwa [row16_len hl] at hj
  rw [Nat.add_assoc, treeC_leaf h (by omega), row16_get hl hj]; rfl
theorem kids_low {T : TV} (h : T.Ok) {i : Nat} (hi : i < 16) : ∀ j (hj : j < (row16 T.low i).length), (treeC T)[12288 + 16 * i + j]? = some (u32 (row16 T.low i)[j]) := fun j hj => by
  have hl : 16 * i + 16 ≤ T.low.length := by rw [h.low]; omega
  have hj' : j < 16 := by rwa [row16_len hl] at hj
  rw [Nat.add_assoc, treeC_low h (by omega), row16_get hl hj]; rfl
theorem kids_mid {T : TV} (h : T.Ok) : ∀ j (hj : j < T.mid.length), (treeC T)[12544 + j]? = some (u32 T.mid[j]) := fun j hj => by
  rw [treeC_mid h (by rw [← h.mid]; exact hj), List.getElem?_eq_getElem hj]; rfl
abbrev treeB (T : TV) : Blk := .cells 131 [] (treeC T)
theorem over_leaf {T : TV} (h : T.Ok) {i cap : Nat} (hi : i < 256) : (Lim cfg).call 67 [.ms 0 (8192 + 16 * i) 16 cap] [treeB T] = some (.int .u32 (overN (row16 T.leaf i) : Nat), false, [treeB T]) := by
  have hl : (row16 T.leaf i).length = 16 := row16_len (by rw [h.leaf]; omega)
  have := call_67 (t := 131) (ow := []) (cs := treeC T) (row16 T.leaf i) (8192 + 16 * i) cap (fun p => treeC_all p T) (by rw [treeC_len h, hl]; omega) (kids_leaf h hi) (by omega)
  rwa [hl] at this
theorem over_low {T : TV} (h : T.Ok) {i cap : Nat} (hi : i < 16) : (Lim cfg).call 67 [.ms 0 (12288 + 16 * i) 16 cap] [treeB T] = some (.int .u32 (overN (row16 T.low i) : Nat), false, [treeB T]) := by
  have hl : (row16 T.low i).length = 16 := row16_len (by rw [h.low]; omega)
  have := call_67 (t := 131) (ow := []) (cs := treeC T) (row16 T.low i) (12288 + 16 * i) cap (fun p => treeC_all p T) (by rw [treeC_len h, hl]; omega) (kids_low h hi) (by omega)
  rwa [hl] at this
theorem over_mid {T : TV} (h : T.Ok) {cap : Nat} : (Lim cfg).call 67 [.ms 0 12544 16 cap] [treeB T] = some (.int .u32 (overN T.mid : Nat), false, [treeB T]) := by
  have hl := h.mid
  have := call_67 (t := 131) (ow := []) (cs := treeC T) T.mid 12544 cap (fun p => treeC_all p T) (by rw [treeC_len h, hl]; omega) (kids_mid h) (by omega)
  rwa [hl] at this
/-- What a call sees of one such block. -/
theorem t_reach {T : TV} {o k c : Nat} : reach [treeB T] [.ms 0 o k c] = [0] := by
  have e : reachGo [treeB T] 1 [0] = [0] := by
    unfold reachGo
    show (if (V.idsl [0] (treeC T)).length = [0].length then [0] else reachGo _ 0 (V.idsl [0] (treeC T))) = [0]
    rw [treeC_ids]; rfl
  show (List.range 1).filter (fun i => (reachGo [treeB T] 1 [0]).contains i) = [0]
  rw [e]; rfl
theorem t_closed {T : TV} {o k c : Nat} : closedIn [treeB T] [0] [.ms 0 o k c] = true := by
  show (true && ((true && V.alll (fun i => [0].contains i) (treeC T)) && true)) = true
  rw [treeC_all]; rfl
theorem t_sub {T : TV} : subHp [treeB T] [0] = [treeB T] := by
  show [Blk.cells 131 [] (V.renl (fun i => [0].idxOf i) (treeC T))] = _
  rw [treeC_ren]
theorem treeB_ren {f : Nat → Nat} {T : TV} : Blk.ren f (treeB T) = treeB T := by
  show Blk.cells _ _ (V.renl f (treeC T)) = _
  rw [treeC_ren]
/-- Parts of arrays. -/
theorem slice_arr {t e : TypeId} {n id off l h : Nat} {ti : TI} {x y : Int} (ht : (cfg.ty t).map TI.k = some (.array n e)) (he : cfg.ty e = some ti) (hx : x = (l : Int)) (hy : y = (h : Int)) (h1 : l ≤ h) (h2 : h ≤ n) (h3 : l < n) :
    sliceV cfg t (.ptr id off) (some (.int .i64 x)) (some (.int .i64 y)) none = some (.ms id (off + l * ti.size) (h - l) (n - l)) := by
  subst hx hy
  have b1 : bound (some (.int .i64 (h : Int))) n n = some h := by simp [bound]; omega
  have b2 : bound (some (.int .i64 (l : Int))) 0 h = some l := by simp [bound]; omega
  simp only [sliceV, ht, he]
  rw [show bound none n n = some n from rfl]
  simp only [b1, b2, Option.isSome_none, Bool.false_and, Bool.false_eq_true, if_false]
  rw [if_neg (by omega)]
theorem slice_arr0 {t e : TypeId} {n id off h : Nat} {ti : TI} {y : Int} (ht : (cfg.ty t).map TI.k = some (.array n e)) (he : cfg.ty e = some ti) (hy : y = (h : Int)) (h2 : h ≤ n) (h3 : 0 < n) :
    sliceV cfg t (.ptr id off) none (some (.int .i64 y)) none = some (.ms id (off + 0 * ti.size) h n) := by
  subst hy
  have b1 : bound (some (.int .i64 (h : Int))) n n = some h := by simp [bound]; omega
  simp only [sliceV, ht, he]
  rw [show bound none n n = some n from rfl]
  simp only [b1]
  rw [show bound none 0 h = some 0 from rfl]
  simp only [Option.isSome_none, Bool.false_and, Bool.false_eq_true, if_false]
  rw [if_neg (by omega)]; rfl
theorem slice_all {t e : TypeId} {n id off : Nat} {ti : TI} (ht : (cfg.ty t).map TI.k = some (.array n e)) (he : cfg.ty e = some ti) (h3 : 0 < n) : sliceV cfg t (.ptr id off) none none none = some (.ms id (off + 0 * ti.size) n n) := by
  simp only [sliceV, ht, he]
  rw [show bound none n n = some n from rfl]
  simp only
  rw [show bound none n n = some n from rfl]
  simp only
  rw [show bound none 0 n = some 0 from rfl]
  simp only [Option.isSome_none, Bool.false_and, Bool.false_eq_true, if_false]
  rw [if_neg (by omega)]; rfl
/-- The numbers above a leaf, made anew. -/
def upL (T : TV) (i : Nat) : TV := { T with low := T.low.set i (overN (row16 T.leaf i)) }
def upM (T : TV) (i : Nat) : TV := { T with mid := T.mid.set i (overN (row16 T.low i)) }
def upR (T : TV) : TV := { T with root := overN T.mid }
def upT (T : TV) (key : Nat) : TV := upR (upM (upL T (key / 16)) (key / 16 / 16))
theorem st_low {T : TV} (h : T.Ok) {i n : Nat} (hi : i < 256) : List.take (12288 + i * 1) (treeC T) ++ [V.int .u32 (n : Int)] ++ List.drop (12288 + i * 1 + 1) (treeC T) = treeC { T with low := T.low.set i n } := by
  rw [Nat.mul_one, put_one (by rw [treeC_len h]; omega)]; exact set_low h hi
theorem st_mid {T : TV} (h : T.Ok) {i n : Nat} (hi : i < 16) : List.take (12544 + i * 1) (treeC T) ++ [V.int .u32 (n : Int)] ++ List.drop (12544 + i * 1 + 1) (treeC T) = treeC { T with mid := T.mid.set i n } := by
  rw [Nat.mul_one, put_one (by rw [treeC_len h]; omega)]; exact set_mid h hi
theorem st_root {T : TV} (h : T.Ok) {n : Nat} : List.take 12560 (treeC T) ++ [V.int .u32 (n : Int)] ++ List.drop (12560 + 1) (treeC T) = treeC { T with root := n } := by
  rw [put_one (by rw [treeC_len h]; omega)]; exact set_root h
theorem st_leaf {T : TV} (h : T.Ok) {i n : Nat} (hi : i < 4096) : List.take (8192 + i * 1) (treeC T) ++ [V.int .u32 (n : Int)] ++ List.drop (8192 + i * 1 + 1) (treeC T) = treeC { T with leaf := T.leaf.set i n } := by
  rw [Nat.mul_one, put_one (by rw [treeC_len h]; omega)]; exact set_leaf h hi
set_option maxHeartbeats 4000000 in
theorem call_69 {T : TV} (h : T.Ok) {key : Nat} (hk : key < 4096) : (Lim cfg).call 69 [.ptr 0 0, .int .i64 key] [treeB T] = some (.tup [], false, [treeB (upT T key)]) := by
  have q1 : Int.tdiv (key : Int) 16 = ((key / 16 : Nat) : Int) := by rw [Int.tdiv_eq_ediv_of_nonneg (by omega)]; norm_cast
  have q2 : Int.tdiv ((key / 16 : Nat) : Int) 16 = ((key / 16 / 16 : Nat) : Int) := by rw [Int.tdiv_eq_ediv_of_nonneg (by omega)]; norm_cast
  have hi : key / 16 < 256 := by omega
  have hk2 : key / 16 / 16 < 16 := by omega
  have l1 := treeC_len h
  have o1 := over_leaf h (cap := 4096 - 16 * (key / 16)) hi
  have h2 : (upL T (key / 16)).Ok := Ok_low h
  have o2 := over_low h2 (cap := 256 - 16 * (key / 16 / 16)) hk2
  have h3 : (upM (upL T (key / 16)) (key / 16 / 16)).Ok := Ok_mid h2
  have o3 := over_mid h3 (cap := 16)
  have l2 := treeC_len h2
  have l3 := treeC_len h3
  have s1 : sliceV cfg 127 (.ptr 0 8192) (some (.int .i64 (((key / 16 : Nat) : Int) * 16))) (some (.int .i64 ((((key / 16 : Nat) : Int) + 1) * 16))) none = some (.ms 0 (8192 + 16 * (key / 16)) 16 (4096 - 16 * (key / 16))) := by
    rw [slice_arr (l := 16 * (key / 16)) (h := 16 * (key / 16) + 16) rfl ty_89 (by omega) (by omega) (by omega) (by omega) (by omega)]
    simp only [Nat.mul_one, Nat.add_sub_cancel_left]
  have s2 : sliceV cfg 128 (.ptr 0 12288) (some (.int .i64 (((key / 16 / 16 : Nat) : Int) * 16))) (some (.int .i64 ((((key / 16 / 16 : Nat) : Int) + 1) * 16))) none = some (.ms 0 (12288 + 16 * (key / 16 / 16)) 16 (256 - 16 * (key / 16 / 16))) := by
    rw [slice_arr (l := 16 * (key / 16 / 16)) (h := 16 * (key / 16 / 16) + 16) rfl ty_89 (by omega) (by omega) (by omega) (by omega) (by omega)]
    simp only [Nat.mul_one, Nat.add_sub_cancel_left]
  have s3 : sliceV cfg 129 (.ptr 0 12544) none none none = some (.ms 0 12544 16 16) := by
    rw [slice_all rfl ty_89 (by omega)]; rfl
  have w1 : _ = treeC (upL T (key / 16)) := st_low h (n := overN (row16 T.leaf (key / 16))) hi
  have w2 : _ = treeC (upM (upL T (key / 16)) (key / 16 / 16)) := st_mid h2 (n := overN (row16 (upL T (key / 16)).low (key / 16 / 16))) hk2
  have w3 : _ = treeC (upT T key) := st_root h3 (n := overN (upM (upL T (key / 16)) (key / 16 / 16)).mid)
  refine call_eq fn_69 rfl ?_
  rw [k_start]
  simp only [Try.f69, st0, Nat.zero_add]
  repeat' (first | simp (maxSteps := 10000000) (disch := omega) only [go_sem, Nat.reduceAdd, Nat.reduceSub, Nat.reduceMul, Nat.reduceLT, Nat.reduceLeDiff, Nat.reduceEqDiff, Nat.reduceBEq, Nat.reduceBNe, reduceCtorEq, Int.reduceBNe, Int.reduceBEq, au, lst, if_pos, if_neg, q1, q2, s1] | simp (disch := (simp only [lens]; omega)) only [str_add, if_pos, if_neg] | ((with_reducible first | refine WC_split ?_ ?_ | refine WS_split ?_ ?_ | refine WD_split ?_ ?_) <;> intro hc <;> (try simp only [hc]) <;> (try simp only [bools] at hc) <;> (try (have hb : @Eq Bool _ _ := hc; simp only [hb]; clear hb))))
  rw [callHeap_at (R := [0]) o1 (hR := t_reach) (hc := t_closed) (hs := t_sub)]
  repeat' (first | simp (maxSteps := 10000000) (disch := omega) only [go_sem, Nat.reduceAdd, Nat.reduceSub, Nat.reduceMul, Nat.reduceLT, Nat.reduceLeDiff, Nat.reduceEqDiff, Nat.reduceBEq, Nat.reduceBNe, reduceCtorEq, Int.reduceBNe, Int.reduceBEq, au, lst, if_pos, if_neg, t_reach, treeC_ren, l1, w1, s2] | simp (disch := (simp only [lens]; omega)) only [str_add, if_pos, if_neg] | ((with_reducible first | refine WC_split ?_ ?_ | refine WS_split ?_ ?_ | refine WD_split ?_ ?_) <;> intro hc <;> (try simp only [hc]) <;> (try simp only [bools] at hc) <;> (try (have hb : @Eq Bool _ _ := hc; simp only [hb]; clear hb))))
  rw [callHeap_at (R := [0]) o2 (hR := t_reach) (hc := t_closed) (hs := t_sub)]
  repeat' (first | simp (maxSteps := 10000000) (disch := omega) only [go_sem, Nat.reduceAdd, Nat.reduceSub, Nat.reduceMul, Nat.reduceLT, Nat.reduceLeDiff, Nat.reduceEqDiff, Nat.reduceBEq, Nat.reduceBNe, reduceCtorEq, Int.reduceBNe, Int.reduceBEq, au, lst, if_pos, if_neg, t_reach, treeC_ren, l2, w2, s3] | simp (disch := (simp only [lens]; omega)) only [str_add, if_pos, if_neg] | ((with_reducible first | refine WC_split ?_ ?_ | refine WS_split ?_ ?_ | refine WD_split ?_ ?_) <;> intro hc <;> (try simp only [hc]) <;> (try simp only [bools] at hc) <;> (try (have hb : @Eq Bool _ _ := hc; simp only [hb]; clear hb))))
  rw [callHeap_at (R := [0]) o3 (hR := t_reach) (hc := t_closed) (hs := t_sub)]
  repeat' (first | simp (maxSteps := 10000000) (disch := omega) only [go_sem, Nat.reduceAdd, Nat.reduceSub, Nat.reduceMul, Nat.reduceLT, Nat.reduceLeDiff, Nat.reduceEqDiff, Nat.reduceBEq, Nat.reduceBNe, reduceCtorEq, Int.reduceBNe, Int.reduceBEq, au, lst, if_pos, if_neg, t_reach, treeC_ren, l3, w3] | simp (disch := (simp only [lens]; omega)) only [str_add, if_pos, if_neg] | ((with_reducible first | refine WC_split ?_ ?_ | refine WS_split ?_ ?_ | refine WD_split ?_ ?_) <;> intro hc <;> (try simp only [hc]) <;> (try simp only [bools] at hc) <;> (try (have hb : @Eq Bool _ _ := hc; simp only [hb]; clear hb))))
  exact ret0 (fun _ => ex_normal) (by split <;> rfl) ⟨rfl, rfl, rfl⟩
end Go.Proofs.Ythikboobkmfgfaa
