/- Which pairs are a table: the program's answer, and the document's. -/
import Derived.Test.YtlfjmmcodkdlfaaTab
import Derived.KernelRfl
set_option linter.all false
set_option maxRecDepth 100000
namespace Go.Proofs.Ytlfjmmcodkdlfaa
open Go Go.Abs
/-- What `%AUTO` rewrites with, as few names. -/
theorem au : (∀ n, Nat.blt n 0 = false) ∧ (0 : Int).toNat = 0 ∧ (1 : Int).toNat = 1 ∧ (∀ n : Int, -9223372036854775808 ≤ n → n ≤ 9223372036854775807 → IntKind.i64.wrap n = n) ∧
    (∀ (p : Prop) [Decidable p], p → decide p = true) ∧ (∀ (p : Prop) [Decidable p], ¬ p → decide p = false) ∧ (∀ a b : Int, a = b → (a == b) = true) ∧ (∀ a b : Int, ¬ a = b → (a == b) = false) ∧
    (∀ a b : Int, ¬ a = b → (a != b) = true) ∧ (∀ a b : Int, a = b → (a != b) = false) ∧ (∀ n : Nat, ((n : Int)).toNat = n) ∧ (∀ i : Nat, ((i : Int) - 1).toNat = i - 1) ∧ (∀ i : Nat, ((i : Int) + 1).toNat = i + 1) ∧
    (∀ hp k x, reach hp [.int k x] = []) ∧ (∀ hp k k2 x y, reach hp [.int k x, .int k2 y] = []) ∧ (∀ hp x, reach hp [.sl true x] = []) ∧ (∀ hp k x y, reach hp [.sl true x, .int k y] = []) ∧ (∀ hp x y, reach hp [.sl true x, .sl true y] = []) :=
  ⟨fun _ => blt0, rfl, rfl, fun _ => wrap_i64, fun _ => decide_eq_true, fun _ => decide_eq_false, fun _ _ => beq_iff_eq.2, fun _ _ => beq_eq_false_iff_ne.2, fun _ _ => bne_iff_ne.2, fun _ _ => bne_eq_false_iff_eq.2, Int.toNat_natCast, by omega, by omega, fun _ _ _ => reach_pure rfl, fun _ _ _ _ _ => reach_pure rfl, fun _ _ => reach_pure rfl, fun _ _ _ _ => reach_pure rfl, fun _ _ _ => reach_pure rfl⟩
theorem lens : (∀ {α : Type} (l m : List α), (l ++ m).length = l.length + m.length) ∧ (∀ {α β : Type} (l : List α) (f : α → β), (l.map f).length = l.length) ∧ (∀ {α : Type} (l : List α) n, (l.take n).length = min n l.length) ∧ (∀ {α : Type} (l : List α) n, (l.drop n).length = l.length - n) ∧
    (∀ {α : Type} (a : α) l, (a :: l).length = l.length + 1) ∧ (∀ {α : Type}, ([] : List α).length = 0) :=
  ⟨fun _ _ => List.length_append, fun _ _ => List.length_map _, fun _ _ => List.length_take, fun _ _ => List.length_drop, fun _ _ => rfl, rfl⟩
theorem lst : (∀ {α β : Type} (l : List α) (f : α → β) (i : Nat), (l.map f)[i]? = l[i]?.map f) ∧ (∀ {α : Type} (l : List α) (i : Nat) (h : i < l.length), l[i]? = some l[i]) := ⟨fun _ _ _ => List.getElem?_map, fun _ _ => List.getElem?_eq_getElem⟩
theorem bools : (∀ a b, ((a && b) = true) = (a = true ∧ b = true)) ∧ (∀ a b, ((a || b) = true) = (a = true ∨ b = true)) ∧ (∀ b, ((!b) = true) = (b = false)) ∧ (∀ b, ((!b) = false) = (b = true)) ∧ (∀ (p : Prop) [Decidable p], (decide p = true) = p) ∧ (∀ (p : Prop) [Decidable p], (decide p = false) = ¬ p) ∧
    (∀ a b : Int, ((a == b) = true) = (a = b)) ∧ (∀ a b : Int, ((a == b) = false) = ¬ a = b) ∧ (∀ a b : Int, ((a != b) = true) = ¬ a = b) ∧ (∀ a b : Int, ((a != b) = false) = (a = b)) ∧ (∀ {α : Type} (a b : α), (a ≠ b) = ¬ a = b) := by
  simp
theorem st0 : (∀ {α : Type} (a : α) l, (a :: l).length = l.length + 1) ∧ (∀ {α : Type}, ([] : List α).length = 0) ∧ (∀ {α : Type} (a : α) n, List.replicate (n + 1) a = a :: List.replicate n a) ∧ (∀ {α : Type} (a : α), List.replicate 0 a = []) ∧ (∀ {α : Type} (b : α) l m, (b :: l) ++ m = b :: (l ++ m)) ∧ (∀ {α : Type} (m : List α), [] ++ m = m) :=
  ⟨fun _ _ => rfl, rfl, fun _ _ => rfl, fun _ => rfl, fun _ _ _ => rfl, fun _ => rfl⟩

abbrev PR := Int × Int
def prow (p : PR) : List V := [.int .i64 p.1, .int .i64 p.2]

def okP (lo : Int) (p : PR) : Bool := decide (lo < p.1 ∧ p.1 < 4096 ∧ -1099511627776 ≤ p.2 ∧ p.2 ≤ 1099511627776)
def chkFrom : Int → List PR → Bool
  | _, [] => true
  | lo, p :: r => okP lo p && chkFrom p.1 r
def chk (l : List PR) : Bool := chkFrom (-1) l
def pk (l : List PR) (i : Nat) : Int := if i = 0 then -1 else (l.getD (i - 1) (0, 0)).1

theorem pk_succ {l : List PR} {i : Nat} (h : i < l.length) : pk l (i + 1) = l[i].1 := by simp [pk, h]
theorem chk_step {l : List PR} {i : Nat} (h : i < l.length) (e : chk l = chkFrom (pk l i) (l.drop i)) : chk l = (okP (pk l i) l[i] && chkFrom (pk l (i + 1)) (l.drop (i + 1))) := by
  rw [e, List.drop_eq_getElem_cons h, chkFrom, pk_succ h]

def S38 (l : List PR) (i : Nat) : St := { fr := mkF 46 [(0, .sl true (l.map prow)), (5, .sl true (l.map prow)), (6, .int .i64 l.length), (7, .int .i64 i)], own := [], hp := [], al := [], nb := 0 }

set_option maxHeartbeats 4000000 in
theorem call_30 (l : List PR) (hlen : l.length ≤ 100000) : (Lim cfg).call 30 [.sl true (l.map prow)] [] = some (.bool (chk l), false, []) := by
  refine call_eq fn_30 rfl ?_
  rw [k_start]
  simp only [Try.f30, List.length_cons, List.length_nil, Nat.zero_add, Nat.reduceSub, List.replicate, List.cons_append, List.nil_append]
  simp only [go_sem, Nat.reduceAdd, Nat.reduceSub, Nat.reduceMul, Nat.reduceLT, Nat.reduceLeDiff, Nat.reduceEqDiff, Nat.reduceBEq, Nat.reduceBNe, reduceCtorEq, Int.reduceBNe, Int.reduceBEq, ty_22, ty_56, ty_3]
  refine k_loop (S38 l) (fun i => i ≤ l.length ∧ -1 ≤ pk l i ∧ chk l = chkFrom (pk l i) (l.drop i)) (fun i => l.length - i) 0 (K := cfg.kill 30 2) rfl ⟨Nat.zero_le _, Int.le_refl _, rfl⟩ (by kernel_rfl) ?_
  intro i ⟨hi, hpk, hc⟩ k' Q' hnorm hexit hret
  simp only [S38, mkF, List.foldl, List.replicate, List.set, List.cons_append, List.nil_append]
  simp only [go_sem, Nat.reduceAdd, Nat.reduceSub, Nat.reduceMul, Nat.reduceLT, Nat.reduceLeDiff, Nat.reduceEqDiff, Nat.reduceBEq, Nat.reduceBNe, reduceCtorEq, Int.reduceBNe, Int.reduceBEq, ty_22, ty_56, ty_3]
  by_cases hlt : i < l.length
  · have h1 : (i : Int) < (l.length : Int) := by omega
    have h2 : ¬ ((i : Int) < 0) := by omega
    have hx : (l.map prow)[i]? = some (prow l[i]) := by simp [hlt]
    have hs := chk_step hlt hc
    simp only [go_sem, Nat.reduceAdd, Nat.reduceSub, Nat.reduceMul, Nat.reduceLT, Nat.reduceLeDiff, Nat.reduceEqDiff, Nat.reduceBEq, Nat.reduceBNe, reduceCtorEq, Int.reduceBNe, Int.reduceBEq, ty_22, ty_56, ty_3, draw_30_4, h1, h2, hx, prow, Int.toNat_natCast]
    have fail : ∀ s : St, s.fr.getD 2 .any = .bool false → okP (pk l i) l[i] = false → WK cfg 30 none k' Q' .ret s := fun s h1 h2 => by
      refine hret _ ?_
      simp only [k_blk_ret, k_code_ret, k_nil]
      refine ret1n (fun _ => ex_ret) h1 rfl rfl ⟨?_, rfl, rfl⟩
      rw [hs, h2]; rfl
    have pass : ∀ s : St, okP (pk l i) l[i] = true → s.head (cfg.kill 30 2) = S38 l (i + 1) → WK cfg 30 none k' Q' .normal s := fun s h1 h2 => by
      refine hnorm (i + 1) s ⟨by omega, ?_, ?_⟩ (by omega) h2
      · rw [pk_succ hlt]
        simp only [okP, decide_eq_true_eq] at h1
        omega
      rw [hs, h1, Bool.true_and]
    refine WD_split (fun hb0 => ?_) (fun hb0 => ?_) <;> simp only [go_sem, Nat.reduceAdd, Nat.reduceSub, Nat.reduceMul, Nat.reduceLT, Nat.reduceLeDiff, Nat.reduceEqDiff, Nat.reduceBEq, Nat.reduceBNe, reduceCtorEq, Int.reduceBNe, Int.reduceBEq, ty_22, ty_56, ty_3, h1, h2, hx, hb0, prow]
    · refine fail _ rfl ?_
      simp only [decide_eq_true_eq] at hb0
      exact decide_eq_false (by omega)
    refine WD_split (fun hb1 => ?_) (fun hb1 => ?_) <;> simp only [go_sem, Nat.reduceAdd, Nat.reduceSub, Nat.reduceMul, Nat.reduceLT, Nat.reduceLeDiff, Nat.reduceEqDiff, Nat.reduceBEq, Nat.reduceBNe, reduceCtorEq, Int.reduceBNe, Int.reduceBEq, ty_22, ty_56, ty_3, h1, h2, hx, hb0, hb1, prow]
    · refine fail _ rfl ?_
      simp only [decide_eq_true_eq] at hb1
      exact decide_eq_false (by omega)
    refine WD_split (fun hb2 => ?_) (fun hb2 => ?_) <;> simp only [go_sem, Nat.reduceAdd, Nat.reduceSub, Nat.reduceMul, Nat.reduceLT, Nat.reduceLeDiff, Nat.reduceEqDiff, Nat.reduceBEq, Nat.reduceBNe, reduceCtorEq, Int.reduceBNe, Int.reduceBEq, ty_22, ty_56, ty_3, h1, h2, hx, hb0, hb1, hb2, prow]
    · refine fail _ rfl ?_
      simp only [decide_eq_true_eq] at hb2
      exact decide_eq_false (by omega)
    refine WD_split (fun hb3 => ?_) (fun hb3 => ?_) <;> simp only [go_sem, Nat.reduceAdd, Nat.reduceSub, Nat.reduceMul, Nat.reduceLT, Nat.reduceLeDiff, Nat.reduceEqDiff, Nat.reduceBEq, Nat.reduceBNe, reduceCtorEq, Int.reduceBNe, Int.reduceBEq, ty_22, ty_56, ty_3, h1, h2, hx, hb0, hb1, hb2, hb3, prow]
    · refine fail _ rfl ?_
      simp only [decide_eq_true_eq] at hb3
      exact decide_eq_false (by omega)
    simp only [decide_eq_true_eq, decide_eq_false_iff_not] at hb0 hb1 hb2 hb3
    by_cases hi0 : i = 0
    · subst hi0
      have h3 : ¬ (((0 : Nat) : Int) > 0) := by omega
      simp only [go_sem, Nat.reduceAdd, Nat.reduceSub, Nat.reduceMul, Nat.reduceLT, Nat.reduceLeDiff, Nat.reduceEqDiff, Nat.reduceBEq, Nat.reduceBNe, reduceCtorEq, Int.reduceBNe, Int.reduceBEq, ty_22, ty_56, ty_3, h3]
      rw [wrap_i64 (by omega) (by omega)]
      refine pass _ ?_ (by kernel_rfl)
      exact decide_eq_true (by simp only [pk, if_true]; omega)
    · have h3 : (i : Int) > 0 := by omega
      have h4 : ¬ ((i : Int) - 1 < 0) := by omega
      have h5 : ((i : Int) - 1).toNat = i - 1 := by omega
      have h6 : IntKind.i64.wrap ((i : Int) - 1) = (i : Int) - 1 := wrap_i64 (by omega) (by omega)
      have h7 : (l.map prow)[i - 1]? = some (prow l[i - 1]) := by simp [show i - 1 < l.length by omega]
      have h8 : pk l i = l[i - 1].1 := by simp [pk, hi0, show i - 1 < l.length by omega]
      simp only [go_sem, Nat.reduceAdd, Nat.reduceSub, Nat.reduceMul, Nat.reduceLT, Nat.reduceLeDiff, Nat.reduceEqDiff, Nat.reduceBEq, Nat.reduceBNe, reduceCtorEq, Int.reduceBNe, Int.reduceBEq, ty_22, ty_56, ty_3, h3, h4, h5, h6, h7, prow]
      refine WC_split (fun hb4 => ?_) (fun hb4 => ?_) <;> simp only [go_sem, Nat.reduceAdd, Nat.reduceSub, Nat.reduceMul, Nat.reduceLT, Nat.reduceLeDiff, Nat.reduceEqDiff, Nat.reduceBEq, Nat.reduceBNe, reduceCtorEq, Int.reduceBNe, Int.reduceBEq, ty_22, ty_56, ty_3]
      · refine fail _ rfl ?_
        simp only [decide_eq_true_eq] at hb4
        exact decide_eq_false (by omega)
      · rw [wrap_i64 (by omega) (by omega)]
        refine pass _ ?_ (by kernel_rfl)
        simp only [decide_eq_false_iff_not] at hb4
        exact decide_eq_true (by omega)
  · have h1 : ¬ (i : Int) < (l.length : Int) := by omega
    simp only [go_sem, Nat.reduceAdd, Nat.reduceSub, Nat.reduceMul, Nat.reduceLT, Nat.reduceLeDiff, Nat.reduceEqDiff, Nat.reduceBEq, Nat.reduceBNe, reduceCtorEq, Int.reduceBNe, Int.reduceBEq, h1]
    refine hexit 0 _ ?_
    simp only [go_sem, Nat.reduceAdd, Nat.reduceSub, Nat.reduceMul, Nat.reduceLT, Nat.reduceLeDiff, Nat.reduceEqDiff, Nat.reduceBEq, Nat.reduceBNe, reduceCtorEq, Int.reduceBNe, Int.reduceBEq]
    refine ret1n (fun _ => ex_ret) rfl rfl rfl ⟨?_, rfl, rfl⟩
    rw [hc, List.drop_of_length_le (by omega)]; rfl
end Go.Proofs.Ytlfjmmcodkdlfaa
set_option linter.all false
set_option maxRecDepth 100000
namespace Go.Proofs.Ytlfjmmcodkdlfaa
open Go Go.Abs

def S42 (l : List PR) (i : Nat) : St := { fr := mkF 56 [(0, .sl true (l.map prow)), (3, .int .i64 i)], own := [], hp := [], al := [], nb := 0 }

abbrev CR := Int × Bool
def crow (c : CR) : List V := [.int .i64 c.1, .bool c.2]
end Go.Proofs.Ytlfjmmcodkdlfaa
set_option linter.all false
set_option maxRecDepth 100000
namespace Go.Proofs.Ytlfjmmcodkdlfaa
open Go Go.Abs

theorem fit_prow (l : List PR) : rowsFit 2 (l.map prow) = true := by
  cases l <;> rfl
theorem head_prow (l : List PR) : headByte (l.map prow) = false := by
  cases l <;> rfl
theorem head_prow' (l : List PR) (r : List (List V)) (h : headByte r = false) : headByte (l.map prow ++ r) = false := by
  cases l <;> first | exact h | rfl
theorem take_prow {l : List PR} {i : Nat} (h : i < l.length) : (l.take i).map prow ++ [prow l[i]] = (l.take (i + 1)).map prow := by
  rw [List.take_succ_eq_append_getElem h, List.map_append]; rfl

def S15 (l : List PR) (i : Nat) : St := { fr := mkF 19 [(0, .sl true (l.map prow)), (3, .sl true ((l.take i).map prow)), (4, .int .i64 i)], own := [3], hp := [], al := [], nb := 0 }
end Go.Proofs.Ytlfjmmcodkdlfaa
set_option linter.all false
set_option maxRecDepth 100000
namespace Go.Proofs.Ytlfjmmcodkdlfaa
open Go Go.Abs

abbrev TR := Int × CR × CR
def trow (t : TR) : List V := [.int .i64 t.1, .int .i64 t.2.1.1, .bool t.2.1.2, .int .i64 t.2.2.1, .bool t.2.2.2]

theorem fit_trow (l : List TR) : rowsFit 5 (l.map trow) = true := by cases l <;> rfl
theorem head_trow (l : List TR) : headByte (l.map trow) = false := by cases l <;> rfl
theorem head_trow' (l : List TR) (r : List (List V)) (h : headByte r = false) : headByte (l.map trow ++ r) = false := by cases l <;> first | exact h | rfl
theorem take_trow {l : List TR} {i : Nat} (h : i < l.length) : (l.take i).map trow ++ [trow l[i]] = (l.take (i + 1)).map trow := by
  rw [List.take_succ_eq_append_getElem h, List.map_append]; rfl

def S17 (l : List TR) (i : Nat) : St := { fr := mkF 31 [(0, .sl true (l.map trow)), (3, .sl true ((l.take i).map trow)), (4, .int .i64 i)], own := [3], hp := [], al := [], nb := 0 }
theorem eq_turn {x y : TR} : (x.1 == y.1 && (x.2.1.1 == y.2.1.1 && x.2.1.2 == y.2.1.2 && (x.2.2.1 == y.2.2.1 && x.2.2.2 == y.2.2.2))) = decide (x = y) := by
  obtain ⟨a, ⟨b, c⟩, d, e⟩ := x
  obtain ⟨a', ⟨b', c'⟩, d', e'⟩ := y
  rw [Bool.eq_iff_iff]
  simp [and_assoc]

def S16 (a b : List TR) (i : Nat) : St := { fr := mkF 26 [(0, .sl true (a.map trow)), (1, .sl true (b.map trow)), (5, .int .i64 i)], own := [], hp := [], al := [], nb := 0 }
def getP : List PR → Int → CR
  | [], _ => (0, false)
  | p :: r, k => if p.1 = k then (p.2, true) else getP r k

end Go.Proofs.Ytlfjmmcodkdlfaa
set_option linter.all false
namespace Go.Proofs.Ytlfjmmcodkdlfaa
open Go Go.Abs
theorem ibeq_t {a b : Int} (h : a = b) : (a == b) = true := beq_iff_eq.2 h
theorem ibeq_f {a b : Int} (h : ¬ a = b) : (a == b) = false := beq_eq_false_iff_ne.2 h
theorem ibne_t {a b : Int} (h : ¬ a = b) : (a != b) = true := bne_iff_ne.2 h
theorem ibne_f {a b : Int} (h : a = b) : (a != b) = false := bne_eq_false_iff_eq.2 h
theorem tn_sub1 {i : Nat} : ((i : Int) - 1).toNat = i - 1 := by omega
theorem tn_add1 {i : Nat} : ((i : Int) + 1).toNat = i + 1 := by omega
theorem gx {α : Type} {l : List α} {i : Nat} (h : i < l.length) : l[i]? = some l[i] := List.getElem?_eq_getElem h
theorem head_prow2 (l : List PR) {x y : Int} : headByte (l.map prow ++ [[.int .i64 x, .int .i64 y]]) = false := head_prow' l _ rfl
theorem head_prow3 (l m : List PR) : headByte (l.map prow ++ m.map prow) = false := head_prow' l _ (head_prow m)
theorem str_add {x y : List UInt8} (h : x.length + y.length ≤ 140737488355328) : strOp .add x y = some (.str (x ++ y)) := by unfold strOp; exact if_pos h
theorem sm_unf : strMax = 140737488355328 := rfl
theorem retM {r1 r2 : ResultVar} {rs : List ResultVar} {e : Ex} {s : St} {R : V → Bool → List Blk → Prop} {vs : List V} (he : ∀ i, e ≠ .exit i) (hv : (r1 :: r2 :: rs).mapM (resOf cfg s) = some vs) (hl : V.lt 0 (.tup vs) = true) (h : R (.tup vs) false []) :
    Ret cfg (r1 :: r2 :: rs) 0 R e s := by
  refine ⟨he, .tup vs, false, by simp only [resultsV, hv, Option.map_some], ?_⟩
  simp only [hl, List.take_zero, List.all_nil, Bool.and_self, if_true, Bool.false_and]
  exact h
theorem reach_i1 {hp : List Blk} {k : IntKind} {x : Int} : reach hp [.int k x] = [] := reach_pure rfl
theorem reach_i2 {hp : List Blk} {k k2 : IntKind} {x y : Int} : reach hp [.int k x, .int k2 y] = [] := reach_pure rfl
theorem reach_s1 {hp : List Blk} {x : List (List V)} : reach hp [.sl true x] = [] := reach_pure rfl
theorem reach_si {hp : List Blk} {x : List (List V)} {k : IntKind} {y : Int} : reach hp [.sl true x, .int k y] = [] := reach_pure rfl
theorem reach_ss {hp : List Blk} {x y : List (List V)} : reach hp [.sl true x, .sl true y] = [] := reach_pure rfl
end Go.Proofs.Ytlfjmmcodkdlfaa
