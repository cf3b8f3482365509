/- The worked example's numbers: plain. -/
import Derived.Test.YthikboobkmfgfaaM12
set_option linter.all false
set_option maxRecDepth 100000
namespace Go.Proofs.Ythikboobkmfgfaa
open Go Go.Abs

theorem n_seven : numberN (7, true) = 1863750990 := by kernel_rfl
theorem n_eight : numberN (8, true) = 4289300703 := by kernel_rfl
theorem e_zero : overN (List.replicate 16 0) = 1972200246 := by kernel_rfl
theorem e_one : overN (List.replicate 16 1972200246) = 1470018986 := by kernel_rfl
theorem l_seven : overN ([0, 0, 0, 0, 0, 1863750990] ++ List.replicate 10 0) = 1198770446 := by kernel_rfl
theorem l_eight : overN ([0, 0, 0, 0, 0, 4289300703] ++ List.replicate 10 0) = 848277137 := by kernel_rfl
theorem m_seven : overN (1198770446 :: List.replicate 15 1972200246) = 2069141633 := by kernel_rfl
theorem m_eight : overN (848277137 :: List.replicate 15 1972200246) = 2248772490 := by kernel_rfl
theorem set_mid_rep {a : Nat} {n i : Nat} (h : i < n) : (List.replicate i a ++ List.replicate (n - i) 0).set i a = List.replicate (i + 1) a ++ List.replicate (n - (i + 1)) 0 := by
  rw [List.set_append_right _ _ (by simp), List.length_replicate, Nat.sub_self, show n - i = (n - (i + 1)) + 1 by omega, List.replicate_succ, List.set_cons_zero, List.replicate_succ', List.append_assoc]; rfl
theorem row_rep {n : Nat} {a : Nat} (h : 16 ≤ n) : row16 (List.replicate n a) 0 = List.replicate 16 a := by
  rw [row16, List.drop_zero, List.take_replicate, Nat.min_eq_left h]
theorem emL_is : ∀ i, i ≤ 256 → (emL i).cells = zeroT.cells ∧ (emL i).leaf = List.replicate 4096 0 ∧ (emL i).mid = List.replicate 16 0 ∧ (emL i).low = List.replicate i 1972200246 ++ List.replicate (256 - i) 0
  | 0, _ => ⟨rfl, rfl, rfl, rfl⟩
  | i + 1, hi => by
    obtain ⟨h1, h2, h3, h4⟩ := emL_is i (by omega)
    refine ⟨h1, h2, h3, ?_⟩
    show (emL i).low.set i (overN (row16 (emL i).leaf 0)) = _
    rw [h2, row_rep (by omega), e_zero, h4, set_mid_rep (by omega)]
theorem emM_is : ∀ i, i ≤ 16 → (emM i).cells = zeroT.cells ∧ (emM i).leaf = List.replicate 4096 0 ∧ (emM i).low = List.replicate 256 1972200246 ∧ (emM i).mid = List.replicate i 1470018986 ++ List.replicate (16 - i) 0
  | 0, _ => by
    obtain ⟨h1, h2, h3, h4⟩ := emL_is 256 (Nat.le_refl _)
    exact ⟨h1, h2, h4.trans (by simp), h3⟩
  | i + 1, hi => by
    obtain ⟨h1, h2, h3, h4⟩ := emM_is i (by omega)
    refine ⟨h1, h2, h3, ?_⟩
    show (emM i).mid.set i (overN (row16 (emM i).low 0)) = _
    rw [h3, row_rep (by omega), e_one, h4, set_mid_rep (by omega)]
theorem upR_is (X : TV) : (upR X).cells = X.cells ∧ (upR X).leaf = X.leaf ∧ (upR X).low = X.low ∧ (upR X).mid = X.mid := ⟨rfl, rfl, rfl, rfl⟩
theorem empty_is : emptyT.cells = zeroT.cells ∧ emptyT.leaf = List.replicate 4096 0 ∧ emptyT.low = List.replicate 256 1972200246 ∧ emptyT.mid = List.replicate 16 1470018986 := by
  obtain ⟨h1, h2, h3, h4⟩ := emM_is 16 (Nat.le_refl _)
  obtain ⟨a1, a2, a3, a4⟩ := upR_is (emM 16)
  rw [emptyT, a1, a2, a3, a4, h4]
  exact ⟨h1, h2, h3, by simp⟩
/-- Of one pair. -/
theorem one_is (E : TV) (v : Int) : (putsT E [(5, v)]).cells = E.cells.set 5 (v, true) ∧ (putsT E [(5, v)]).leaf = E.leaf.set 5 (numberN (v, true)) ∧ (putsT E [(5, v)]).low = E.low.set 0 (overN (row16 (E.leaf.set 5 (numberN (v, true))) 0)) ∧
    (putsT E [(5, v)]).mid = E.mid.set 0 (overN (row16 (E.low.set 0 (overN (row16 (E.leaf.set 5 (numberN (v, true))) 0))) 0)) := by
  refine ⟨rfl, rfl, ?_, ?_⟩ <;> simp only [putsT, List.foldl, putT, upT, upR, upM, upL, show Int.toNat 5 = 5 from rfl, Nat.reduceDiv]
theorem r_leaf (n : Nat) : row16 ((List.replicate 4096 0).set 5 n) 0 = [0, 0, 0, 0, 0, n] ++ List.replicate 10 0 := by kernel_rfl
theorem r_low (n a : Nat) : row16 ((List.replicate 256 a).set 0 n) 0 = n :: List.replicate 15 a := by kernel_rfl
theorem r_mid (n a : Nat) : row16 ((List.replicate 16 a).set 0 n) 0 = n :: List.replicate 15 a := by kernel_rfl
theorem kids_one (T : TV) (lv : Int) : kidsT T lv [0] = row16 (lvlT T lv) 0 := by
  show row16 (lvlT T lv) 0 ++ [] = _
  rw [List.append_nil]
theorem seven_is : kidsT (newT [(5, 7)]) 2 [0] = 2069141633 :: List.replicate 15 1470018986 ∧ kidsT (newT [(5, 7)]) 1 [0] = 1198770446 :: List.replicate 15 1972200246 ∧ kidsT (newT [(5, 7)]) 0 [0] = [0, 0, 0, 0, 0, 1863750990] ++ List.replicate 10 0 ∧ getT (newT [(5, 7)]) 5 = (7, true) := by
  obtain ⟨h1, h2, h3, h4⟩ := empty_is
  obtain ⟨g1, g2, g3, g4⟩ := one_is emptyT 7
  rw [h1] at g1
  rw [h2, n_seven] at g2
  rw [h2, h3, n_seven, r_leaf, l_seven] at g3
  rw [h2, h3, h4, n_seven, r_leaf, l_seven, r_low, m_seven] at g4
  refine ⟨?_, ?_, ?_, ?_⟩
  · rw [kids_one]; show row16 (putsT emptyT [(5, 7)]).mid 0 = _; rw [g4, r_mid]
  · rw [kids_one]; show row16 (putsT emptyT [(5, 7)]).low 0 = _; rw [g3, r_low]
  · rw [kids_one]; show row16 (putsT emptyT [(5, 7)]).leaf 0 = _; rw [g2, r_leaf]
  · rw [getT, if_pos (by decide)]; show (putsT emptyT [(5, 7)]).cells.getD 5 _ = _; rw [g1]; rfl
theorem eight_is : kidsT (newT [(5, 8)]) 2 [0] = 2248772490 :: List.replicate 15 1470018986 ∧ kidsT (newT [(5, 8)]) 1 [0] = 848277137 :: List.replicate 15 1972200246 ∧ kidsT (newT [(5, 8)]) 0 [0] = [0, 0, 0, 0, 0, 4289300703] ++ List.replicate 10 0 ∧ getT (newT [(5, 8)]) 5 = (8, true) := by
  obtain ⟨h1, h2, h3, h4⟩ := empty_is
  obtain ⟨g1, g2, g3, g4⟩ := one_is emptyT 8
  rw [h1] at g1
  rw [h2, n_eight] at g2
  rw [h2, h3, n_eight, r_leaf, l_eight] at g3
  rw [h2, h3, h4, n_eight, r_leaf, l_eight, r_low, m_eight] at g4
  refine ⟨?_, ?_, ?_, ?_⟩
  · rw [kids_one]; show row16 (putsT emptyT [(5, 8)]).mid 0 = _; rw [g4, r_mid]
  · rw [kids_one]; show row16 (putsT emptyT [(5, 8)]).low 0 = _; rw [g3, r_low]
  · rw [kids_one]; show row16 (putsT emptyT [(5, 8)]).leaf 0 = _; rw [g2, r_leaf]
  · rw [getT, if_pos (by decide)]; show (putsT emptyT [(5, 8)]).cells.getD 5 _ = _; rw [g1]; rfl
/-- What the example's mender asks for. -/
theorem ex_next : nextT [0] (kidsT (newT [(5, 7)]) 2 [0]) (kidsT (newT [(5, 8)]) 2 [0]) = [0] ∧ nextT [0] (kidsT (newT [(5, 7)]) 1 [0]) (kidsT (newT [(5, 8)]) 1 [0]) = [0] ∧ nextT [0] (kidsT (newT [(5, 7)]) 0 [0]) (kidsT (newT [(5, 8)]) 0 [0]) = [5] := by
  obtain ⟨a1, a2, a3, _⟩ := seven_is
  obtain ⟨b1, b2, b3, _⟩ := eight_is
  rw [a1, a2, a3, b1, b2, b3]
  exact ⟨by kernel_rfl, by kernel_rfl, by kernel_rfl⟩
end Go.Proofs.Ythikboobkmfgfaa
