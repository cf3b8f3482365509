/- What is written of asks and of what is told is read as it was: plain. -/
import Derived.Test.YthikboobkmfgfaaM35
set_option linter.all false
set_option maxRecDepth 100000
namespace Go.Proofs.Ythikboobkmfgfaa
open Go Go.Abs

theorem readL_gaps {sz : Int} (hs : sz ≤ 4096) : ∀ (L : List Int) (lo : Int) (acc : List Int), -1 ≤ lo → askFrom sz lo L = true → readL L.length (gapsS lo L) 0 lo acc = acc ++ L
  | [], lo, acc, _, _ => by simp [readL]
  | n :: r, lo, acc, hlo, h => by
    simp only [askFrom, Bool.and_eq_true, decide_eq_true_eq] at h
    obtain ⟨⟨h1, h2, h3⟩, h4⟩ := h
    obtain ⟨q1, q2⟩ := read_numS (z := n - lo - 1) (by omega) (by omega) (gapsS n r)
    rw [List.length_cons, gapsS, readL, if_pos rfl, q1, q2]
    have e : lo + 1 + min (((n - lo - 1).toNat : Nat) : Int) 4096 = n := by omega
    rw [e, readL_gaps hs r n _ (by omega) h4, List.append_assoc]; rfl
theorem read_ask {lv : Int} {L : List Int} (h : askOk lv L = true) : rdA (askS lv L) = (lv, L, 0) := by
  obtain ⟨h1, h2, _, _⟩ := askOk_inv h
  have hl := ask_len h
  have hs := sizeZ_le lv
  have hh := headA_len lv (m := L.length) (by omega)
  have e : askS lv L = wholeS lv ++ (numS L.length ++ gapsS (-1) L) := by rw [askS, if_pos h, headA, List.append_assoc]
  obtain ⟨q1, q2⟩ := read_wholeS (may_small (z := lv) (by omega) (by omega)) (numS L.length ++ gapsS (-1) L)
  obtain ⟨q3, q4⟩ := read_numS (z := (L.length : Int)) (by omega) (by omega) (gapsS (-1) L)
  have hr : rawA (askS lv L) = (lv, L) := by
    rw [e, rawA, q1, q2, listA, q3, q4]
    have hf := h
    simp only [askOk, Bool.and_eq_true] at hf
    rw [show min ((L.length : Int)).toNat 4097 = L.length by omega, readL_gaps hs L (-1) [] (Int.le_refl _) hf.2.2]; rfl
  have hne : askS lv L ≠ [] := by
    intro h0
    have := congrArg List.length h0
    rw [askS, if_pos h, List.length_append, List.length_nil] at this
    omega
  rw [rdA, hr, if_pos ⟨hne, rfl⟩]
theorem ask_ne {lv : Int} {L : List Int} (h : askS lv L ≠ []) : askOk lv L = true := by
  unfold askS at h
  split at h
  · assumption
  · exact absurd rfl h
theorem flR_flag (b : Bool) (r : List UInt8) : flR (flagS b ++ r) 0 = (b, r, 0) := by cases b <;> rfl
theorem readC_cells : ∀ (C : List CR), C.all okC = true → readC C.length (cellsS C) 0 = C
  | [], _ => rfl
  | c :: r, h => by
    rw [List.all_cons, Bool.and_eq_true] at h
    have ih := readC_cells r h.2
    obtain ⟨v, b⟩ := c
    rw [List.length_cons, readC, cellsS, cellS, List.append_assoc]
    have hf := flR_flag b ((if b = true then wholeS v else []) ++ cellsS r)
    unfold clR
    simp only [hf]
    cases b with
    | false =>
      have hv : v = 0 := of_decide_eq_true h.1
      simp only [Bool.false_eq_true, if_false, List.nil_append]
      rw [ih, hv]
    | true =>
      have hv : -1099511627776 ≤ v ∧ v ≤ 1099511627776 := of_decide_eq_true h.1
      obtain ⟨q1, q2⟩ := read_wholeS (may_small (z := v) (by omega) (by omega)) (cellsS r)
      simp only [if_true, q1, q2]
      rw [ih]
theorem numK_kid {k : Nat} (h : k < 4294967296) : numK (kidB k 0) (kidB k 1) (kidB k 2) (kidB k 3) = k := by
  unfold numK
  rw [kidB_nat, kidB_nat, kidB_nat, kidB_nat]
  have e0 : 2 ^ (8 * (3 - 0)) = 16777216 := by decide
  have e1 : 2 ^ (8 * (3 - 1)) = 65536 := by decide
  have e2 : 2 ^ (8 * (3 - 2)) = 256 := by decide
  have e3 : 2 ^ (8 * (3 - 3)) = 1 := by decide
  rw [e0, e1, e2, e3]
  omega
theorem readK_kids : ∀ (K : List Nat), (∀ k ∈ K, k < 4294967296) → readK (kidsS K) = K
  | [], _ => rfl
  | k :: r, h => by
    rw [kidsS]
    show readK (kidB k 0 :: kidB k 1 :: kidB k 2 :: kidB k 3 :: kidsS r) = _
    rw [readK, numK_kid (h k (by simp)), readK_kids r fun x hx => h x (by simp [hx])]
theorem told_ne {lv : Int} {L : List Int} {K : List Nat} {C : List CR} (h : toldS lv L K C ≠ []) : wholeT lv L K C = true := by
  unfold toldS at h
  split at h
  · assumption
  · exact absurd rfl h
theorem read_told {lv : Int} {L : List Int} {K : List Nat} {C : List CR} (h : wholeT lv L K C = true) (hL : L.length ≤ 100000) (hK : ∀ k ∈ K, k < 4294967296) : rdT (toldS lv L K C) = ((lv, L, K, C), 0) := by
  have hw := h
  simp only [wholeT, Bool.and_eq_true] at hw
  obtain ⟨h1, h2, h3⟩ := hw
  have la := askS_len (lv := lv) hL
  have e : toldS lv L K C = numS (askS lv L).length ++ (askS lv L ++ (kidsS K ++ cellsS C)) := by rw [toldS, if_pos h, headT, textS]; simp only [List.append_assoc]
  obtain ⟨q1, q2⟩ := read_numS (z := ((askS lv L).length : Int)) (by omega) (by omega) (askS lv L ++ (kidsS K ++ cellsS C))
  have ht : txR (toldS lv L K C) 0 (toldS lv L K C).length = (askS lv L, kidsS K ++ cellsS C, 0) := by
    have hl : (askS lv L).length ≤ (toldS lv L K C).length := by rw [e]; simp only [List.length_append]; omega
    generalize hn : ((toldS lv L K C).length : Int) = n
    rw [e, txR, q1, q2]
    simp only
    rw [if_neg (by simp), if_neg (by rw [← hn]; omega), if_neg (by simp only [List.length_append]; omega), Int.toNat_natCast, List.take_left, List.drop_left]
  have hb : bodyT lv L (kidsS K ++ cellsS C) 0 = (K, C) := by
    unfold bodyT
    by_cases hv : lv = -1
    · rw [if_pos hv] at h3 ⊢
      have h4 := of_decide_eq_true h3
      rw [List.length_eq_zero_iff] at h4
      rw [h4.1, ← h4.2]
      show (([] : List Nat), readC C.length (cellsS C) 0) = _
      rw [readC_cells C h2]
    · rw [if_neg hv] at h3 ⊢
      have h4 := of_decide_eq_true h3
      rw [List.length_eq_zero_iff] at h4
      rw [h4.1]
      have lk := kidsS_len K
      rw [show kidsS K ++ cellsS [] = kidsS K from List.append_nil _, if_pos (by omega), readK_kids K hK]
  unfold rdT
  simp only [ht, read_ask h1, hb, if_pos]
theorem gaps_few {lv : Int} {L : List Int} (h : L.length ≤ 1000) : (askS lv L).length ≤ 10000 := by
  unfold askS
  split
  · rename_i hok
    have h1 := headA_len lv (m := L.length) (by omega)
    have h2 := gaps_len hok 0
    have e : pkI L 0 = -1 := rfl
    rw [e, List.drop_zero] at h2
    rw [List.length_append]; omega
  · simp
theorem told_short {lv : Int} {L : List Int} {K : List Nat} {C : List CR} (hw : wholeT lv L K C = true) (hL : L.length ≤ 1000) (hK : K.length ≤ 1000) (hC : C.length ≤ 1000) : (toldS lv L K C).length ≤ 100000 := by
  have h1 := gaps_few (lv := lv) hL
  have h2 := numS_len (z := (askS lv L).length) (by omega)
  have h3 := kidsS_len K
  have h4 := cellsS_len C
  rw [toldS, if_pos hw, headT, textS]
  simp only [List.length_append]; omega
/-- What was read is written as those bytes. -/
theorem rdA_back {s : List UInt8} (h : (rdA s).2.2 = 0) : askS (rdA s).1 (rdA s).2.1 = s := by
  unfold rdA at h ⊢
  split
  · rename_i q; exact q.2
  · rename_i q; rw [if_neg q] at h; exact absurd h (by decide)
theorem rdT_back {s : List UInt8} (h : (rdT s).2 = 0) : toldS (rdT s).1.1 (rdT s).1.2.1 (rdT s).1.2.2.1 (rdT s).1.2.2.2 = s := by
  unfold rdT at h ⊢
  simp only at h ⊢
  split
  · rename_i q
    rw [if_pos q] at h
    split
    · assumption
    · rename_i q2; rw [if_neg q2] at h; exact absurd h (by decide)
  · rename_i q; rw [if_neg q] at h; exact absurd h (by decide)
end Go.Proofs.Ythikboobkmfgfaa
