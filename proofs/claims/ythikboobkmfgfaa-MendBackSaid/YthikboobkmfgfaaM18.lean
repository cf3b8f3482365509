/- The next ask may be, and the turns may be: plain. -/
import Derived.Test.YthikboobkmfgfaaM12
set_option linter.all false
set_option maxRecDepth 100000
namespace Go.Proofs.Ythikboobkmfgfaa
open Go Go.Abs

theorem askFrom_lt {sz : Int} : ∀ {L : List Int} {lo : Int}, askFrom sz lo L = true → (∀ n ∈ L, lo < n) ∧ L.Pairwise (· < ·)
  | [], _, _ => ⟨by simp, List.Pairwise.nil⟩
  | x :: r, lo, h => by
    simp only [askFrom, Bool.and_eq_true, decide_eq_true_eq] at h
    obtain ⟨h1, h2⟩ := askFrom_lt h.2
    refine ⟨fun n hn => ?_, List.Pairwise.cons h1 h2⟩
    rcases List.mem_cons.1 hn with rfl | hn
    · exact h.1.1
    · have := h1 n hn; omega
theorem askFrom_len {sz : Int} : ∀ {L : List Int} {lo : Int}, lo < sz → askFrom sz lo L = true → lo + L.length < sz
  | [], lo, hl, _ => by simpa using hl
  | x :: r, lo, hl, h => by
    simp only [askFrom, Bool.and_eq_true, decide_eq_true_eq] at h
    have := askFrom_len h.1.2.2 h.2
    rw [List.length_cons]
    omega
theorem ask_len {lv : Int} {L : List Int} (h : askOk lv L = true) : (L.length : Int) ≤ sizeZ lv := by
  simp only [askOk, Bool.and_eq_true] at h
  have hs : -1 < sizeZ lv := by
    unfold sizeZ
    split
    · omega
    · split
      · omega
      · split <;> omega
  have := askFrom_len hs h.2.2
  omega
theorem askFrom_snoc {sz x : Int} : ∀ {A : List Int} {lo : Int}, askFrom sz lo A = true → (∀ y ∈ A, y < x) → lo < x → 0 ≤ x → x < sz → askFrom sz lo (A ++ [x]) = true
  | [], lo, _, _, h1, h2, h3 => by
    show (decide (lo < x ∧ 0 ≤ x ∧ x < sz) && true) = true
    rw [decide_eq_true ⟨h1, h2, h3⟩]; rfl
  | y :: r, lo, h, hA, h1, h2, h3 => by
    simp only [askFrom, Bool.and_eq_true] at h
    show (decide (lo < y ∧ 0 ≤ y ∧ y < sz) && askFrom sz y (r ++ [x])) = true
    rw [h.1, Bool.true_and]
    exact askFrom_snoc h.2 (fun z hz => hA z (by simp [hz])) (hA y (by simp)) h2 h3
/-- The kid of a place. -/
def kidE (L : List Int) (i : Nat) : Int := 16 * L.getD (i / 16) 0 + ((i % 16 : Nat) : Int)
theorem kidE_lt {sz : Int} {L : List Int} (h : askFrom sz (-1) L = true) {i j : Nat} (hij : i < j) (hj : j < 16 * L.length) : kidE L i < kidE L j := by
  have hp := (askFrom_lt h).2
  have hi2 : i / 16 < L.length := by omega
  have hj2 : j / 16 < L.length := by omega
  have e1 : L.getD (i / 16) 0 = L[i / 16] := by rw [List.getD_eq_getElem?_getD, List.getElem?_eq_getElem hi2]; rfl
  have e2 : L.getD (j / 16) 0 = L[j / 16] := by rw [List.getD_eq_getElem?_getD, List.getElem?_eq_getElem hj2]; rfl
  unfold kidE
  by_cases hc : i / 16 = j / 16
  · rw [hc]; omega
  · have := List.pairwise_iff_getElem.1 hp (i / 16) (j / 16) hi2 hj2 (by omega)
    rw [e1, e2]; omega
theorem kidE_rng {sz : Int} {L : List Int} (h : askFrom sz (-1) L = true) {i : Nat} (hi : i < 16 * L.length) : 0 ≤ kidE L i ∧ kidE L i < 16 * sz := by
  have hi2 : i / 16 < L.length := by omega
  have e1 : L.getD (i / 16) 0 = L[i / 16] := by rw [List.getD_eq_getElem?_getD, List.getElem?_eq_getElem hi2]; rfl
  have := askFrom_mem h L[i / 16] (List.getElem_mem hi2)
  unfold kidE
  rw [e1]; omega
theorem nextF_ok {sz : Int} {L : List Int} {M K : List Nat} (h : askFrom sz (-1) L = true) : ∀ i, i ≤ 16 * L.length → askFrom (16 * sz) (-1) (nextF L M K i) = true ∧ ∀ y ∈ nextF L M K i, ∃ j, j < i ∧ y = kidE L j
  | 0, _ => ⟨rfl, fun y hy => by cases hy⟩
  | i + 1, hi => by
    obtain ⟨h1, h2⟩ := nextF_ok h i (by omega)
    rw [nextF]
    split
    · exact ⟨h1, fun y hy => by obtain ⟨j, hj, e⟩ := h2 y hy; exact ⟨j, by omega, e⟩⟩
    · obtain ⟨r1, r2⟩ := kidE_rng h (i := i) (by omega)
      refine ⟨askFrom_snoc h1 (fun y hy => ?_) (show -1 < kidE L i by omega) r1 r2, fun y hy => ?_⟩
      · obtain ⟨j, hj, rfl⟩ := h2 y hy
        exact kidE_lt h hj (by omega)
      · rcases List.mem_append.1 hy with hy | hy
        · obtain ⟨j, hj, e⟩ := h2 y hy; exact ⟨j, by omega, e⟩
        · exact ⟨i, by omega, by rw [List.mem_singleton] at hy; exact hy⟩
theorem size_next {lv : Int} (h1 : 0 ≤ lv) (h2 : lv ≤ 2) : sizeZ (lv - 1) = 16 * sizeZ lv := by
  have hc : lv = 0 ∨ lv = 1 ∨ lv = 2 := by omega
  rcases hc with rfl | rfl | rfl <;> decide
/-- The next ask may be, if there is one. -/
theorem next_ok {lv : Int} {L : List Int} {M K : List Nat} (h1 : 0 ≤ lv) (h : askOk lv L = true) (hK : K.length = 16 * L.length) (hne : nextT L M K ≠ []) : askOk (lv - 1) (nextT L M K) = true := by
  obtain ⟨_, h2, _, _⟩ := askOk_inv h
  simp only [askOk, Bool.and_eq_true] at h
  have := (nextF_ok (M := M) (K := K) h.2.2 K.length (by omega)).1
  rw [askOk, decide_eq_true (show -1 ≤ lv - 1 ∧ lv - 1 ≤ 2 by omega), size_next h1 h2, Bool.true_and]
  rw [show askFrom (16 * sizeZ lv) (-1) (nextT L M K) = true from this, Bool.and_true]
  cases hn : nextT L M K with
  | nil => exact absurd hn hne
  | cons x r => rfl
theorem turnsT_app (T : TV) : ∀ (L : List Int) (C : List CR) (l : List TR), turnsT T L C l = l ++ turnsT T L C []
  | [], C, l => by cases C <;> simp [turnsT]
  | k :: L, [], l => by simp [turnsT]
  | k :: L, c :: C, l => by
    rw [turnsT, turnsT]
    split
    · exact turnsT_app T L C l
    · rw [turnsT_app T L C (l ++ _), turnsT_app T L C ([] ++ _), List.append_assoc]; rfl
theorem chkT_mono {lo lo' : Int} {l : List TR} (h : chkTFrom lo l = true) (hl : lo' ≤ lo) : chkTFrom lo' l = true := by
  cases l with
  | nil => rfl
  | cons p r =>
    simp only [chkTFrom, okT, Bool.and_eq_true, decide_eq_true_eq] at h ⊢
    exact ⟨⟨by omega, h.1.2⟩, h.2⟩
theorem turns_ok {T : TV} (hT : ∀ k, okC (getT T k) = true) {sz : Int} (hsz : sz ≤ 4096) : ∀ {L : List Int} {C : List CR} {lo : Int}, askFrom sz lo L = true → C.all okC = true → chkTFrom lo (turnsT T L C []) = true
  | [], C, lo, _, _ => by cases C <;> rfl
  | k :: L, [], lo, _, _ => rfl
  | k :: L, c :: C, lo, h, hC => by
    simp only [askFrom, Bool.and_eq_true, decide_eq_true_eq] at h
    simp only [List.all_cons, Bool.and_eq_true] at hC
    have ih := turns_ok hT hsz h.2 hC.2
    rw [turnsT]
    split
    · exact chkT_mono ih (by omega)
    · rename_i hne
      rw [turnsT_app]
      show (okT lo (k, getT T k, c) && chkTFrom k (turnsT T L C [])) = true
      rw [ih, Bool.and_true]
      exact decide_eq_true ⟨h.1.1, by show k < 4096; omega, hT k, hC.1, hne⟩
/-- All cells of a table's tree may be. -/
theorem okC_set {l : List CR} (h : ∀ c ∈ l, okC c = true) {i : Nat} {c : CR} (hc : okC c = true) : ∀ d ∈ l.set i c, okC d = true := fun d hd => by
  rcases List.mem_or_eq_of_mem_set hd with hd | rfl
  · exact h d hd
  · exact hc
theorem puts_okC : ∀ (l : List PR) {T : TV} {lo : Int}, chkFrom lo l = true → (∀ c ∈ T.cells, okC c = true) → ∀ c ∈ (putsT T l).cells, okC c = true
  | [], _, _, _, h => h
  | p :: l, T, lo, hl, h => by
    simp only [chkFrom, Bool.and_eq_true, okP, decide_eq_true_eq] at hl
    refine puts_okC l (T := putT T p.1.toNat (p.2, true)) hl.2 ?_
    exact okC_set h (decide_eq_true ⟨hl.1.2.2.1, hl.1.2.2.2⟩)
theorem get_okC {T : TV} (h : ∀ c ∈ T.cells, okC c = true) (k : Int) : okC (getT T k) = true := by
  unfold getT
  split
  · rw [List.getD_eq_getElem?_getD]
    cases hk : T.cells[k.toNat]? with
    | none => rfl
    | some c => exact h c (List.mem_of_getElem? hk)
  · rfl
end Go.Proofs.Ythikboobkmfgfaa
