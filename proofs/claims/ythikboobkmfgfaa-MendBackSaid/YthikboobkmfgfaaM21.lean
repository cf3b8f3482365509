/- The bytes of asks, and what bytes say: plain. -/
import Derived.Test.YthikboobkmfgfaaM17
import Derived.Test.YthikboobkmfgfaaM18
import Derived.Test.YthikboobkmfgfaaG4
set_option linter.all false
set_option maxRecDepth 100000
namespace Go.Proofs.Ythikboobkmfgfaa
open Go Go.Abs

/-- The gaps between numbers that rise. -/
def gapsS : Int → List Int → List UInt8
  | _, [] => []
  | lo, n :: r => numS (n - lo - 1) ++ gapsS n r
def headA (lv : Int) (m : Nat) : List UInt8 := wholeS lv ++ numS m
def askS (lv : Int) (L : List Int) : List UInt8 := if askOk lv L = true then headA lv L.length ++ gapsS (-1) L else []
theorem gaps_step {L : List Int} {i : Nat} (h : i < L.length) : gapsS (pkI L i) (L.drop i) = numS (L[i] - pkI L i - 1) ++ gapsS (pkI L (i + 1)) (L.drop (i + 1)) := by
  rw [List.drop_eq_getElem_cons h, gapsS, pkI_succ h]
theorem headA_len (lv : Int) {m : Nat} (h : m ≤ 100000) : (headA lv m).length ≤ 18 ∧ 0 < (headA lv m).length := by
  have h1 := wholeS_len lv
  have h2 := numS_len (z := m) (by omega)
  have h3 := numS_pos (z := m) (by omega)
  rw [headA, List.length_append]; omega
/-- Below a size, rising. -/
theorem ask_rise {lv : Int} {L : List Int} (h : askOk lv L = true) {i : Nat} (hi : i < L.length) : -1 ≤ pkI L i ∧ pkI L i < L[i] ∧ L[i] < 4096 := by
  obtain ⟨h1, h2, h3, h4⟩ := askOk_inv h
  simp only [askOk, Bool.and_eq_true] at h
  obtain ⟨q1, q2⟩ := askFrom_lt h.2.2
  have hs : sizeZ lv ≤ 4096 := by unfold sizeZ; split <;> (try split) <;> (try split) <;> omega
  have m1 := h4 _ (List.getElem_mem hi)
  refine ⟨?_, ?_, by omega⟩
  · unfold pkI; split
    · omega
    · have := h4 _ (List.getElem_mem (show i - 1 < L.length by omega))
      rw [List.getD_eq_getElem?_getD, List.getElem?_eq_getElem (by omega)]
      show -1 ≤ L[i - 1]
      omega
  · unfold pkI; split
    · omega
    · rw [List.getD_eq_getElem?_getD, List.getElem?_eq_getElem (by omega)]
      exact List.pairwise_iff_getElem.1 q2 _ _ _ _ (by omega)
theorem gaps_len {lv : Int} {L : List Int} (h : askOk lv L = true) : ∀ i, (gapsS (pkI L i) (L.drop i)).length ≤ 9 * (L.length - i) := by
  intro i
  by_cases hi : i < L.length
  · have hr := ask_rise h hi
    have hn := numS_len (z := L[i] - pkI L i - 1) (by omega)
    have ih := gaps_len h (i + 1)
    rw [gaps_step hi, List.length_append]
    omega
  · rw [List.drop_of_length_le (by omega)]; simp [gapsS]
termination_by i => L.length - i
theorem askS_len {lv : Int} {L : List Int} (h : L.length ≤ 100000) : (askS lv L).length ≤ 1000000 := by
  unfold askS
  split
  · rename_i hok
    have h1 := headA_len lv h
    have h2 := gaps_len hok 0
    have e : pkI L 0 = -1 := rfl
    rw [e, List.drop_zero] at h2
    rw [List.length_append]; omega
  · simp
/-- Numbers, read one by one. -/
def readL : Nat → List UInt8 → Int → Int → List Int → List Int
  | 0, _, _, _, acc => acc
  | k + 1, s, e, lo, acc => if e = 0 then readL k (stR s e).1 (stR s e).2 (lo + 1 + min (numN s e : Int) 4096) (acc ++ [lo + 1 + min (numN s e : Int) 4096]) else acc
theorem readL_bad {s : List UInt8} {e lo : Int} {acc : List Int} (h : e ≠ 0) : ∀ k, readL k s e lo acc = acc
  | 0 => rfl
  | k + 1 => by rw [readL, if_neg h]
theorem readL_len : ∀ (k : Nat) (s : List UInt8) (e lo : Int) (acc : List Int), (readL k s e lo acc).length ≤ acc.length + k
  | 0, _, _, _, _ => Nat.le_refl _
  | k + 1, s, e, lo, acc => by
    rw [readL]
    split
    · have := readL_len k (stR s e).1 (stR s e).2 (lo + 1 + min (numN s e : Int) 4096) (acc ++ [lo + 1 + min (numN s e : Int) 4096])
      rw [List.length_append, List.length_singleton] at this
      omega
    · omega
/-- What stands behind a level. -/
def listA (s : List UInt8) (e : Int) : List Int := readL (min (numN s e) 4097) (stR s e).1 (stR s e).2 (-1) []
theorem listA_len (s : List UInt8) (e : Int) : (listA s e).length ≤ 4097 := by
  have := readL_len (min (numN s e) 4097) (stR s e).1 (stR s e).2 (-1) []
  rw [List.length_nil] at this
  unfold listA; omega
def rawA (s : List UInt8) : Int × List Int := (wholeR s 0, listA (stR s 0).1 (stR s 0).2)
/-- What any bytes say, and the error. -/
def rdA (s : List UInt8) : Int × List Int × Int := if s ≠ [] ∧ askS (rawA s).1 (rawA s).2 = s then ((rawA s).1, (rawA s).2, 0) else (0, [], 3)
theorem rdA_len (s : List UInt8) : (rdA s).2.1.length ≤ 4097 := by
  unfold rdA
  split
  · exact listA_len _ _
  · simp
end Go.Proofs.Ythikboobkmfgfaa
