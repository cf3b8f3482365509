/- The greatest, in order: plain. -/
import Derived.Test.YtbpkaajokffpjaaE18
import Derived.Test.YtbpkaajokffpjaaA0
set_option linter.all false
set_option maxRecDepth 100000
namespace Go.Proofs.Ytbpkaajokffpjaa
open Go Go.Abs

/-- How many stand ahead of one. -/
def rankT (L : List PR) (p : PR) : Nat := L.countP fun x => decide (cfOf 1 x p < 0)
theorem rise_strict (c : Nat) : ∀ {L : List PR}, rise L → strictZ c L = true
  | [], _ => rfl
  | p :: r, h => by
    cases h with
    | cons h1 h2 =>
      simp only [strictZ, Bool.and_eq_true, List.all_eq_true, bne_iff_ne]
      refine ⟨fun y hy => ?_, rise_strict c h2⟩
      have hlt := h1 y hy
      unfold cfOf
      have a1 := @cmpZ_zero p.1 y.1
      split
      · rw [Ne, a1]; omega
      · split
        · rw [Ne, a1]; omega
        · assumption
theorem rank_perm {L S : List PR} (h : S.Perm L) (p : PR) : rankT L p = rankT S p := (h.countP_eq _).symm
theorem count_zero {p : PR} : ∀ {S : List PR}, (∀ y ∈ S, cfOf 1 p y < 0) → rankT S p = 0
  | [], _ => rfl
  | y :: S, h => by
    have h1 := h y (by simp)
    have h2 := cf_rev 1 y p
    rw [rankT, List.countP_cons_of_neg (by simp; omega)]
    exact count_zero fun z hz => h z (by simp [hz])
theorem sorted_rank : ∀ {S : List PR}, (S.Pairwise fun a b => cfOf 1 a b < 0) → ∀ i (h : i < S.length), rankT S S[i] = i
  | [], _, i, h => by simp at h
  | x :: S, hs, 0, h => by
    cases hs with
    | cons h1 h2 =>
      have h0 := cf_rev 1 x x
      rw [List.getElem_cons_zero, rankT, List.countP_cons_of_neg (by simp; omega)]
      exact count_zero h1
  | x :: S, hs, i + 1, h => by
    cases hs with
    | cons h1 h2 =>
      have hi : i < S.length := by simpa using h
      rw [List.getElem_cons_succ, rankT, List.countP_cons_of_pos (by simpa using h1 _ (List.getElem_mem hi))]
      have := sorted_rank h2 i hi
      rw [rankT] at this
      omega
theorem filter_at {α : Type} {r : α → Nat} : ∀ {S : List α} {o : Nat}, (∀ i (h : i < S.length), r S[i] = o + i) → ∀ j (h : j < S.length), S.filter (fun p => r p == o + j) = [S[j]]
  | [], _, _, j, h => by simp at h
  | x :: S, o, hr, 0, h => by
    have h0 := hr 0 h
    rw [List.filter_cons, if_pos (by simpa using h0)]
    have : S.filter (fun p => r p == o + 0) = [] := by
      rw [List.filter_eq_nil_iff]
      intro y hy
      obtain ⟨i, hi, rfl⟩ := List.mem_iff_getElem.1 hy
      have := hr (i + 1) (by simpa using hi)
      rw [List.getElem_cons_succ] at this
      simp; omega
    rw [this]; rfl
  | x :: S, o, hr, j + 1, h => by
    have h0 := hr 0 (by simp)
    rw [List.getElem_cons_zero] at h0
    rw [List.filter_cons, if_neg (by simp; omega)]
    have := filter_at (r := r) (S := S) (o := o + 1) (fun i hi => by have := hr (i + 1) (by simpa using hi); rw [List.getElem_cons_succ] at this; omega) j (by simpa using h)
    rw [List.getElem_cons_succ, ← this]
    congr 1
    funext p
    rw [show o + 1 + j = o + (j + 1) by omega]
theorem filter_low {α : Type} {r : α → Nat} : ∀ {S : List α} {o : Nat}, (∀ i (h : i < S.length), r S[i] = o + i) → ∀ n, S.filter (fun p => decide (r p < o + n)) = S.take n
  | [], _, _, n => by simp
  | x :: S, o, hr, n => by
    have h0 := hr 0 (by simp)
    rw [List.getElem_cons_zero] at h0
    have ih := fun n => filter_low (r := r) (S := S) (o := o + 1) (fun i hi => by have := hr (i + 1) (by simpa using hi); rw [List.getElem_cons_succ] at this; omega) n
    cases n with
    | zero =>
      rw [List.filter_cons, if_neg (by simp; omega), List.take_zero, List.filter_eq_nil_iff]
      intro y hy
      obtain ⟨i, hi, rfl⟩ := List.mem_iff_getElem.1 hy
      have := hr (i + 1) (by simpa using hi)
      rw [List.getElem_cons_succ] at this
      simp; omega
    | succ n =>
      rw [List.filter_cons, if_pos (by simp; omega), List.take_succ_cons, ← ih n]
      congr 2
      funext p
      rw [show o + 1 + n = o + (n + 1) by omega]
/-- The pair of a place, picked by its rank. -/
theorem pick_at {L : List PR} (h : strictZ 1 L = true) (j : Nat) (hj : j < L.length) : L.filter (fun p => rankT L p == j) = [(sortZ 1 L)[j]'(by rw [sortZ_len]; exact hj)] := by
  have hp := sortZ_perm 1 L
  have hs := sortZ_sorted h
  have h1 := filter_at (S := sortZ 1 L) (r := rankT L) (o := 0) (fun i hi => by rw [rank_perm hp, sorted_rank hs i hi]; omega) j (by rw [sortZ_len]; exact hj)
  simp only [Nat.zero_add] at h1
  have h2 := (hp.filter fun p => rankT L p == j).symm
  rw [h1] at h2
  exact List.perm_singleton.1 h2
/-- Those of which few stand ahead, in order. -/
theorem low_sorted {L : List PR} {n : Nat} (h : strictZ 1 L = true) (hs' : strictZ 1 (L.filter fun p => decide (rankT L p < n)) = true) : sortZ 1 (L.filter fun p => decide (rankT L p < n)) = (sortZ 1 L).take n := by
  have hp := sortZ_perm 1 L
  have hs := sortZ_sorted h
  have h1 := filter_low (S := sortZ 1 L) (r := rankT L) (o := 0) (fun i hi => by rw [rank_perm hp, sorted_rank hs i hi]; omega) n
  simp only [Nat.zero_add] at h1
  have h2 := hp.filter fun p => decide (rankT L p < n)
  rw [h1] at h2
  refine (sortZ_unique hs' h2 ?_).symm
  refine (hs.sublist (List.take_sublist n _)).imp fun {a b} hab => ?_
  have := cf_rev 1 a b
  omega
theorem ahead_iff {L : List PR} (hr : rise L) {k i : Nat} (hk : k < L.length) (hi : i < L.length) : cfOf 1 L[k] L[i] < 0 ↔ (L[k].2 > L[i].2 ∨ L[k].2 = L[i].2 ∧ k < i) := by
  have a1 := @cmpZ_pos L[i].2 L[k].2
  have a2 := @cmpZ_zero L[i].2 L[k].2
  have a3 := @cmpZ_pos L[k].1 L[i].1
  have hki : L[k].1 < L[i].1 ↔ k < i := by
    constructor
    · intro h
      rcases Nat.lt_trichotomy k i with h1 | h1 | h1
      · exact h1
      · subst h1; omega
      · have := List.pairwise_iff_getElem.1 hr i k hi hk h1; omega
    · intro h; exact List.pairwise_iff_getElem.1 hr k i hk hi h
  unfold cfOf
  rw [if_neg (by omega)]
  split
  · rename_i h0
    rw [a3, hki]
    rw [a2] at h0
    omega
  · rename_i h0
    rw [a1]
    rw [a2] at h0
    omega
end Go.Proofs.Ytbpkaajokffpjaa
