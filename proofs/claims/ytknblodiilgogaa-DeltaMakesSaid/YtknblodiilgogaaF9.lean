/- Between, made, is the other table: plain. -/
import Derived.Test.YtknblodiilgogaaF8
import Derived.Test.YtknblodiilgogaaD20
set_option linter.all false
set_option maxRecDepth 100000
namespace Go.Proofs.Ytknblodiilgogaa
open Go Go.Abs

theorem mk_keep {k : Int} {p : PR} {A : List PR} {L : List TR} (hp : p.1 = k) (hL : chkTFrom k L = true) : mk (p :: A) L = p :: mk A L := by
  cases L with
  | nil => rw [mk_end, mk_end]
  | cons t r => have := (chkTFrom_cons.1 hL).1.1; exact mk_lt (by omega)
theorem mk_put {k : Int} {A : List PR} {t : TR} {L : List TR} (ht : t.1 = k) (hA : chkFrom k A = true) : mk A (t :: L) = putT t ++ mk A L := by
  cases A with
  | nil => rfl
  | cons p A => have := (chkFrom_cons.1 hA).1.1; rw [mk_ge (by omega), if_neg (by omega)]
theorem mk_both {k : Int} {p : PR} {A : List PR} {t : TR} {L : List TR} (hp : p.1 = k) (ht : t.1 = k) : mk (p :: A) (t :: L) = putT t ++ mk A L := by
  rw [mk_ge (by omega), if_pos (by omega)]
theorem cell_inj {k : Int} {a b : Option PR} (ha : ∀ p, a = some p → p.1 = k) (hb : ∀ p, b = some p → p.1 = k) (h : cellOf a = cellOf b) : a = b := by
  cases a with
  | none =>
    cases b with
    | none => rfl
    | some q => simp [cellOf] at h
  | some p =>
    cases b with
    | none => simp [cellOf] at h
    | some q =>
      have h1 := ha p rfl
      have h2 := hb q rfl
      simp only [cellOf, Prod.mk.injEq, and_true] at h
      rw [Prod.ext (show p.1 = q.1 by omega) h]
theorem put_cell {k : Int} {c : CR} {b : Option PR} (hb : ∀ p, b = some p → p.1 = k) : putT (k, c, cellOf b) = b.toList := by
  cases b with
  | none => rfl
  | some q => have := hb q rfl; subst this; rfl
theorem mk_between : ∀ (n : Nat) (k : Int) (A B : List PR), k + n = 4096 → chkFrom (k - 1) A = true → chkFrom (k - 1) B = true → mk A (merge A B []) = B
  | 0, k, A, B, hk, hA, hB => by
    rw [chk_end (by omega) hA, chk_end (by omega) hB, merge]; rfl
  | n + 1, k, A, B, hk, hA, hB => by
    obtain ⟨a, A', rfl, ha, hA'⟩ := splitP hA
    obtain ⟨b, B', rfl, hb, hB'⟩ := splitP hB
    rw [merge_split0 ha hb hA' hB']
    have ih := mk_between n (k + 1) A' B' (by omega) (by rw [Int.add_sub_cancel]; exact hA') (by rw [Int.add_sub_cancel]; exact hB')
    have hm := merge_ok n (k + 1) A' B' (by omega) (by rw [Int.add_sub_cancel]; exact hA') (by rw [Int.add_sub_cancel]; exact hB')
    rw [Int.add_sub_cancel] at hm
    unfold emit
    split
    · rename_i he
      have := cell_inj (fun p hp => (ha p hp).1) (fun p hp => (hb p hp).1) he
      subst this
      cases a with
      | none => exact ih
      | some p =>
        show mk (p :: A') (merge A' B' []) = p :: B'
        rw [mk_keep (ha p rfl).1 hm, ih]
    · have e := put_cell (c := cellOf a) (k := k) fun p hp => (hb p hp).1
      cases a with
      | none =>
        show mk A' ((k, _, cellOf b) :: merge A' B' []) = b.toList ++ B'
        rw [mk_put rfl hA', ih, e]
      | some p =>
        show mk (p :: A') ((k, _, cellOf b) :: merge A' B' []) = b.toList ++ B'
        rw [mk_both (ha p rfl).1 rfl, ih, e]
theorem getP_lo {k j : Int} {A : List PR} (h : chkFrom k A = true) (hj : j ≤ k) : getP A j = (0, false) := by
  obtain ⟨_, h2⟩ := chkFrom_rise A k h
  exact getP_none fun p hp => by have := h2 p hp; omega
theorem getP_at {k : Int} {a : Option PR} {A : List PR} (ha : ∀ p, a = some p → p.1 = k) (hA : chkFrom k A = true) : getP (a.toList ++ A) k = cellOf a := by
  cases a with
  | none => exact getP_lo hA (Int.le_refl _)
  | some p => show getP (p :: A) k = _; rw [getP, if_pos (ha p rfl)]; rfl
theorem getP_off {k j : Int} {a : Option PR} {A : List PR} (ha : ∀ p, a = some p → p.1 = k) (hj : k < j) : getP (a.toList ++ A) j = getP A j := by
  cases a with
  | none => rfl
  | some p => show getP (p :: A) j = _; rw [getP, if_neg (by have := ha p rfl; omega)]
theorem between_was : ∀ (n : Nat) (k : Int) (A B : List PR), k + n = 4096 → chkFrom (k - 1) A = true → chkFrom (k - 1) B = true → ∀ t ∈ merge A B [], getP A t.1 = t.2.1
  | 0, k, A, B, hk, hA, hB => by
    rw [chk_end (by omega) hA, chk_end (by omega) hB, merge]; simp
  | n + 1, k, A, B, hk, hA, hB => by
    obtain ⟨a, A', rfl, ha, hA'⟩ := splitP hA
    obtain ⟨b, B', rfl, hb, hB'⟩ := splitP hB
    rw [merge_split0 ha hb hA' hB']
    have ih := between_was n (k + 1) A' B' (by omega) (by rw [Int.add_sub_cancel]; exact hA') (by rw [Int.add_sub_cancel]; exact hB')
    have hm := merge_ok n (k + 1) A' B' (by omega) (by rw [Int.add_sub_cancel]; exact hA') (by rw [Int.add_sub_cancel]; exact hB')
    rw [Int.add_sub_cancel] at hm
    intro t ht
    rcases List.mem_append.1 ht with ht | ht
    · unfold emit at ht
      split at ht
      · cases ht
      · simp only [List.nil_append, List.mem_singleton] at ht
        subst ht
        exact getP_at (fun p hp => (ha p hp).1) hA'
    · have := chkTFrom_mem hm ht
      rw [getP_off (fun p hp => (ha p hp).1) this]
      exact ih t ht
theorem between_back : ∀ (n : Nat) (k : Int) (A B : List PR), k + n = 4096 → chkFrom (k - 1) A = true → chkFrom (k - 1) B = true → (merge A B []).map turnB = merge B A []
  | 0, k, A, B, hk, hA, hB => by
    rw [chk_end (by omega) hA, chk_end (by omega) hB, merge]; rfl
  | n + 1, k, A, B, hk, hA, hB => by
    obtain ⟨a, A', rfl, ha, hA'⟩ := splitP hA
    obtain ⟨b, B', rfl, hb, hB'⟩ := splitP hB
    rw [merge_split0 ha hb hA' hB', merge_split0 hb ha hB' hA', List.map_append]
    rw [between_back n (k + 1) A' B' (by omega) (by rw [Int.add_sub_cancel]; exact hA') (by rw [Int.add_sub_cancel]; exact hB')]
    congr 1
    unfold emit
    by_cases h : cellOf a = cellOf b
    · rw [if_pos h, if_pos h.symm]; rfl
    · rw [if_neg h, if_neg (fun e => h e.symm)]; rfl
/-- What is between two tables fits the first, and makes the second of it. -/
theorem between_fits {A B : List PR} (hA : chk A = true) (hB : chk B = true) : chkT (merge A B []) = true ∧ fitsR A (merge A B []) = true ∧ mk A (merge A B []) = B ∧ (merge A B []).map turnB = merge B A [] := by
  have h0 : (0 : Int) + (4096 : Nat) = 4096 := by decide
  have h1 : chkT (merge A B []) = true := merge_ok 4096 0 A B h0 hA hB
  refine ⟨h1, ?_, mk_between 4096 0 A B h0 hA hB, between_back 4096 0 A B h0 hA hB⟩
  rw [fitsR, hA, h1]
  simp only [Bool.and_self, Bool.true_and, Bool.not_eq_true', List.any_eq_false]
  intro t ht
  have := between_was 4096 0 A B h0 hA hB t ht
  simp [offT, getA, hA, this]
end Go.Proofs.Ytknblodiilgogaa
