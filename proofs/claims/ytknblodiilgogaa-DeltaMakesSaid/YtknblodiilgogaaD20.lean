/- Turns between tables, one behind the other: the plain law. -/
import Derived.Test.YtknblodiilgogaaD19
set_option linter.all false
set_option maxRecDepth 100000
namespace Go.Proofs.Ytknblodiilgogaa
open Go Go.Abs

theorem emit_app (k : Int) (a b : Option PR) (O : List TR) : emit k a b O = O ++ emit k a b [] := by unfold emit; split <;> simp
theorem merge_app : ∀ (A B : List PR) (O : List TR), merge A B O = O ++ merge A B []
  | [], [], O => by simp [merge]
  | p :: A, [], O => by rw [merge, merge, merge_app A [], merge_app A [] (emit _ _ _ []), emit_app, List.append_assoc]
  | [], q :: B, O => by rw [merge, merge, merge_app [] B, merge_app [] B (emit _ _ _ []), emit_app, List.append_assoc]
  | p :: A, q :: B, O => by
    rw [merge, merge]
    split
    · rw [merge_app A (q :: B), merge_app A (q :: B) (emit _ _ _ []), emit_app, List.append_assoc]
    · split
      · rw [merge_app (p :: A) B, merge_app (p :: A) B (emit _ _ _ []), emit_app, List.append_assoc]
      · rw [merge_app A B, merge_app A B (emit _ _ _ []), emit_app, List.append_assoc]
termination_by A B => A.length + B.length

theorem splitP {k : Int} {A : List PR} (h : chkFrom (k - 1) A = true) : ∃ (a : Option PR) (A' : List PR), A = a.toList ++ A' ∧ (∀ p, a = some p → p.1 = k ∧ okC (cellOf (some p)) = true) ∧ chkFrom k A' = true := by
  cases A with
  | nil => exact ⟨none, [], rfl, by simp, rfl⟩
  | cons p A =>
    have h' := chkFrom_cons.1 h
    by_cases hk : p.1 = k
    · refine ⟨some p, A, rfl, fun q hq => ?_, hk ▸ h'.2⟩
      cases hq
      exact ⟨hk, decide_eq_true ⟨h'.1.2.2.1, h'.1.2.2.2⟩⟩
    · exact ⟨none, p :: A, rfl, by simp, chkFrom_cons.2 ⟨⟨by omega, h'.1.2⟩, h'.2⟩⟩
theorem okC_cell {a : Option PR} {k : Int} (h : ∀ p, a = some p → p.1 = k ∧ okC (cellOf (some p)) = true) : okC (cellOf a) = true := by
  cases a with
  | none => rfl
  | some p => exact (h p rfl).2
theorem merge_split {k : Int} {a b : Option PR} {A B : List PR} (O : List TR) (ha : ∀ p, a = some p → p.1 = k ∧ okC (cellOf (some p)) = true) (hb : ∀ p, b = some p → p.1 = k ∧ okC (cellOf (some p)) = true) (hA : chkFrom k A = true) (hB : chkFrom k B = true) :
    merge (a.toList ++ A) (b.toList ++ B) O = merge A B (emit k a b O) := by
  cases a with
  | none =>
    cases b with
    | none => rfl
    | some q =>
      have hq := (hb q rfl).1
      subst hq
      cases A with
      | nil => show merge [] (q :: B) O = _; rw [merge]
      | cons p A =>
        have := (chkFrom_cons.1 hA).1.1
        show merge (p :: A) (q :: B) O = _
        rw [merge, if_neg (by omega), if_pos (by omega)]
  | some p =>
    have hp := (ha p rfl).1
    subst hp
    cases b with
    | none =>
      cases B with
      | nil => show merge (p :: A) [] O = _; rw [merge]
      | cons q B =>
        have := (chkFrom_cons.1 hB).1.1
        show merge (p :: A) (q :: B) O = _
        rw [merge, if_pos (by omega)]
    | some q =>
      have hq := (hb q rfl).1
      show merge (p :: A) (q :: B) O = _
      rw [merge, if_neg (by omega), if_neg (by omega)]
theorem merge_split0 {k : Int} {a b : Option PR} {A B : List PR} (ha : ∀ p, a = some p → p.1 = k ∧ okC (cellOf (some p)) = true) (hb : ∀ p, b = some p → p.1 = k ∧ okC (cellOf (some p)) = true) (hA : chkFrom k A = true) (hB : chkFrom k B = true) :
    merge (a.toList ++ A) (b.toList ++ B) [] = emit k a b [] ++ merge A B [] := by rw [merge_split [] ha hb hA hB, merge_app]
theorem chk_end {A : List PR} {k : Int} (hk : 4095 ≤ k) (h : chkFrom k A = true) : A = [] := by
  cases A with
  | nil => rfl
  | cons p A => have := (chkFrom_cons.1 h).1; omega
theorem chkTFrom_mono {lo lo' : Int} {l : List TR} (h : chkTFrom lo l = true) (hl : lo' ≤ lo) : chkTFrom lo' l = true := by
  cases l with
  | nil => rfl
  | cons p r => have h' := chkTFrom_cons.1 h; exact chkTFrom_cons.2 ⟨⟨by omega, h'.1.2⟩, h'.2⟩
theorem merge_ok : ∀ (n : Nat) (k : Int) (A B : List PR), k + n = 4096 → chkFrom (k - 1) A = true → chkFrom (k - 1) B = true → chkTFrom (k - 1) (merge A B []) = true
  | 0, k, A, B, hk, hA, hB => by
    rw [chk_end (by omega) hA, chk_end (by omega) hB, merge]; rfl
  | n + 1, k, A, B, hk, hA, hB => by
    obtain ⟨a, A', rfl, ha, hA'⟩ := splitP hA
    obtain ⟨b, B', rfl, hb, hB'⟩ := splitP hB
    rw [merge_split0 ha hb hA' hB']
    have ih := merge_ok n (k + 1) A' B' (by omega) (by rw [Int.add_sub_cancel]; exact hA') (by rw [Int.add_sub_cancel]; exact hB')
    rw [Int.add_sub_cancel] at ih
    unfold emit
    split
    · exact chkTFrom_mono ih (by omega)
    · rename_i hne
      exact chkTFrom_cons.2 ⟨⟨by show k - 1 < k; omega, by show k < 4096; omega, okC_cell ha, okC_cell hb, hne⟩, ih⟩

theorem tm_a {k : Int} {x : TR} {l m O : List TR} (hx : x.1 = k) (hm : chkTFrom k m = true) : tm (x :: l) m O = tm l m (tadd O x) := by
  cases m with
  | nil => rw [tm]
  | cons q m => have := (chkTFrom_cons.1 hm).1.1; rw [tm, if_pos (by omega)]
theorem tm_b {k : Int} {y : TR} {l m O : List TR} (hy : y.1 = k) (hl : chkTFrom k l = true) : tm l (y :: m) O = tm l m (tadd O y) := by
  cases l with
  | nil => rw [tm]
  | cons p l => have := (chkTFrom_cons.1 hl).1.1; rw [tm, if_neg (by omega), if_pos (by omega)]
theorem tm_ab {x y : TR} {l m O : List TR} (hxy : x.1 = y.1) (h : x.2.2 = y.2.1) : tm (x :: l) (y :: m) O = tm l m (tadd O (x.1, x.2.1, y.2.2)) := by
  rw [tm, if_neg (by omega), if_neg (by omega), if_pos h]

theorem comp : ∀ (n : Nat) (k : Int) (A B C : List PR) (O : List TR), k + n = 4096 → chkFrom (k - 1) A = true → chkFrom (k - 1) B = true → chkFrom (k - 1) C = true →
    tm (merge A B []) (merge B C []) O = (true, [], [], merge A C O)
  | 0, k, A, B, C, O, hk, hA, hB, hC => by
    rw [chk_end (by omega) hA, chk_end (by omega) hB, chk_end (by omega) hC, merge, merge, tm]
  | n + 1, k, A, B, C, O, hk, hA, hB, hC => by
    obtain ⟨a, A', rfl, ha, hA'⟩ := splitP hA
    obtain ⟨b, B', rfl, hb, hB'⟩ := splitP hB
    obtain ⟨c, C', rfl, hc, hC'⟩ := splitP hC
    have eA : chkFrom (k + 1 - 1) A' = true := by rw [Int.add_sub_cancel]; exact hA'
    have eB : chkFrom (k + 1 - 1) B' = true := by rw [Int.add_sub_cancel]; exact hB'
    have eC : chkFrom (k + 1 - 1) C' = true := by rw [Int.add_sub_cancel]; exact hC'
    have o1 := merge_ok n (k + 1) A' B' (by omega) eA eB
    have o2 := merge_ok n (k + 1) B' C' (by omega) eB eC
    rw [Int.add_sub_cancel] at o1 o2
    have ih := fun O => comp n (k + 1) A' B' C' O (by omega) eA eB eC
    rw [merge_split0 ha hb hA' hB', merge_split0 hb hc hB' hC', merge_split O ha hc hA' hC']
    by_cases h1 : cellOf a = cellOf b
    · by_cases h2 : cellOf b = cellOf c
      · rw [emit, if_pos h1, emit, if_pos h2, emit, if_pos (h1.trans h2)]
        exact ih O
      · rw [emit, if_pos h1, emit, if_neg h2, emit, if_neg (h1 ▸ h2), h1]
        show tm (merge A' B' []) ((k, cellOf b, cellOf c) :: merge B' C' []) O = _
        rw [tm_b rfl o1, tadd, if_neg h2]
        exact ih _
    · by_cases h2 : cellOf b = cellOf c
      · rw [emit, if_neg h1, emit, if_pos h2, emit, if_neg (h2 ▸ h1), ← h2]
        show tm ((k, cellOf a, cellOf b) :: merge A' B' []) (merge B' C' []) O = _
        rw [tm_a rfl o2, tadd, if_neg h1]
        exact ih _
      · rw [emit, if_neg h1, emit, if_neg h2]
        show tm ((k, cellOf a, cellOf b) :: merge A' B' []) ((k, cellOf b, cellOf c) :: merge B' C' []) O = _
        rw [tm_ab (x := (k, cellOf a, cellOf b)) (y := (k, cellOf b, cellOf c)) rfl rfl]
        exact ih _
theorem merge_self : ∀ (n : Nat) (k : Int) (A : List PR) (O : List TR), k + n = 4096 → chkFrom (k - 1) A = true → merge A A O = O
  | 0, k, A, O, hk, hA => by rw [chk_end (by omega) hA, merge]
  | n + 1, k, A, O, hk, hA => by
    obtain ⟨a, A', rfl, ha, hA'⟩ := splitP hA
    rw [merge_split O ha ha hA' hA', emit, if_pos rfl]
    exact merge_self n (k + 1) A' O (by omega) (by rw [Int.add_sub_cancel]; exact hA')

theorem then_between {A B C : List PR} (hA : chk A = true) (hB : chk B = true) (hC : chk C = true) : thenR (merge A B []) (merge B C []) = (merge A C [], 0) := by
  have h0 : (0 : Int) + (4096 : Nat) = 4096 := by decide
  have h1 : chkT (merge A B []) = true := merge_ok 4096 0 A B h0 hA hB
  have h2 : chkT (merge B C []) = true := merge_ok 4096 0 B C h0 hB hC
  have h3 := comp 4096 0 A B C [] h0 hA hB hC
  rw [thenR, h1, h2, h3]; rfl
theorem between_self {A : List PR} (hA : chk A = true) : merge A A [] = [] := merge_self 4096 0 A [] (by decide) hA
end Go.Proofs.Ytknblodiilgogaa
