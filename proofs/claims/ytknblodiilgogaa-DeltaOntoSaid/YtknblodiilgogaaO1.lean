/- Turns of one table made in turn: plain. -/
import Derived.Test.YtknblodiilgogaaF9
import Derived.Test.YtknblodiilgogaaF7
import Derived.Test.YtknblodiilgogaaD18
set_option linter.all false
set_option maxRecDepth 100000
namespace Go.Proofs.Ytknblodiilgogaa
open Go Go.Abs

abbrev OX := List TR × List Int
theorem oboth_app (k : Int) (p q : TR) (O : List TR) (C : List Int) : oboth k p q O C = (O ++ (oboth k p q [] []).1, C ++ (oboth k p q [] []).2) := by
  unfold oboth
  split
  · split <;> simp
  · simp
theorem om_app : ∀ (A B : List TR) (X : OX), om A B X = (X.1 ++ (om A B ([], [])).1, X.2 ++ (om A B ([], [])).2)
  | [], [], X => by simp [om]
  | p :: A, [], X => by rw [om, om, om_app A [] X]
  | [], q :: B, X => by
    rw [om, om, om_app [] B (X.1 ++ [q], X.2), om_app [] B ([] ++ [q], [])]
    simp
  | p :: A, q :: B, X => by
    rw [om, om]
    split
    · rw [om_app A (q :: B) X]
    · split
      · rw [om_app (p :: A) B (X.1 ++ [q], X.2), om_app (p :: A) B ([] ++ [q], [])]
        simp
      · rw [om_app A B (oboth p.1 p q X.1 X.2), om_app A B (oboth p.1 p q [] []), oboth_app]
        simp
termination_by A B => A.length + B.length
theorem om_a {k : Int} {x : TR} {l m : List TR} {X : OX} (hx : x.1 = k) (hm : chkTFrom k m = true) : om (x :: l) m X = om l m X := by
  cases m with
  | nil => rw [om]
  | cons q m => have := (chkTFrom_cons.1 hm).1.1; rw [om, if_pos (by omega)]
theorem om_b {k : Int} {y : TR} {l m : List TR} {X : OX} (hy : y.1 = k) (hl : chkTFrom k l = true) : om l (y :: m) X = om l m (X.1 ++ [y], X.2) := by
  cases l with
  | nil => rw [om]
  | cons p l => have := (chkTFrom_cons.1 hl).1.1; rw [om, if_neg (by omega), if_pos (by omega)]
theorem om_ab {x y : TR} {l m : List TR} {X : OX} (hxy : x.1 = y.1) : om (x :: l) (y :: m) X = om l m (oboth x.1 x y X.1 X.2) := by
  rw [om, if_neg (by omega), if_neg (by omega)]

/-- Of A's turns to B and to C: the second, behind the first. -/
def U3 (A B C : List PR) : OX := om (merge A B []) (merge A C []) ([], [])
/-- What one key has of it. -/
def u3 (k : Int) (a b c : Option PR) : List TR := if cellOf a = cellOf c then [] else if cellOf b = cellOf c then [] else [(k, cellOf b, cellOf c)]
def c3 (k : Int) (a b c : Option PR) : List Int := if cellOf a = cellOf c then [] else if cellOf a = cellOf b then [] else if cellOf b = cellOf c then [] else [k]
theorem U3_split {n : Nat} {k : Int} {a b c : Option PR} {A B C : List PR} (hk : k + 1 + n = 4096)
    (ha : ∀ p, a = some p → p.1 = k ∧ okC (cellOf (some p)) = true) (hb : ∀ p, b = some p → p.1 = k ∧ okC (cellOf (some p)) = true) (hc : ∀ p, c = some p → p.1 = k ∧ okC (cellOf (some p)) = true)
    (hA : chkFrom k A = true) (hB : chkFrom k B = true) (hC : chkFrom k C = true) :
    U3 (a.toList ++ A) (b.toList ++ B) (c.toList ++ C) = (u3 k a b c ++ (U3 A B C).1, c3 k a b c ++ (U3 A B C).2) := by
  have m1 := merge_ok n (k + 1) A B hk (by rw [Int.add_sub_cancel]; exact hA) (by rw [Int.add_sub_cancel]; exact hB)
  have m2 := merge_ok n (k + 1) A C hk (by rw [Int.add_sub_cancel]; exact hA) (by rw [Int.add_sub_cancel]; exact hC)
  rw [Int.add_sub_cancel] at m1 m2
  unfold U3
  rw [merge_split0 ha hb hA hB, merge_split0 ha hc hA hC]
  generalize merge A B [] = L at m1
  generalize merge A C [] = M at m2
  unfold emit u3 c3
  by_cases h1 : cellOf a = cellOf b
  · by_cases h2 : cellOf a = cellOf c
    · simp only [h1 ▸ h2, if_pos, h1, List.nil_append]
    · have h3 : ¬ cellOf b = cellOf c := h1 ▸ h2
      rw [if_pos h1, if_neg h2, if_neg h2, if_neg h2, if_neg h3, if_pos h1]
      show om L ((k, cellOf a, cellOf c) :: M) ([], []) = _
      rw [om_b rfl m1, om_app, h1]; rfl
  · by_cases h2 : cellOf a = cellOf c
    · rw [if_neg h1, if_pos h2, if_pos h2, if_pos h2]
      show om ((k, cellOf a, cellOf b) :: L) M ([], []) = _
      rw [om_a rfl m2]; rfl
    · rw [if_neg h1, if_neg h2, if_neg h2, if_neg h2, if_neg h1]
      show om ((k, cellOf a, cellOf b) :: L) ((k, cellOf a, cellOf c) :: M) ([], []) = _
      rw [om_ab (x := (k, cellOf a, cellOf b)) (y := (k, cellOf a, cellOf c)) rfl, om_app]
      unfold oboth
      by_cases h3 : cellOf b = cellOf c
      · simp only [h3, if_true]
      · simp only [h3, if_false, List.nil_append]
def x3 (a b c : Option PR) : Option PR := if cellOf a = cellOf c then b else c
theorem mk_split {k : Int} {a b c : Option PR} {B : List PR} {L : List TR} (hb : ∀ p, b = some p → p.1 = k) (hc : ∀ p, c = some p → p.1 = k) (hB : chkFrom k B = true) (hL : chkTFrom k L = true) :
    mk (b.toList ++ B) (u3 k a b c ++ L) = (x3 a b c).toList ++ mk B L := by
  have keep : mk (b.toList ++ B) L = b.toList ++ mk B L := by
    cases b with
    | none => rfl
    | some p => exact mk_keep (hb p rfl) hL
  unfold u3 x3
  by_cases h1 : cellOf a = cellOf c
  · rw [if_pos h1, if_pos h1]; exact keep
  · rw [if_neg h1, if_neg h1]
    by_cases h2 : cellOf b = cellOf c
    · rw [if_pos h2, ← cell_inj hb hc h2]; exact keep
    · rw [if_neg h2]
      show mk (b.toList ++ B) ((k, cellOf b, cellOf c) :: L) = _
      have e := put_cell (c := cellOf b) (k := k) hc
      cases b with
      | none => show mk B _ = _; rw [mk_put rfl hB, e]
      | some p => show mk (p :: B) _ = _; rw [mk_both (hb p rfl) rfl, e]
theorem U3_ok : ∀ (n : Nat) (k : Int) (A B C : List PR), k + n = 4096 → chkFrom (k - 1) A = true → chkFrom (k - 1) B = true → chkFrom (k - 1) C = true →
    chkTFrom (k - 1) (U3 A B C).1 = true ∧ ∀ t ∈ (U3 A B C).1, getP B t.1 = t.2.1
  | 0, k, A, B, C, hk, hA, hB, hC => by
    rw [chk_end (by omega) hA, chk_end (by omega) hB, chk_end (by omega) hC, U3, merge, om]
    exact ⟨rfl, fun t h => by cases h⟩
  | n + 1, k, A, B, C, hk, hA, hB, hC => by
    obtain ⟨a, A', rfl, ha, hA'⟩ := splitP hA
    obtain ⟨b, B', rfl, hb, hB'⟩ := splitP hB
    obtain ⟨c, C', rfl, hc, hC'⟩ := splitP hC
    have ih := U3_ok n (k + 1) A' B' C' (by omega) (by rw [Int.add_sub_cancel]; exact hA') (by rw [Int.add_sub_cancel]; exact hB') (by rw [Int.add_sub_cancel]; exact hC')
    rw [Int.add_sub_cancel] at ih
    rw [U3_split (n := n) (by omega) ha hb hc hA' hB' hC']
    simp only
    generalize (U3 A' B' C').1 = L at ih
    have hL : ∀ t ∈ L, getP (b.toList ++ B') t.1 = t.2.1 := fun t ht => by
      have := chkTFrom_mem ih.1 ht
      rw [getP_off (fun p hp => (hb p hp).1) this]
      exact ih.2 t ht
    unfold u3
    split
    · exact ⟨chkTFrom_mono ih.1 (by omega), hL⟩
    · split
      · exact ⟨chkTFrom_mono ih.1 (by omega), hL⟩
      · rename_i hne
        refine ⟨chkTFrom_cons.2 ⟨⟨by show k - 1 < k; omega, by show k < 4096; omega, okC_cell hb, okC_cell hc, hne⟩, ih.1⟩, fun t ht => ?_⟩
        rcases List.mem_cons.1 ht with rfl | ht
        · exact getP_at (fun p hp => (hb p hp).1) hB'
        · exact hL t ht
theorem getP_none_lo {k j : Int} {X : List PR} (h : ∀ p ∈ X, k < p.1) (hj : j ≤ k) : getP X j = (0, false) := getP_none fun p hp => by have := h p hp; omega
theorem mk_lo {k : Int} {B : List PR} {L : List TR} (hB : chkFrom k B = true) (hL : chkTFrom k L = true) : ∀ p ∈ mk B L, k < p.1 := fun p hp => by
  rcases mk_mem hp with h | ⟨t, ht, h⟩
  · exact ((chkFrom_rise B k hB).2 p h).1
  · have := chkTFrom_mem hL ht; rw [put_key h]; exact this
theorem getP_x {k : Int} {x : Option PR} {X : List PR} (hx : ∀ p, x = some p → p.1 = k) (h : ∀ p ∈ X, k < p.1) : getP (x.toList ++ X) k = cellOf x := by
  cases x with
  | none => exact getP_none_lo h (Int.le_refl _)
  | some p => show getP (p :: X) k = _; rw [getP, if_pos (hx p rfl)]; rfl
theorem x3_key {k : Int} {a b c : Option PR} (hb : ∀ p, b = some p → p.1 = k) (hc : ∀ p, c = some p → p.1 = k) : ∀ p, x3 a b c = some p → p.1 = k := by
  unfold x3; split
  · exact hb
  · exact hc
theorem cat_inj {k : Int} {x y : Option PR} {X Y : List PR} (hx : ∀ p, x = some p → p.1 = k) (hy : ∀ p, y = some p → p.1 = k) (h1 : ∀ p ∈ X, k < p.1) (h2 : ∀ p ∈ Y, k < p.1) : x.toList ++ X = y.toList ++ Y ↔ x = y ∧ X = Y := by
  refine ⟨fun h => ?_, fun ⟨e1, e2⟩ => by rw [e1, e2]⟩
  cases x with
  | none =>
    cases y with
    | none => exact ⟨rfl, h⟩
    | some q =>
      have := h1 q (by show q ∈ X; rw [show X = q :: Y from h]; simp)
      have := hy q rfl
      omega
  | some p =>
    cases y with
    | none =>
      have := h2 p (by show p ∈ Y; rw [← show p :: X = Y from h]; simp)
      have := hx p rfl
      omega
    | some q =>
      obtain ⟨e1, e2⟩ := List.cons.inj (show p :: X = q :: Y from h)
      exact ⟨by rw [e1], e2⟩
theorem c3_sym (k : Int) (a b c : Option PR) : c3 k a b c = c3 k a c b := by
  unfold c3
  by_cases h1 : cellOf a = cellOf b <;> by_cases h2 : cellOf a = cellOf c <;> by_cases h3 : cellOf b = cellOf c <;> simp_all [eq_comm]
theorem x3_same {k : Int} {a b c : Option PR} (ha : ∀ p, a = some p → p.1 = k) (hb : ∀ p, b = some p → p.1 = k) (hc : ∀ p, c = some p → p.1 = k) : x3 a b c = x3 a c b ↔ c3 k a b c = [] := by
  have inj : b = c ↔ cellOf b = cellOf c := ⟨fun h => by rw [h], cell_inj hb hc⟩
  unfold x3 c3
  by_cases h1 : cellOf a = cellOf b <;> by_cases h2 : cellOf a = cellOf c
  · rw [if_pos h2, if_pos h1, if_pos h2, inj]; exact ⟨fun _ => rfl, fun _ => h1 ▸ h2⟩
  · rw [if_neg h2, if_pos h1, if_neg h2, if_pos h1]; simp
  · rw [if_pos h2, if_neg h1, if_pos h2]; simp
  · rw [if_neg h2, if_neg h1, if_neg h2, if_neg h1]
    by_cases h3 : cellOf b = cellOf c
    · rw [if_pos h3]; simp [inj.2 h3]
    · rw [if_neg h3]; simp only [reduceCtorEq, iff_false]; exact fun e => h3 (by rw [e])
theorem U3_made : ∀ (n : Nat) (k : Int) (A B C : List PR), k + n = 4096 → chkFrom (k - 1) A = true → chkFrom (k - 1) B = true → chkFrom (k - 1) C = true →
    (U3 A B C).2 = (U3 A C B).2 ∧ (∀ t ∈ merge A C [], getP (mk B (U3 A B C).1) t.1 = t.2.2) ∧ (mk B (U3 A B C).1 = mk C (U3 A C B).1 ↔ (U3 A B C).2 = [])
  | 0, k, A, B, C, hk, hA, hB, hC => by
    rw [chk_end (by omega) hA, chk_end (by omega) hB, chk_end (by omega) hC, U3, merge, om]
    exact ⟨rfl, fun t h => (by cases h), by simp⟩
  | n + 1, k, A, B, C, hk, hA, hB, hC => by
    obtain ⟨a, A', rfl, ha, hA'⟩ := splitP hA
    obtain ⟨b, B', rfl, hb, hB'⟩ := splitP hB
    obtain ⟨c, C', rfl, hc, hC'⟩ := splitP hC
    have eA : chkFrom (k + 1 - 1) A' = true := by rw [Int.add_sub_cancel]; exact hA'
    have eB : chkFrom (k + 1 - 1) B' = true := by rw [Int.add_sub_cancel]; exact hB'
    have eC : chkFrom (k + 1 - 1) C' = true := by rw [Int.add_sub_cancel]; exact hC'
    obtain ⟨i1, i2, i3⟩ := U3_made n (k + 1) A' B' C' (by omega) eA eB eC
    have o1 := (U3_ok n (k + 1) A' B' C' (by omega) eA eB eC).1
    have o2 := (U3_ok n (k + 1) A' C' B' (by omega) eA eC eB).1
    have m1 := merge_ok n (k + 1) A' C' (by omega) eA eC
    rw [Int.add_sub_cancel] at o1 o2 m1
    rw [U3_split (n := n) (by omega) ha hb hc hA' hB' hC', U3_split (n := n) (by omega) ha hc hb hA' hC' hB', merge_split0 ha hc hA' hC']
    have ka : ∀ p, a = some p → p.1 = k := fun p hp => (ha p hp).1
    have kb : ∀ p, b = some p → p.1 = k := fun p hp => (hb p hp).1
    have kc : ∀ p, c = some p → p.1 = k := fun p hp => (hc p hp).1
    have l1 := mk_lo hB' o1
    have l2 := mk_lo hC' o2
    simp only
    rw [mk_split kb kc hB' o1, mk_split kc kb hC' o2]
    refine ⟨by rw [i1, c3_sym], fun t ht => ?_, ?_⟩
    · rcases List.mem_append.1 ht with ht | ht
      · unfold emit at ht
        split at ht
        · cases ht
        · rename_i hne
          simp only [List.nil_append, List.mem_singleton] at ht
          subst ht
          simp only
          rw [getP_x (x3_key kb kc) l1, x3, if_neg hne]
      · have := chkTFrom_mem m1 ht
        rw [getP_off (x3_key kb kc) this]
        exact i2 t ht
    · rw [cat_inj (x3_key kb kc) (x3_key kc kb) l1 l2, x3_same ka kb kc, List.append_eq_nil_iff, i3]
theorem onto_U3 {A B C : List PR} (hA : chk A = true) (hB : chk B = true) (hC : chk C = true) : ontoR (merge A B []) (merge A C []) = (U3 A B C, 0) := by
  have h0 : (0 : Int) + (4096 : Nat) = 4096 := by decide
  have h1 : chkT (merge A B []) = true := merge_ok 4096 0 A B h0 hA hB
  have h2 : chkT (merge A C []) = true := merge_ok 4096 0 A C h0 hA hC
  have ho := om_oref (l := merge A B []) (m := merge A C []) _ 0 0 (-1) ([], []) rfl (.start h1) (.start h2)
  rw [List.drop_zero, List.drop_zero] at ho
  rw [ontoR, h1, h2, ← ho]; rfl
/-- What the law says of it. -/
theorem onto_all {A B C : List PR} (hA : chk A = true) (hB : chk B = true) (hC : chk C = true) :
    chkT (U3 A B C).1 = true ∧ fitsR B (U3 A B C).1 = true ∧ (U3 A B C).2 = (U3 A C B).2 ∧ (∀ t ∈ merge A C [], getP (mk B (U3 A B C).1) t.1 = t.2.2) ∧ (mk B (U3 A B C).1 = mk C (U3 A C B).1 ↔ (U3 A B C).2 = []) := by
  have h0 : (0 : Int) + (4096 : Nat) = 4096 := by decide
  obtain ⟨h1, h2⟩ := U3_ok 4096 0 A B C h0 hA hB hC
  refine ⟨h1, ?_, U3_made 4096 0 A B C h0 hA hB hC⟩
  have h1' : chkT (U3 A B C).1 = true := h1
  rw [fitsR, hB, h1']
  simp only [Bool.and_self, Bool.true_and, Bool.not_eq_true', List.any_eq_false]
  intro t ht
  have := h2 t ht
  simp [offT, getA, hB, this]
theorem om_len : ∀ (A B : List TR) (X : OX), (om A B X).1.length ≤ X.1.length + B.length ∧ (om A B X).2.length ≤ X.2.length + B.length
  | [], [], X => by simp [om]
  | p :: A, [], X => by rw [om]; exact om_len A [] X
  | [], q :: B, X => by
    rw [om]
    have := om_len [] B (X.1 ++ [q], X.2)
    simp only [List.length_append, List.length_cons, List.length_nil] at this ⊢
    omega
  | p :: A, q :: B, X => by
    rw [om]
    split
    · exact om_len A (q :: B) X
    · split
      · have := om_len (p :: A) B (X.1 ++ [q], X.2)
        simp only [List.length_append, List.length_cons, List.length_nil] at this ⊢
        omega
      · have := om_len A B (oboth p.1 p q X.1 X.2)
        have h2 := oboth_len p.1 p q X.1 X.2
        simp only [List.length_cons] at this ⊢
        omega
termination_by A B => A.length + B.length
end Go.Proofs.Ytknblodiilgogaa
