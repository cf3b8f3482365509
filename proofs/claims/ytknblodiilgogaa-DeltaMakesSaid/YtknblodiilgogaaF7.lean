/- A table that is turned: plain. -/
import Derived.Test.YtknblodiilgogaaF6
set_option linter.all false
set_option maxRecDepth 100000
namespace Go.Proofs.Ytknblodiilgogaa
open Go Go.Abs

theorem skip_cons {k : Int} {q : PR} {l : List PR} : skipK k (q :: l) = if q.1 = k then l else q :: l := rfl
abbrev riseT (l : List TR) : Prop := l.Pairwise fun a b => a.1 < b.1
theorem mk_mem {p : PR} : ∀ {l : List TR} {a : List PR}, p ∈ mk a l → p ∈ a ∨ ∃ t ∈ l, p ∈ putT t
  | [], a, h => by rw [mk_end] at h; exact Or.inl h
  | t :: r, a, h => by
    simp only [mk, List.mem_append] at h
    rcases h with h | h | h
    · exact Or.inl (List.takeWhile_sublist _ |>.subset h)
    · exact Or.inr ⟨t, by simp, h⟩
    · rcases mk_mem h with h | ⟨u, hu, h⟩
      · have h2 : ∀ l : List PR, p ∈ skipK t.1 l → p ∈ l := fun l => by
          cases l with
          | nil => exact id
          | cons q l =>
            rw [skip_cons]
            split
            · exact fun h => List.mem_cons_of_mem _ h
            · exact id
        exact Or.inl ((List.dropWhile_sublist _).subset (h2 _ h))
      · exact Or.inr ⟨u, by simp [hu], h⟩
theorem skip_rise {k : Int} : ∀ {l : List PR}, rise l → (∀ p ∈ l, k ≤ p.1) → rise (skipK k l) ∧ ∀ p ∈ skipK k l, k < p.1
  | [], _, _ => ⟨List.Pairwise.nil, fun _ h => by cases h⟩
  | q :: l, h, hk => by
    cases h with
    | cons h1 h2 =>
      have h0 := hk q (by simp)
      rw [skip_cons]
      split
      · rename_i he
        exact ⟨h2, fun p hp => by have := h1 p hp; omega⟩
      · rename_i he
        refine ⟨List.Pairwise.cons h1 h2, fun p hp => ?_⟩
        rcases List.mem_cons.1 hp with rfl | hp
        · omega
        · have := h1 p hp; omega
theorem drop_ge {k : Int} : ∀ {l : List PR}, rise l → ∀ p ∈ l.dropWhile (fun p => decide (p.1 < k)), k ≤ p.1
  | [], _, _, h => by cases h
  | q :: l, h, p, hp => by
    cases h with
    | cons h1 h2 =>
      rw [List.dropWhile_cons] at hp
      split at hp
      · exact drop_ge h2 p hp
      · rename_i he
        simp only [decide_eq_true_eq] at he
        rcases List.mem_cons.1 hp with rfl | hp
        · omega
        · have := h1 p hp; omega
theorem take_lt {k : Int} : ∀ {l : List PR}, ∀ p ∈ l.takeWhile (fun p => decide (p.1 < k)), p.1 < k
  | [], _, h => by cases h
  | q :: l, p, hp => by
    rw [List.takeWhile_cons] at hp
    split at hp
    · rename_i he
      rcases List.mem_cons.1 hp with rfl | hp
      · simpa using he
      · exact take_lt p hp
    · cases hp
theorem put_key {t : TR} {p : PR} (h : p ∈ putT t) : p.1 = t.1 := by
  unfold putT at h
  split at h
  · simp only [List.mem_singleton] at h; rw [h]
  · cases h
theorem mk_rise : ∀ {l : List TR} {a : List PR}, rise a → riseT l → rise (mk a l)
  | [], a, h, _ => by rw [mk_end]; exact h
  | t :: r, a, h, hl => by
    cases hl with
    | cons h1 h2 =>
      have hs := skip_rise (k := t.1) (l := a.dropWhile fun p => decide (p.1 < t.1)) (h.sublist (List.dropWhile_sublist _)) (drop_ge h)
      have hg : ∀ p ∈ mk (skipK t.1 (a.dropWhile fun p => decide (p.1 < t.1))) r, t.1 < p.1 := fun p hp => by
        rcases mk_mem hp with hp | ⟨u, hu, hp⟩
        · exact hs.2 p hp
        · have := h1 u hu; have := put_key hp; omega
      simp only [mk]
      refine List.pairwise_append.2 ⟨h.sublist (List.takeWhile_sublist _), List.pairwise_append.2 ⟨?_, mk_rise hs.1 h2, fun p hp q hq => ?_⟩, fun p hp q hq => ?_⟩
      · unfold putT; split
        · exact List.pairwise_singleton _ _
        · exact List.Pairwise.nil
      · have := put_key hp; have := hg q hq; omega
      · have := take_lt p hp
        rcases List.mem_append.1 hq with hq | hq
        · have := put_key hq; omega
        · have := hg q hq; omega
theorem keep_cons {t : TR} {r : List TR} {a : List PR} (h : rise a) (hl : riseT (t :: r)) : keepA (t :: r) a = a.takeWhile (fun p => decide (p.1 < t.1)) ++ keepA r (skipK t.1 (a.dropWhile fun p => decide (p.1 < t.1))) := by
  have h1 : ∀ u ∈ t :: r, t.1 ≤ u.1 := fun u hu => by
    cases hl with
    | cons h1 _ =>
      rcases List.mem_cons.1 hu with rfl | hu
      · exact Int.le_refl _
      · have := h1 u hu; omega
  have e0 : keepA (t :: r) a = keepA (t :: r) (a.takeWhile fun p => decide (p.1 < t.1)) ++ keepA (t :: r) (a.dropWhile fun p => decide (p.1 < t.1)) := by
    unfold keepA
    rw [← List.filter_append, List.takeWhile_append_dropWhile]
  have e1 : keepA (t :: r) (a.takeWhile fun p => decide (p.1 < t.1)) = a.takeWhile fun p => decide (p.1 < t.1) := by
    refine List.filter_eq_self.2 fun p hp => ?_
    have hp := take_lt p hp
    simp only [goneT, Bool.not_eq_true', List.any_eq_false, beq_iff_eq]
    intro u hu he
    have := h1 u hu
    omega
  have e3 : ∀ X : List PR, (∀ p ∈ X, t.1 < p.1) → keepA (t :: r) X = keepA r X := fun X hX => by
    refine List.filter_congr fun p hp => ?_
    have := hX p hp
    rw [goneT, goneT, List.any_cons, show (t.1 == p.1) = false from beq_eq_false_iff_ne.2 (by omega), Bool.false_or]
  have e2 : keepA (t :: r) (a.dropWhile fun p => decide (p.1 < t.1)) = keepA r (skipK t.1 (a.dropWhile fun p => decide (p.1 < t.1))) := by
    have hs := skip_rise (k := t.1) (l := a.dropWhile fun p => decide (p.1 < t.1)) (h.sublist (List.dropWhile_sublist _)) (drop_ge h)
    generalize a.dropWhile (fun p => decide (p.1 < t.1)) = X at hs ⊢
    cases X with
    | nil => rfl
    | cons q X =>
      rw [skip_cons] at hs ⊢
      split
      · rename_i he
        rw [if_pos he] at hs
        rw [← e3 _ hs.2, keepA, List.filter_cons, if_neg (by simp [goneT, he]), keepA]
      · rename_i he
        rw [if_neg he] at hs
        exact e3 _ hs.2
  rw [e0, e1, e2]
theorem keep_perm : ∀ {l : List TR} {a : List PR}, rise a → riseT l → (keepA l a ++ puts l).Perm (mk a l)
  | [], a, h, _ => by
    rw [mk_end]
    have : keepA [] a = a := List.filter_eq_self.2 fun p _ => rfl
    rw [this]; simp [puts]
  | t :: r, a, h, hl => by
    rw [keep_cons h hl]
    have hs := skip_rise (k := t.1) (l := a.dropWhile fun p => decide (p.1 < t.1)) (h.sublist (List.dropWhile_sublist _)) (drop_ge h)
    have ih := keep_perm hs.1 (List.Pairwise.of_cons hl)
    simp only [mk, puts, List.flatMap_cons, List.append_assoc] at ih ⊢
    refine List.Perm.append_left _ ?_
    refine List.Perm.trans ?_ (List.Perm.append_left _ ih)
    rw [← List.append_assoc, ← List.append_assoc]
    exact List.Perm.append_right _ List.perm_append_comm
theorem strict_perm {code : Nat} : ∀ {l : List PR}, (l.Pairwise fun a b => cfOf code a b ≠ 0) → strictZ code l = true
  | [], _ => rfl
  | x :: r, h => by
    cases h with
    | cons h1 h2 =>
      simp only [strictZ, Bool.and_eq_true, List.all_eq_true, bne_iff_ne]
      exact ⟨fun y hy => h1 y hy, strict_perm h2⟩
/-- What is kept and what is put, sorted, is the table that is turned. -/
theorem sort_make {l : List TR} {a : List PR} (h : rise a) (hl : riseT l) : strictZ 0 (keepA l a ++ puts l) = true ∧ sortZ 0 (keepA l a ++ puts l) = mk a l := by
  have hp := keep_perm h hl
  have hr := mk_rise h hl
  have h0 : ∀ x y : PR, cfOf 0 x y = cmpZ x.1 y.1 := fun x y => by unfold cfOf; rw [if_pos rfl]
  have hne : (mk a l).Pairwise fun a b => cfOf 0 a b ≠ 0 := hr.imp fun {x y} hxy => by
    rw [h0, Ne, cmpZ_zero]; omega
  have hst : strictZ 0 (keepA l a ++ puts l) = true := strict_perm (hp.symm.pairwise hne fun {x y} h => by rw [cf_rev]; omega)
  refine ⟨hst, (sortZ_unique hst hp.symm (hr.imp fun {x y} hxy => ?_)).symm⟩
  rw [h0, cmpZ_pos]; omega
theorem chkFrom_of : ∀ {l : List PR} {lo : Int}, rise l → (∀ p ∈ l, lo < p.1 ∧ p.1 < 4096 ∧ -1099511627776 ≤ p.2 ∧ p.2 ≤ 1099511627776) → chkFrom lo l = true
  | [], _, _, _ => rfl
  | p :: r, lo, h, hb => by
    cases h with
    | cons h1 h2 =>
      simp only [chkFrom, Bool.and_eq_true]
      refine ⟨decide_eq_true (hb p (by simp)), chkFrom_of h2 fun q hq => ⟨h1 q hq, (hb q (by simp [hq])).2⟩⟩
theorem make_chk {l : List TR} {a : List PR} (h : chk a = true) (hl : chkT l = true) : chk (mk a l) = true ∧ chk (keepA l a) = true ∧ chk (puts l) = true := by
  obtain ⟨h1, h2⟩ := chkFrom_rise a (-1) h
  obtain ⟨h3, h4⟩ := chkT_rise l (-1) hl
  have hput : ∀ t ∈ l, ∀ p ∈ putT t, -1 < p.1 ∧ p.1 < 4096 ∧ -1099511627776 ≤ p.2 ∧ p.2 ≤ 1099511627776 := fun t ht p hp => by
    have h5 := h4 t ht
    unfold putT at hp
    split at hp
    · rename_i hs
      simp only [List.mem_singleton] at hp
      subst hp
      have := h5.2.2.2.1
      rw [okC, if_pos hs] at this
      have := of_decide_eq_true this
      exact ⟨h5.1, h5.2.1, this⟩
    · cases hp
  refine ⟨chkFrom_of (mk_rise h1 h3) fun p hp => ?_, chkFrom_of (h1.sublist List.filter_sublist) fun p hp => h2 p (List.mem_filter.1 hp).1, chkFrom_of ?_ fun p hp => ?_⟩
  · rcases mk_mem hp with hp | ⟨t, ht, hp⟩
    · exact h2 p hp
    · exact hput t ht p hp
  · have hk : ∀ l : List TR, riseT l → rise (puts l) := fun l hl => by
      have e : puts l = keepA l [] ++ puts l := rfl
      have := mk_rise (l := l) (a := []) List.Pairwise.nil hl
      have e2 : ∀ l : List TR, mk [] l = puts l := fun l => by
        induction l with
        | nil => rfl
        | cons t r ih => rw [mk_no, ih]; simp [puts]
      rwa [e2] at this
    exact hk l h3
  · obtain ⟨t, ht, hp⟩ := List.mem_flatMap.1 hp
    exact hput t ht p hp
end Go.Proofs.Ytknblodiilgogaa
