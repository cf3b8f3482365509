/- What turns make, one behind the other: the plain law of it. -/
import Derived.Test.YtknblodiilgogaaD12
set_option linter.all false
set_option maxRecDepth 100000
namespace Go.Proofs.Ytknblodiilgogaa
open Go Go.Abs

theorem chkTFrom_cons {lo : Int} {p : TR} {r : List TR} : chkTFrom lo (p :: r) = true ↔ (lo < p.1 ∧ p.1 < 4096 ∧ okC p.2.1 = true ∧ okC p.2.2 = true ∧ p.2.1 ≠ p.2.2) ∧ chkTFrom p.1 r = true := by
  simp only [chkTFrom, okT, Bool.and_eq_true, decide_eq_true_eq]
theorem chkTFrom_lo {lo lo' : Int} {l : List TR} (h : chkTFrom lo l = true) (hl : ∀ p, l.head? = some p → lo' < p.1) : chkTFrom lo' l = true := by
  cases l with
  | nil => rfl
  | cons p r => rw [chkTFrom_cons] at h ⊢; exact ⟨⟨hl p rfl, h.1.2⟩, h.2⟩
theorem chkTFrom_mem {p : TR} : ∀ {l : List TR} {lo : Int}, chkTFrom lo l = true → p ∈ l → lo < p.1
  | q :: r, lo, h, hp => by
    rw [chkTFrom_cons] at h
    rcases List.mem_cons.1 hp with rfl | hp
    · exact h.1.1
    · have := chkTFrom_mem h.2 hp; omega

theorem take_memT {l : List TR} {i : Nat} {p : TR} (h : i < l.length) (hp : p ∈ l.take (i + 1)) : p ∈ l.take i ∨ p = l[i] := by
  rw [List.take_succ_eq_append_getElem h, List.mem_append, List.mem_singleton] at hp
  exact hp
theorem head_dropT {l : List TR} {k : Nat} {p : TR} (h : (l.drop k).head? = some p) : ∃ hk : k < l.length, p = l[k] := by
  rw [List.head?_drop] at h
  obtain ⟨hk, he⟩ := List.getElem?_eq_some_iff.1 h
  exact ⟨hk, he.symm⟩

/-- All up to lo lies before i. -/
def FrontT (l : List TR) (i : Nat) (lo : Int) : Prop := chkTFrom lo (l.drop i) = true ∧ ∀ p ∈ l.take i, p.1 ≤ lo
section
variable {l : List TR} {i : Nat} {lo x : Int}
theorem FrontT.get (h : FrontT l i lo) (hi : i < l.length) : lo < l[i].1 ∧ l[i].1 < 4096 ∧ l[i].2.1 ≠ l[i].2.2 ∧ chkTFrom l[i].1 (l.drop (i + 1)) = true := by
  have := h.1
  rw [List.drop_eq_getElem_cons hi, chkTFrom_cons] at this
  exact ⟨this.1.1, this.1.2.1, this.1.2.2.2.2, this.2⟩
theorem FrontT.idx (h : FrontT l i lo) (hi : i < l.length) : idxT l l[i].1 = i := by
  have hg := h.get hi
  have : l.findIdx? (fun t => t.1 == l[i].1) = some i := by
    rw [List.findIdx?_eq_some_iff_getElem]
    refine ⟨hi, by simp, fun j hj => ?_⟩
    have := h.2 l[j] (List.mem_take_iff_getElem.2 ⟨j, by omega, rfl⟩)
    have : ¬ l[j].1 = l[i].1 := by omega
    simpa using this
  rw [idxT, this]
theorem FrontT.no (h : FrontT l i lo) (hx : lo < x) (hlt : ∀ hi : i < l.length, x < l[i].1) : idxT l x = -1 := by
  have : l.findIdx? (fun t => t.1 == x) = none := by
    rw [List.findIdx?_eq_none_iff]
    intro t ht
    have hne : ¬ t.1 = x := by
      rw [← List.take_append_drop i l, List.mem_append] at ht
      rcases ht with ht | ht
      · have := h.2 t ht; omega
      · by_cases hi : i < l.length
        · have hg := h.get hi
          have hxi := hlt hi
          rw [List.drop_eq_getElem_cons hi] at ht
          rcases List.mem_cons.1 ht with rfl | ht
          · omega
          · have := chkTFrom_mem hg.2.2.2 ht; omega
        · rw [List.drop_of_length_le (by omega)] at ht; cases ht
    simpa using hne
  rw [idxT, this]
theorem FrontT.adv (h : FrontT l i lo) (hi : i < l.length) : FrontT l (i + 1) l[i].1 := by
  have hg := h.get hi
  refine ⟨hg.2.2.2, fun p hp => ?_⟩
  rcases take_memT hi hp with hp | rfl
  · have := h.2 p hp; omega
  · omega
theorem FrontT.stay (h : FrontT l i lo) (hx : lo < x) (hlt : ∀ hi : i < l.length, x < l[i].1) : FrontT l i x := by
  refine ⟨chkTFrom_lo h.1 fun p hp => ?_, fun p hp => ?_⟩
  · obtain ⟨hk, rfl⟩ := head_dropT hp; exact hlt hk
  · have := h.2 p hp; omega
theorem FrontT.start (h : chkT l = true) : FrontT l 0 (-1) := ⟨by simpa [chkT] using h, by simp⟩
end

def tadd (O : List TR) (t : TR) : List TR := if t.2.1 = t.2.2 then O else O ++ [t]
theorem tadd_len (O : List TR) (t : TR) : (tadd O t).length ≤ O.length + 1 := by unfold tadd; split <;> simp
/-- The program's answer: whether none clash, what is left, what was made. -/
def tm : List TR → List TR → List TR → Bool × List TR × List TR × List TR
  | [], [], O => (true, [], [], O)
  | p :: A, [], O => tm A [] (tadd O p)
  | [], q :: B, O => tm [] B (tadd O q)
  | p :: A, q :: B, O =>
    if p.1 < q.1 then tm A (q :: B) (tadd O p)
    else if q.1 < p.1 then tm (p :: A) B (tadd O q)
    else if p.2.2 = q.2.1 then tm A B (tadd O (p.1, p.2.1, q.2.2))
    else (false, A, B, O)
  termination_by A B => A.length + B.length
theorem tm_nil {l m : List TR} {i k : Nat} {O : List TR} (hi : ¬ i < l.length) (hk : ¬ k < m.length) : tm (l.drop i) (m.drop k) O = (true, [], [], O) := by
  rw [List.drop_of_length_le (by omega), List.drop_of_length_le (by omega), tm]
theorem tmAB {l m : List TR} {i k : Nat} {O : List TR} (hi : i < l.length) (hk : k < m.length) : tm (l.drop i) (m.drop k) O =
    if l[i].1 < m[k].1 then tm (l.drop (i + 1)) (m[k] :: m.drop (k + 1)) (tadd O l[i])
    else if m[k].1 < l[i].1 then tm (l[i] :: l.drop (i + 1)) (m.drop (k + 1)) (tadd O m[k])
    else if l[i].2.2 = m[k].2.1 then tm (l.drop (i + 1)) (m.drop (k + 1)) (tadd O (l[i].1, l[i].2.1, m[k].2.2))
    else (false, l.drop (i + 1), m.drop (k + 1), O) := by
  rw [List.drop_eq_getElem_cons hi, List.drop_eq_getElem_cons hk, tm]
theorem tmA0 {l m : List TR} {i k : Nat} {O : List TR} (hi : i < l.length) (hk : ¬ k < m.length) : tm (l.drop i) (m.drop k) O = tm (l.drop (i + 1)) (m.drop k) (tadd O l[i]) := by
  rw [List.drop_eq_getElem_cons hi, List.drop_of_length_le (l := m) (by omega), tm]
theorem tm0B {l m : List TR} {i k : Nat} {O : List TR} (hi : ¬ i < l.length) (hk : k < m.length) : tm (l.drop i) (m.drop k) O = tm (l.drop i) (m.drop (k + 1)) (tadd O m[k]) := by
  rw [List.drop_eq_getElem_cons hk, List.drop_of_length_le (l := l) (by omega), tm]
def thenR (l m : List TR) : List TR × Int := if chkT l && chkT m then (if (tm l m []).1 then ((tm l m []).2.2.2, 0) else ([], 7)) else ([], 1)

theorem kmerge_len : ∀ (A B : List TR), (kmerge A B).length ≤ A.length + B.length
  | [], [] => by simp [kmerge]
  | p :: A, [] => by have := kmerge_len A []; simp only [kmerge, List.length_cons, List.length_nil] at *; omega
  | [], q :: B => by have := kmerge_len [] B; simp only [kmerge, List.length_cons, List.length_nil] at *; omega
  | p :: A, q :: B => by
    have h1 := kmerge_len A (q :: B); have h2 := kmerge_len (p :: A) B; have h3 := kmerge_len A B
    rw [kmerge]
    simp only [List.length_cons] at *
    split
    · simp only [List.length_cons]; omega
    · split <;> (simp only [List.length_cons]; omega)
termination_by A B => A.length + B.length

theorem kstep {K : List Int} {n : Nat} {x : Int} {r : List Int} (h : K.drop n = x :: r) : ∃ hn : n < K.length, K[n] = x ∧ K.drop (n + 1) = r := by
  have hn : n < K.length := by
    rcases Nat.lt_or_ge n K.length with h1 | h1
    · exact h1
    · rw [List.drop_of_length_le h1] at h; cases h
  rw [List.drop_eq_getElem_cons hn] at h
  exact ⟨hn, (List.cons.inj h).1, (List.cons.inj h).2⟩
end Go.Proofs.Ytknblodiilgogaa
