/- The turns between two tables: the document's answer. -/
import Derived.Test.YtknblodiilgogaaD7
set_option linter.all false
set_option maxRecDepth 100000
namespace Go.Proofs.Ytknblodiilgogaa
open Go Go.Abs

theorem chkFrom_cons {lo : Int} {p : PR} {r : List PR} : chkFrom lo (p :: r) = true ↔ (lo < p.1 ∧ p.1 < 4096 ∧ -1099511627776 ≤ p.2 ∧ p.2 ≤ 1099511627776) ∧ chkFrom p.1 r = true := by
  simp only [chkFrom, okP, Bool.and_eq_true, decide_eq_true_eq]
theorem chkFrom_lo {lo lo' : Int} {l : List PR} (h : chkFrom lo l = true) (hl : ∀ p, l.head? = some p → lo' < p.1) : chkFrom lo' l = true := by
  cases l with
  | nil => rfl
  | cons p r =>
    rw [chkFrom_cons] at h ⊢
    exact ⟨⟨hl p rfl, h.1.2⟩, h.2⟩
theorem getP_small {k : Int} : ∀ {l : List PR} {lo : Int}, chkFrom lo l = true → k ≤ lo → getP l k = (0, false)
  | [], _, _, _ => rfl
  | p :: r, lo, h, hk => by
    rw [chkFrom_cons] at h
    rw [getP, if_neg (by omega)]
    exact getP_small h.2 (by omega)
theorem getP_skip {k : Int} : ∀ {l : List PR} {i : Nat}, (∀ p ∈ l.take i, p.1 < k) → getP l k = getP (l.drop i) k
  | [], i, _ => by simp
  | p :: r, 0, _ => rfl
  | p :: r, i + 1, h => by
    rw [getP, if_neg (by have := h p (by simp); omega), List.drop_succ_cons]
    exact getP_skip fun q hq => h q (by simp [hq])

/-- All up to lo is behind. -/
def Front (A B : List PR) (i k : Nat) (lo : Int) : Prop :=
  chkFrom lo (A.drop i) = true ∧ chkFrom lo (B.drop k) = true ∧ (∀ p ∈ A.take i, p.1 ≤ lo) ∧ ∀ p ∈ B.take k, p.1 ≤ lo

theorem take_mem {l : List PR} {i : Nat} {p : PR} (h : i < l.length) (hp : p ∈ l.take (i + 1)) : p ∈ l.take i ∨ p = l[i] := by
  rw [List.take_succ_eq_append_getElem h, List.mem_append, List.mem_singleton] at hp
  exact hp

section
variable {A B : List PR} {i k : Nat} {lo : Int}
theorem Front.a (h : Front A B i k lo) (hi : i < A.length) : lo < A[i].1 ∧ A[i].1 < 4096 ∧ chkFrom A[i].1 (A.drop (i + 1)) = true := by
  have := h.1
  rw [List.drop_eq_getElem_cons hi, chkFrom_cons] at this
  exact ⟨this.1.1, this.1.2.1, this.2⟩
theorem Front.b (h : Front A B i k lo) (hk : k < B.length) : lo < B[k].1 ∧ B[k].1 < 4096 ∧ chkFrom B[k].1 (B.drop (k + 1)) = true := by
  have := h.2.1
  rw [List.drop_eq_getElem_cons hk, chkFrom_cons] at this
  exact ⟨this.1.1, this.1.2.1, this.2⟩
theorem Front.getA (h : Front A B i k lo) (hi : i < A.length) : getP A A[i].1 = cellOf (some A[i]) := by
  have ha := h.a hi
  rw [getP_skip (i := i) fun p hp => by have := h.2.2.1 p hp; omega, List.drop_eq_getElem_cons hi, getP, if_pos rfl]; rfl
theorem Front.getB (h : Front A B i k lo) (hk : k < B.length) : getP B B[k].1 = cellOf (some B[k]) := by
  have ha := h.b hk
  rw [getP_skip (i := k) fun p hp => by have := h.2.2.2 p hp; omega, List.drop_eq_getElem_cons hk, getP, if_pos rfl]; rfl
theorem Front.noA (h : Front A B i k lo) {x : Int} (hx : lo < x) (hlt : ∀ hi : i < A.length, x < A[i].1) : getP A x = cellOf none := by
  rw [getP_skip (i := i) fun p hp => by have := h.2.2.1 p hp; omega]
  by_cases hi : i < A.length
  · have ha := h.a hi
    rw [List.drop_eq_getElem_cons hi, getP, if_neg (by have := hlt hi; omega)]
    exact getP_small ha.2.2 (by have := hlt hi; omega)
  · rw [List.drop_of_length_le (by omega)]; rfl
theorem Front.noB (h : Front A B i k lo) {x : Int} (hx : lo < x) (hlt : ∀ hk : k < B.length, x < B[k].1) : getP B x = cellOf none := by
  rw [getP_skip (i := k) fun p hp => by have := h.2.2.2 p hp; omega]
  by_cases hk : k < B.length
  · have ha := h.b hk
    rw [List.drop_eq_getElem_cons hk, getP, if_neg (by have := hlt hk; omega)]
    exact getP_small ha.2.2 (by have := hlt hk; omega)
  · rw [List.drop_of_length_le (by omega)]; rfl
theorem head_drop {l : List PR} {k : Nat} {p : PR} (h : (l.drop k).head? = some p) : ∃ hk : k < l.length, p = l[k] := by
  rw [List.head?_drop] at h
  obtain ⟨hk, he⟩ := List.getElem?_eq_some_iff.1 h
  exact ⟨hk, he.symm⟩
theorem adv_both (h : Front A B i k lo) (hi : i < A.length) (hk : k < B.length) (he : B[k].1 = A[i].1) : Front A B (i + 1) (k + 1) A[i].1 := by
  have ha := h.a hi
  have hb := h.b hk
  refine ⟨ha.2.2, he ▸ hb.2.2, fun p hp => ?_, fun p hp => ?_⟩
  · rcases take_mem hi hp with hp | rfl
    · have := h.2.2.1 p hp; omega
    · omega
  · rcases take_mem hk hp with hp | rfl
    · have := h.2.2.2 p hp; omega
    · omega
theorem adv_a (h : Front A B i k lo) (hi : i < A.length) (hlt : ∀ hk : k < B.length, A[i].1 < B[k].1) : Front A B (i + 1) k A[i].1 := by
  have ha := h.a hi
  refine ⟨ha.2.2, chkFrom_lo h.2.1 fun p hp => ?_, fun p hp => ?_, fun p hp => ?_⟩
  · obtain ⟨hk, rfl⟩ := head_drop hp; exact hlt hk
  · rcases take_mem hi hp with hp | rfl
    · have := h.2.2.1 p hp; omega
    · omega
  · have := h.2.2.2 p hp; omega
theorem adv_b (h : Front A B i k lo) (hk : k < B.length) (hlt : ∀ hi : i < A.length, B[k].1 < A[i].1) : Front A B i (k + 1) B[k].1 := by
  have hb := h.b hk
  refine ⟨chkFrom_lo h.1 fun p hp => ?_, hb.2.2, fun p hp => ?_, fun p hp => ?_⟩
  · obtain ⟨hi, rfl⟩ := head_drop hp; exact hlt hi
  · have := h.2.2.1 p hp; omega
  · rcases take_mem hk hp with hp | rfl
    · have := h.2.2.2 p hp; omega
    · omega
variable {O : List TR}
theorem mergeAB (hi : i < A.length) (hk : k < B.length) : merge (A.drop i) (B.drop k) O =
    if A[i].1 < B[k].1 then merge (A.drop (i + 1)) (B[k] :: B.drop (k + 1)) (emit A[i].1 (some A[i]) none O)
    else if B[k].1 < A[i].1 then merge (A[i] :: A.drop (i + 1)) (B.drop (k + 1)) (emit B[k].1 none (some B[k]) O)
    else merge (A.drop (i + 1)) (B.drop (k + 1)) (emit A[i].1 (some A[i]) (some B[k]) O) := by
  rw [List.drop_eq_getElem_cons hi, List.drop_eq_getElem_cons hk, merge]
theorem mergeA0 (hi : i < A.length) (hk : ¬ k < B.length) : merge (A.drop i) (B.drop k) O = merge (A.drop (i + 1)) (B.drop k) (emit A[i].1 (some A[i]) none O) := by
  rw [List.drop_eq_getElem_cons hi, List.drop_of_length_le (l := B) (by omega), merge]
theorem merge0B (hi : ¬ i < A.length) (hk : k < B.length) : merge (A.drop i) (B.drop k) O = merge (A.drop i) (B.drop (k + 1)) (emit B[k].1 none (some B[k]) O) := by
  rw [List.drop_eq_getElem_cons hk, List.drop_of_length_le (l := A) (by omega), merge]
end

theorem h35 (l : List PR) (k : Int) (hlen : l.length ≤ 100000) : (Lim cfg).call 28 [.sl true (l.map prow), .int .i64 k] [] = some (.agg [.int .i64 (getP l k).1, .bool (getP l k).2], false, []) := call_28 l k hlen

def S14 (A B : List PR) (x : Nat × Nat × List TR) : St := { fr := mkF 104 [(0, .sl true (A.map prow)), (1, .sl true (B.map prow)), (6, .sl true (x.2.2.map trow)), (7, .int .i64 x.1), (8, .int .i64 x.2.1)], own := [6], hp := [], al := [], nb := 0 }

end Go.Proofs.Ytknblodiilgogaa
