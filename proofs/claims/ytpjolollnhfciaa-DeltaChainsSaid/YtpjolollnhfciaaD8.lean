/- The turns between two tables: the document's answer. -/
import Derived.Test.YtpjolollnhfciaaD7
set_option linter.all false
set_option maxRecDepth 100000
namespace Go.Proofs.Ytpjolollnhfciaa
open Go Go.Abs

theorem chkFrom_cons {lo : Int} {p : PR} {r : List PR} : chkFrom lo (p :: r) = true ↔ (lo < p.1 ∧ p.1 < 4096 ∧ -1099511627776 ≤ p.2 ∧ p.2 ≤ 1099511627776) ∧ chkFrom p.1 r = true := by
  simp only [chkFrom, okP, Bool.and_eq_true, decide_eq_true_eq]
theorem chkFrom_lo {lo lo' : Int} {l : List PR} (h : chkFrom lo l = true) (hl : ∀ p, l.head? = some p → lo' < p.1) : chkFrom lo' l = true := by
  cases l with
  | nil => rfl
  | cons p r =>
    rw [chkFrom_cons] at h ⊢
    exact ⟨⟨hl p rfl, h.1.2⟩, h.2⟩
theorem getP_small {k : Int} : ∀ {l : List PR} {lo : Int}, chkFrom lo l = true → k ≤ lo → getP l k = (0, false)
  | [], _, _, _ => rfl
  | p :: r, lo, h, hk => by
    rw [chkFrom_cons] at h
    rw [getP, if_neg (by omega)]
    exact getP_small h.2 (by omega)
theorem getP_skip {k : Int} : ∀ {l : List PR} {i : Nat}, (∀ p ∈ l.take i, p.1 < k) → getP l k = getP (l.drop i) k
  | [], i, _ => by simp
  | p :: r, 0, _ => rfl
  | p :: r, i + 1, h => by
    rw [getP, if_neg (by have := h p (by simp); omega), List.drop_succ_cons]
    exact getP_skip fun q hq => h q (by simp [hq])

/-- All up to lo is behind. -/
def Front (A B : List PR) (i k : Nat) (lo : Int) : Prop :=
  chkFrom lo (A.drop i) = true ∧ chkFrom lo (B.drop k) = true ∧ (∀ p ∈ A.take i, p.1 ≤ lo) ∧ ∀ p ∈ B.take k, p.1 ≤ lo

theorem take_mem {l : List PR} {i : Nat} {p : PR} (h : i < l.length) (hp : p ∈ l.take (i + 1)) : p ∈ l.take i ∨ p = l[i] := by
  rw [List.take_succ_eq_append_getElem h, List.mem_append, List.mem_singleton] at hp
  exact hp

section
variable {A B : List PR} {i k : Nat} {lo : Int}
theorem Front.a (h : Front A B i k lo) (hi : i < A.length) : lo < A[i].1 ∧ A[i].1 < 4096 ∧ chkFrom A[i].1 (A.drop (i + 1)) = true := by
  have := h.1
  rw [List.drop_eq_getElem_cons hi, chkFrom_cons] at this
  exact ⟨this.1.1, this.1.2.1, this.2⟩
theorem Front.b (h : Front A B i k lo) (hk : k < B.length) : lo < B[k].1 ∧ B[k].1 < 4096 ∧ chkFrom B[k].1 (B.drop (k + 1)) = true := by
  have := h.2.1
  rw [List.drop_eq_getElem_cons hk, chkFrom_cons] at this
  exact ⟨this.1.1, this.1.2.1, this.2⟩
theorem Front.getA (h : Front A B i k lo) (hi : i < A.length) : getP A A[i].1 = cellOf (some A[i]) := by
  have ha := h.a hi
  rw [getP_skip (i := i) fun p hp => by have := h.2.2.1 p hp; omega, List.drop_eq_getElem_cons hi, getP, if_pos rfl]; rfl
theorem Front.getB (h : Front A B i k lo) (hk : k < B.length) : getP B B[k].1 = cellOf (some B[k]) := by
  have ha := h.b hk
  rw [getP_skip (i := k) fun p hp => by have := h.2.2.2 p hp; omega, List.drop_eq_getElem_cons hk, getP, if_pos rfl]; rfl
theorem Front.noA (h : Front A B i k lo) {x : Int} (hx : lo < x) (hlt : ∀ hi : i < A.length, x < A[i].1) : getP A x = cellOf none := by
  rw [getP_skip (i := i) fun p hp => by have := h.2.2.1 p hp; omega]
  by_cases hi : i < A.length
  · have ha := h.a hi
    rw [List.drop_eq_getElem_cons hi, getP, if_neg (by have := hlt hi; omega)]
    exact getP_small ha.2.2 (by have := hlt hi; omega)
  · rw [List.drop_of_length_le (by omega)]; rfl
theorem Front.noB (h : Front A B i k lo) {x : Int} (hx : lo < x) (hlt : ∀ hk : k < B.length, x < B[k].1) : getP B x = cellOf none := by
  rw [getP_skip (i := k) fun p hp => by have := h.2.2.2 p hp; omega]
  by_cases hk : k < B.length
  · have ha := h.b hk
    rw [List.drop_eq_getElem_cons hk, getP, if_neg (by have := hlt hk; omega)]
    exact getP_small ha.2.2 (by have := hlt hk; omega)
  · rw [List.drop_of_length_le (by omega)]; rfl
theorem head_drop {l : List PR} {k : Nat} {p : PR} (h : (l.drop k).head? = some p) : ∃ hk : k < l.length, p = l[k] := by
  rw [List.head?_drop] at h
  obtain ⟨hk, he⟩ := List.getElem?_eq_some_iff.1 h
  exact ⟨hk, he.symm⟩
theorem adv_both (h : Front A B i k lo) (hi : i < A.length) (hk : k < B.length) (he : B[k].1 = A[i].1) : Front A B (i + 1) (k + 1) A[i].1 := by
  have ha := h.a hi
  have hb := h.b hk
  refine ⟨ha.2.2, he ▸ hb.2.2, fun p hp => ?_, fun p hp => ?_⟩
  · rcases take_mem hi hp with hp | rfl
    · have := h.2.2.1 p hp; omega
    · omega
  · rcases take_mem hk hp with hp | rfl
    · have := h.2.2.2 p hp; omega
    · omega
theorem adv_a (h : Front A B i k lo) (hi : i < A.length) (hlt : ∀ hk : k < B.length, A[i].1 < B[k].1) : Front A B (i + 1) k A[i].1 := by
  have ha := h.a hi
  refine ⟨ha.2.2, chkFrom_lo h.2.1 fun p hp => ?_, fun p hp => ?_, fun p hp => ?_⟩
  · obtain ⟨hk, rfl⟩ := head_drop hp; exact hlt hk
  · rcases take_mem hi hp with hp | rfl
    · have := h.2.2.1 p hp; omega
    · omega
  · have := h.2.2.2 p hp; omega
theorem adv_b (h : Front A B i k lo) (hk : k < B.length) (hlt : ∀ hi : i < A.length, B[k].1 < A[i].1) : Front A B i (k + 1) B[k].1 := by
  have hb := h.b hk
  refine ⟨chkFrom_lo h.1 fun p hp => ?_, hb.2.2, fun p hp => ?_, fun p hp => ?_⟩
  · obtain ⟨hi, rfl⟩ := head_drop hp; exact hlt hi
  · have := h.2.2.1 p hp; omega
  · rcases take_mem hk hp with hp | rfl
    · have := h.2.2.2 p hp; omega
    · omega
variable {O : List TR}
theorem mergeAB (hi : i < A.length) (hk : k < B.length) : merge (A.drop i) (B.drop k) O =
    if A[i].1 < B[k].1 then merge (A.drop (i + 1)) (B[k] :: B.drop (k + 1)) (emit A[i].1 (some A[i]) none O)
    else if B[k].1 < A[i].1 then merge (A[i] :: A.drop (i + 1)) (B.drop (k + 1)) (emit B[k].1 none (some B[k]) O)
    else merge (A.drop (i + 1)) (B.drop (k + 1)) (emit A[i].1 (some A[i]) (some B[k]) O) := by
  rw [List.drop_eq_getElem_cons hi, List.drop_eq_getElem_cons hk, merge]
theorem mergeA0 (hi : i < A.length) (hk : ¬ k < B.length) : merge (A.drop i) (B.drop k) O = merge (A.drop (i + 1)) (B.drop k) (emit A[i].1 (some A[i]) none O) := by
  rw [List.drop_eq_getElem_cons hi, List.drop_of_length_le (l := B) (by omega), merge]
theorem merge0B (hi : ¬ i < A.length) (hk : k < B.length) : merge (A.drop i) (B.drop k) O = merge (A.drop i) (B.drop (k + 1)) (emit B[k].1 none (some B[k]) O) := by
  rw [List.drop_eq_getElem_cons hk, List.drop_of_length_le (l := A) (by omega), merge]
end

theorem h35 (l : List PR) (k : Int) (hlen : l.length ≤ 100000) : (Lim cfg).call 35 [.sl true (l.map prow), .int .i64 k] [] = some (.agg [.int .i64 (getP l k).1, .bool (getP l k).2], false, []) := call_35 l k hlen

def S14 (A B : List PR) (x : Nat × Nat × List TR) : St := { fr := mkF 104 [(0, .sl true (A.map prow)), (1, .sl true (B.map prow)), (6, .sl true (x.2.2.map trow)), (7, .int .i64 x.1), (8, .int .i64 x.2.1)], own := [6], hp := [], al := [], nb := 0 }

set_option maxHeartbeats 16000000 in
theorem call_14 (A B : List PR) (hA : A.length ≤ 10000) (hB : B.length ≤ 10000) : (Lim cfg).call 14 [.sl true (A.map prow), .sl true (B.map prow)] [] =
    some (match between A B with | some O => .tup [.sl true (O.map trow), .int .i64 0] | none => .tup [.sl true [], .int .i64 1], false, []) := by
  have c1 := call_42 A (by omega)
  have c2 := call_42 B (by omega)
  have h35A := fun k => h35 A k (by omega)
  have h35B := fun k => h35 B k (by omega)
  unfold between
  refine call_eq fn_14 rfl ?_
  rw [k_start]
  simp only [Try.f14, List.length_cons, List.length_nil, Nat.zero_add, Nat.reduceSub, Nat.reduceAdd, List.replicate, List.cons_append, List.nil_append]
  simp only [go_sem, Nat.reduceAdd, Nat.reduceSub, Nat.reduceMul, Nat.reduceLT, Nat.reduceLeDiff, Nat.reduceEqDiff, Nat.reduceBEq, Nat.reduceBNe, reduceCtorEq, Nat.reduceLT, ty_32, ty_29, ty_3, ext_42, c1]
  cases h1 : chk A with
  | false =>
    simp only [go_sem, Nat.reduceAdd, Nat.reduceSub, Nat.reduceMul, Nat.reduceLT, Nat.reduceLeDiff, Nat.reduceEqDiff, Nat.reduceBEq, Nat.reduceBNe, reduceCtorEq, Nat.reduceLT, h1]
    refine ret2 (fun _ => ex_ret) rfl rfl rfl rfl ⟨rfl, rfl, rfl⟩
  | true =>
    simp only [go_sem, Nat.reduceAdd, Nat.reduceSub, Nat.reduceMul, Nat.reduceLT, Nat.reduceLeDiff, Nat.reduceEqDiff, Nat.reduceBEq, Nat.reduceBNe, reduceCtorEq, Nat.reduceLT, h1, ext_42, c2]
    cases h2 : chk B with
    | false =>
      simp only [go_sem, Nat.reduceAdd, Nat.reduceSub, Nat.reduceMul, Nat.reduceLT, Nat.reduceLeDiff, Nat.reduceEqDiff, Nat.reduceBEq, Nat.reduceBNe, reduceCtorEq, Nat.reduceLT, h2]
      refine ret2 (fun _ => ex_ret) rfl rfl rfl rfl ⟨rfl, rfl, rfl⟩
    | true =>
    simp only [go_sem, Nat.reduceAdd, Nat.reduceSub, Nat.reduceMul, Nat.reduceLT, Nat.reduceLeDiff, Nat.reduceEqDiff, Nat.reduceBEq, Nat.reduceBNe, reduceCtorEq, Nat.reduceLT, h2]
    refine k_loop (S14 A B) (fun x => x.1 ≤ A.length ∧ x.2.1 ≤ B.length ∧ x.2.2.length ≤ x.1 + x.2.1 ∧ (∃ lo, Front A B x.1 x.2.1 lo) ∧ merge (A.drop x.1) (B.drop x.2.1) x.2.2 = merge A B []) (fun x => (A.length - x.1) + (B.length - x.2.1)) (0, 0, []) (K := cfg.kill 14 5) rfl
      ⟨Nat.zero_le _, Nat.zero_le _, Nat.le_refl _, ⟨-1, by simpa [chk] using h1, by simpa [chk] using h2, by simp, by simp⟩, rfl⟩ (by kernel_rfl) ?_
    intro ⟨i, k, O⟩ ⟨hia, hkb, hol, ⟨lo, hlo⟩, hm⟩ k' Q' hnorm hexit hret
    simp only at hia hkb hol hlo hm
    have hbO : (O.length + 1) * 40 ≤ strMax := by unfold strMax; omega
    simp only [S14, mkF, List.foldl, List.replicate, List.set, List.cons_append, List.nil_append]
    by_cases hi : i < A.length
    · have hi1 : (i : Int) < (A.length : Int) := by omega
      have hi2 : ¬ ((i : Int) < 0) := by omega
      have hx : (A.map prow)[i]? = some [.int .i64 A[i].1, .int .i64 A[i].2] := by simp [hi, prow]
      have ha := hlo.a hi
      have hgA := hlo.getA hi
      by_cases hk : k < B.length
      · have hk1 : (k : Int) < (B.length : Int) := by omega
        have hk2 : ¬ ((k : Int) < 0) := by omega
        have hy : (B.map prow)[k]? = some [.int .i64 B[k].1, .int .i64 B[k].2] := by simp [hk, prow]
        have hb := hlo.b hk
        by_cases hlt : A[i].1 < B[k].1
        · have hgB : getP B A[i].1 = cellOf none := hlo.noB ha.1 fun _ => hlt
          have h1 : ¬ B[k].1 < A[i].1 := by omega
          have hne : (B[k].1 == A[i].1) = false := by simp; omega
          simp only [go_sem, Nat.reduceAdd, Nat.reduceSub, Nat.reduceMul, Nat.reduceLT, Nat.reduceLeDiff, Nat.reduceEqDiff, Nat.reduceBEq, Nat.reduceBNe, reduceCtorEq, Nat.reduceLT, ty_32, ty_86, ty_68, ty_3, ty_4, ty_29, ty_88, ext_35, h35A, h35B, hgA, hgB, hi1, hk1, hi2, hk2, hx, hy, Int.toNat_natCast, h1, hne]
          rw [eq_cell]
          refine WC_split (fun he => ?_) (fun he => ?_) <;> simp only [go_sem, Nat.reduceAdd, Nat.reduceSub, Nat.reduceMul, Nat.reduceLT, Nat.reduceLeDiff, Nat.reduceEqDiff, Nat.reduceBEq, Nat.reduceBNe, reduceCtorEq, Nat.reduceLT, ty_32, ty_86, ty_68, ty_3, ty_4, ty_29, ty_88, ext_35, fit_trow, head_trow, hbO, head_trow', hi1, hk1, hi2, hk2, hx, hy, Int.toNat_natCast, h1, hne]
          · simp only [Bool.not_eq_true', decide_eq_false_iff_not] at he
            have ho : emit A[i].1 (some A[i]) none O = O ++ [(A[i].1, cellOf (some A[i]), cellOf none)] := by rw [emit, if_neg he]
            try rw [wrap_i64 (n := (i : Int) + 1) (by omega) (by omega)]
            try rw [wrap_i64 (n := (k : Int) + 1) (by omega) (by omega)]
            refine hnorm (i + 1, k, emit A[i].1 (some A[i]) none O) _ ⟨by show i + 1 ≤ A.length; omega, by show k ≤ B.length; omega, by have := emit_len A[i].1 (some A[i]) none O; show (emit A[i].1 (some A[i]) none O).length ≤ i + 1 + (k); omega, ⟨A[i].1, ?_⟩, ?_⟩ ?_ (by rw [S14, ho, List.map_append]; kernel_rfl)
            · exact adv_a hlo hi (fun _ => by omega)
            · rw [← hm, mergeAB hi hk, if_pos hlt, List.drop_eq_getElem_cons hk]
            · show (A.length - (i + 1)) + (B.length - (k)) < (A.length - i) + (B.length - k); omega
          · simp only [Bool.not_eq_false', decide_eq_true_eq] at he
            have ho : emit A[i].1 (some A[i]) none O = O := by rw [emit, if_pos he]
            try rw [wrap_i64 (n := (i : Int) + 1) (by omega) (by omega)]
            try rw [wrap_i64 (n := (k : Int) + 1) (by omega) (by omega)]
            refine hnorm (i + 1, k, emit A[i].1 (some A[i]) none O) _ ⟨by show i + 1 ≤ A.length; omega, by show k ≤ B.length; omega, by have := emit_len A[i].1 (some A[i]) none O; show (emit A[i].1 (some A[i]) none O).length ≤ i + 1 + (k); omega, ⟨A[i].1, ?_⟩, ?_⟩ ?_ (by rw [S14, ho]; kernel_rfl)
            · exact adv_a hlo hi (fun _ => by omega)
            · rw [← hm, mergeAB hi hk, if_pos hlt, List.drop_eq_getElem_cons hk]
            · show (A.length - (i + 1)) + (B.length - (k)) < (A.length - i) + (B.length - k); omega
        · by_cases hgt : B[k].1 < A[i].1
          · have hgB := hlo.getB hk
            have hgA : getP A B[k].1 = cellOf none := hlo.noA hb.1 fun _ => hgt
            have h1 := hgt
            have hlt := hgt
            have hne : (A[i].1 == B[k].1) = false := by simp; omega
            simp only [go_sem, Nat.reduceAdd, Nat.reduceSub, Nat.reduceMul, Nat.reduceLT, Nat.reduceLeDiff, Nat.reduceEqDiff, Nat.reduceBEq, Nat.reduceBNe, reduceCtorEq, Nat.reduceLT, ty_32, ty_86, ty_68, ty_3, ty_4, ty_29, ty_88, ext_35, h35A, h35B, hgA, hgB, hi1, hk1, hi2, hk2, hx, hy, Int.toNat_natCast, h1, hne]
            rw [eq_cell]
            refine WC_split (fun he => ?_) (fun he => ?_) <;> simp only [go_sem, Nat.reduceAdd, Nat.reduceSub, Nat.reduceMul, Nat.reduceLT, Nat.reduceLeDiff, Nat.reduceEqDiff, Nat.reduceBEq, Nat.reduceBNe, reduceCtorEq, Nat.reduceLT, ty_32, ty_86, ty_68, ty_3, ty_4, ty_29, ty_88, ext_35, fit_trow, head_trow, hbO, head_trow', hi1, hk1, hi2, hk2, hx, hy, Int.toNat_natCast, h1, hne]
            · simp only [Bool.not_eq_true', decide_eq_false_iff_not] at he
              have ho : emit B[k].1 none (some B[k]) O = O ++ [(B[k].1, cellOf none, cellOf (some B[k]))] := by rw [emit, if_neg he]
              try rw [wrap_i64 (n := (i : Int) + 1) (by omega) (by omega)]
              try rw [wrap_i64 (n := (k : Int) + 1) (by omega) (by omega)]
              refine hnorm (i, k + 1, emit B[k].1 none (some B[k]) O) _ ⟨by show i ≤ A.length; omega, by show k + 1 ≤ B.length; omega, by have := emit_len B[k].1 none (some B[k]) O; show (emit B[k].1 none (some B[k]) O).length ≤ i + (k + 1); omega, ⟨B[k].1, ?_⟩, ?_⟩ ?_ (by rw [S14, ho, List.map_append]; kernel_rfl)
              · exact adv_b hlo hk (fun _ => by omega)
              · rw [← hm, mergeAB hi hk, if_neg (by omega), if_pos hlt, List.drop_eq_getElem_cons hi]
              · show (A.length - (i)) + (B.length - (k + 1)) < (A.length - i) + (B.length - k); omega
            · simp only [Bool.not_eq_false', decide_eq_true_eq] at he
              have ho : emit B[k].1 none (some B[k]) O = O := by rw [emit, if_pos he]
              try rw [wrap_i64 (n := (i : Int) + 1) (by omega) (by omega)]
              try rw [wrap_i64 (n := (k : Int) + 1) (by omega) (by omega)]
              refine hnorm (i, k + 1, emit B[k].1 none (some B[k]) O) _ ⟨by show i ≤ A.length; omega, by show k + 1 ≤ B.length; omega, by have := emit_len B[k].1 none (some B[k]) O; show (emit B[k].1 none (some B[k]) O).length ≤ i + (k + 1); omega, ⟨B[k].1, ?_⟩, ?_⟩ ?_ (by rw [S14, ho]; kernel_rfl)
              · exact adv_b hlo hk (fun _ => by omega)
              · rw [← hm, mergeAB hi hk, if_neg (by omega), if_pos hlt, List.drop_eq_getElem_cons hi]
              · show (A.length - (i)) + (B.length - (k + 1)) < (A.length - i) + (B.length - k); omega
          · have heq : B[k].1 = A[i].1 := by omega
            have hgB : getP B A[i].1 = cellOf (some B[k]) := heq ▸ hlo.getB hk
            have h1 : ¬ A[i].1 < A[i].1 := by omega
            simp only [go_sem, Nat.reduceAdd, Nat.reduceSub, Nat.reduceMul, Nat.reduceLT, Nat.reduceLeDiff, Nat.reduceEqDiff, Nat.reduceBEq, Nat.reduceBNe, reduceCtorEq, Nat.reduceLT, ty_32, ty_86, ty_68, ty_3, ty_4, ty_29, ty_88, ext_35, h35A, h35B, hgA, hgB, hi1, hk1, hi2, hk2, hx, hy, Int.toNat_natCast, h1, heq]
            rw [eq_cell]
            refine WC_split (fun he => ?_) (fun he => ?_) <;> simp only [go_sem, Nat.reduceAdd, Nat.reduceSub, Nat.reduceMul, Nat.reduceLT, Nat.reduceLeDiff, Nat.reduceEqDiff, Nat.reduceBEq, Nat.reduceBNe, reduceCtorEq, Nat.reduceLT, ty_32, ty_86, ty_68, ty_3, ty_4, ty_29, ty_88, ext_35, fit_trow, head_trow, hbO, head_trow', hi1, hk1, hi2, hk2, hx, hy, Int.toNat_natCast, h1, heq]
            · simp only [Bool.not_eq_true', decide_eq_false_iff_not] at he
              have ho : emit A[i].1 (some A[i]) (some B[k]) O = O ++ [(A[i].1, cellOf (some A[i]), cellOf (some B[k]))] := by rw [emit, if_neg he]
              try rw [wrap_i64 (n := (i : Int) + 1) (by omega) (by omega)]
              try rw [wrap_i64 (n := (k : Int) + 1) (by omega) (by omega)]
              refine hnorm (i + 1, k + 1, emit A[i].1 (some A[i]) (some B[k]) O) _ ⟨by show i + 1 ≤ A.length; omega, by show k + 1 ≤ B.length; omega, by have := emit_len A[i].1 (some A[i]) (some B[k]) O; show (emit A[i].1 (some A[i]) (some B[k]) O).length ≤ i + 1 + (k + 1); omega, ⟨A[i].1, ?_⟩, ?_⟩ ?_ (by rw [S14, ho, List.map_append]; kernel_rfl)
              · exact adv_both hlo hi hk heq
              · rw [← hm, mergeAB hi hk, if_neg (by omega), if_neg (by omega)]
              · show (A.length - (i + 1)) + (B.length - (k + 1)) < (A.length - i) + (B.length - k); omega
            · simp only [Bool.not_eq_false', decide_eq_true_eq] at he
              have ho : emit A[i].1 (some A[i]) (some B[k]) O = O := by rw [emit, if_pos he]
              try rw [wrap_i64 (n := (i : Int) + 1) (by omega) (by omega)]
              try rw [wrap_i64 (n := (k : Int) + 1) (by omega) (by omega)]
              refine hnorm (i + 1, k + 1, emit A[i].1 (some A[i]) (some B[k]) O) _ ⟨by show i + 1 ≤ A.length; omega, by show k + 1 ≤ B.length; omega, by have := emit_len A[i].1 (some A[i]) (some B[k]) O; show (emit A[i].1 (some A[i]) (some B[k]) O).length ≤ i + 1 + (k + 1); omega, ⟨A[i].1, ?_⟩, ?_⟩ ?_ (by rw [S14, ho]; kernel_rfl)
              · exact adv_both hlo hi hk heq
              · rw [← hm, mergeAB hi hk, if_neg (by omega), if_neg (by omega)]
              · show (A.length - (i + 1)) + (B.length - (k + 1)) < (A.length - i) + (B.length - k); omega
      · have hk1 : ¬ (k : Int) < (B.length : Int) := by omega
        have hk2 : ¬ ((k : Int) < 0) := by omega
        have hgB : getP B A[i].1 = cellOf none := hlo.noB ha.1 fun h => absurd h hk
        simp only [go_sem, Nat.reduceAdd, Nat.reduceSub, Nat.reduceMul, Nat.reduceLT, Nat.reduceLeDiff, Nat.reduceEqDiff, Nat.reduceBEq, Nat.reduceBNe, reduceCtorEq, Nat.reduceLT, ty_32, ty_86, ty_68, ty_3, ty_4, ty_29, ty_88, ext_35, h35A, h35B, hgA, hgB, hi1, hk1, hi2, hk2, hx, Int.toNat_natCast]
        rw [eq_cell]
        refine WC_split (fun he => ?_) (fun he => ?_) <;> simp only [go_sem, Nat.reduceAdd, Nat.reduceSub, Nat.reduceMul, Nat.reduceLT, Nat.reduceLeDiff, Nat.reduceEqDiff, Nat.reduceBEq, Nat.reduceBNe, reduceCtorEq, Nat.reduceLT, ty_32, ty_86, ty_68, ty_3, ty_4, ty_29, ty_88, ext_35, fit_trow, head_trow, hbO, head_trow', hi1, hk1, hi2, hk2, hx, Int.toNat_natCast]
        · simp only [Bool.not_eq_true', decide_eq_false_iff_not] at he
          have ho : emit A[i].1 (some A[i]) none O = O ++ [(A[i].1, cellOf (some A[i]), cellOf none)] := by rw [emit, if_neg he]
          try rw [wrap_i64 (n := (i : Int) + 1) (by omega) (by omega)]
          try rw [wrap_i64 (n := (k : Int) + 1) (by omega) (by omega)]
          refine hnorm (i + 1, k, emit A[i].1 (some A[i]) none O) _ ⟨by show i + 1 ≤ A.length; omega, by show k ≤ B.length; omega, by have := emit_len A[i].1 (some A[i]) none O; show (emit A[i].1 (some A[i]) none O).length ≤ i + 1 + (k); omega, ⟨A[i].1, ?_⟩, ?_⟩ ?_ (by rw [S14, ho, List.map_append]; kernel_rfl)
          · exact adv_a hlo hi (fun h => absurd h hk)
          · rw [← hm, mergeA0 hi hk]
          · show (A.length - (i + 1)) + (B.length - (k)) < (A.length - i) + (B.length - k); omega
        · simp only [Bool.not_eq_false', decide_eq_true_eq] at he
          have ho : emit A[i].1 (some A[i]) none O = O := by rw [emit, if_pos he]
          try rw [wrap_i64 (n := (i : Int) + 1) (by omega) (by omega)]
          try rw [wrap_i64 (n := (k : Int) + 1) (by omega) (by omega)]
          refine hnorm (i + 1, k, emit A[i].1 (some A[i]) none O) _ ⟨by show i + 1 ≤ A.length; omega, by show k ≤ B.length; omega, by have := emit_len A[i].1 (some A[i]) none O; show (emit A[i].1 (some A[i]) none O).length ≤ i + 1 + (k); omega, ⟨A[i].1, ?_⟩, ?_⟩ ?_ (by rw [S14, ho]; kernel_rfl)
          · exact adv_a hlo hi (fun h => absurd h hk)
          · rw [← hm, mergeA0 hi hk]
          · show (A.length - (i + 1)) + (B.length - (k)) < (A.length - i) + (B.length - k); omega
    · have hi1 : ¬ (i : Int) < (A.length : Int) := by omega
      by_cases hk : k < B.length
      · have hk1 : (k : Int) < (B.length : Int) := by omega
        have hk2 : ¬ ((k : Int) < 0) := by omega
        have hy : (B.map prow)[k]? = some [.int .i64 B[k].1, .int .i64 B[k].2] := by simp [hk, prow]
        have hb := hlo.b hk
        have hgB := hlo.getB hk
        have hgA : getP A B[k].1 = cellOf none := hlo.noA hb.1 fun h => absurd h hi
        have h1 : B[k].1 < 4096 := hb.2.1
        simp only [go_sem, Nat.reduceAdd, Nat.reduceSub, Nat.reduceMul, Nat.reduceLT, Nat.reduceLeDiff, Nat.reduceEqDiff, Nat.reduceBEq, Nat.reduceBNe, reduceCtorEq, Nat.reduceLT, ty_32, ty_86, ty_68, ty_3, ty_4, ty_29, ty_88, ext_35, h35A, h35B, hgA, hgB, hi1, hk1, hk2, hy, h1, Int.toNat_natCast]
        rw [eq_cell]
        refine WC_split (fun he => ?_) (fun he => ?_) <;> simp only [go_sem, Nat.reduceAdd, Nat.reduceSub, Nat.reduceMul, Nat.reduceLT, Nat.reduceLeDiff, Nat.reduceEqDiff, Nat.reduceBEq, Nat.reduceBNe, reduceCtorEq, Nat.reduceLT, ty_32, ty_86, ty_68, ty_3, ty_4, ty_29, ty_88, ext_35, fit_trow, head_trow, hbO, head_trow', hi1, hk1, hk2, hy, h1, Int.toNat_natCast]
        · simp only [Bool.not_eq_true', decide_eq_false_iff_not] at he
          have ho : emit B[k].1 none (some B[k]) O = O ++ [(B[k].1, cellOf none, cellOf (some B[k]))] := by rw [emit, if_neg he]
          try rw [wrap_i64 (n := (i : Int) + 1) (by omega) (by omega)]
          try rw [wrap_i64 (n := (k : Int) + 1) (by omega) (by omega)]
          refine hnorm (i, k + 1, emit B[k].1 none (some B[k]) O) _ ⟨by show i ≤ A.length; omega, by show k + 1 ≤ B.length; omega, by have := emit_len B[k].1 none (some B[k]) O; show (emit B[k].1 none (some B[k]) O).length ≤ i + (k + 1); omega, ⟨B[k].1, ?_⟩, ?_⟩ ?_ (by rw [S14, ho, List.map_append]; kernel_rfl)
          · exact adv_b hlo hk (fun h => absurd h hi)
          · rw [← hm, merge0B hi hk]
          · show (A.length - (i)) + (B.length - (k + 1)) < (A.length - i) + (B.length - k); omega
        · simp only [Bool.not_eq_false', decide_eq_true_eq] at he
          have ho : emit B[k].1 none (some B[k]) O = O := by rw [emit, if_pos he]
          try rw [wrap_i64 (n := (i : Int) + 1) (by omega) (by omega)]
          try rw [wrap_i64 (n := (k : Int) + 1) (by omega) (by omega)]
          refine hnorm (i, k + 1, emit B[k].1 none (some B[k]) O) _ ⟨by show i ≤ A.length; omega, by show k + 1 ≤ B.length; omega, by have := emit_len B[k].1 none (some B[k]) O; show (emit B[k].1 none (some B[k]) O).length ≤ i + (k + 1); omega, ⟨B[k].1, ?_⟩, ?_⟩ ?_ (by rw [S14, ho]; kernel_rfl)
          · exact adv_b hlo hk (fun h => absurd h hi)
          · rw [← hm, merge0B hi hk]
          · show (A.length - (i)) + (B.length - (k + 1)) < (A.length - i) + (B.length - k); omega
      · have hk1 : ¬ (k : Int) < (B.length : Int) := by omega
        simp only [go_sem, Nat.reduceAdd, Nat.reduceSub, Nat.reduceMul, Nat.reduceLT, Nat.reduceLeDiff, Nat.reduceEqDiff, Nat.reduceBEq, Nat.reduceBNe, reduceCtorEq, Nat.reduceLT, ty_32, ty_29, ty_3, hi1, hk1]
        refine hexit 0 _ ?_
        simp only [go_sem, Nat.reduceAdd, Nat.reduceSub, Nat.reduceMul, Nat.reduceLT, Nat.reduceLeDiff, Nat.reduceEqDiff, Nat.reduceBEq, Nat.reduceBNe, reduceCtorEq, Nat.reduceLT]
        refine ret2 (fun _ => ex_ret) rfl rfl rfl rfl ⟨?_, rfl, rfl⟩
        rw [← hm, List.drop_of_length_le (by omega), List.drop_of_length_le (by omega), merge]; rfl
end Go.Proofs.Ytpjolollnhfciaa
