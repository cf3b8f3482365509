/- What is written is read as it was: plain. -/
import Derived.Test.YtbpkaajokffpjaaD37
set_option linter.all false
set_option maxRecDepth 100000
namespace Go.Proofs.Ytbpkaajokffpjaa
open Go Go.Abs

theorem ofNat_toNat {n : Nat} (h : n < 256) : (UInt8.ofNat n).toNat = n := UInt8.toNat_ofNat_of_lt' (by exact h)
theorem numG_numB (r : List UInt8) : ∀ (n i : Nat), i < 9 → n < 2 ^ (7 * (9 - i)) → (i = 0 ∨ n ≠ 0) → numG i (numB n ++ r) = (0, n, r) := by
  intro n
  induction n using Nat.strongRecOn with
  | _ n ih =>
    intro i hi hn h0
    rw [numB]
    split
    · rename_i h7
      rw [List.cons_append, List.nil_append, numG, ofNat_toNat (by omega), if_neg, if_pos h7]
      rintro (h | ⟨h1, h2⟩)
      · omega
      · have := congrArg UInt8.toNat h2
        rw [ofNat_toNat (by omega)] at this
        have : n = 0 := this
        omega
    · rename_i h7
      have hi8 : i < 8 := by
        rcases Nat.lt_or_ge i 8 with h | h
        · exact h
        · have : 9 - i = 1 := by omega
          rw [this] at hn; omega
      have e1 : 9 - i = (9 - (i + 1)) + 1 := by omega
      rw [e1, Nat.mul_add, Nat.pow_add] at hn
      have hn2 : n / 128 < 2 ^ (7 * (9 - (i + 1))) := by
        rw [Nat.div_lt_iff_lt_mul (by omega)]; exact hn
      rw [List.cons_append, numG, ofNat_toNat (by omega), if_neg, if_neg (by omega), ih (n / 128) (by omega) (i + 1) (by omega) hn2 (.inr (by omega))]
      · show ((0 : Int), n % 128 + 128 - 128 + 128 * (n / 128), r) = _
        rw [show n % 128 + 128 - 128 + 128 * (n / 128) = n by omega]
      · rintro (h | ⟨h1, h2⟩)
        · omega
        · have := congrArg UInt8.toNat h2
          rw [ofNat_toNat (by omega)] at this
          have : n % 128 + 128 = 0 := this
          omega
theorem read_numS {z : Int} (h1 : 0 ≤ z) (h2 : z < 9223372036854775808) (r : List UInt8) : numN (numS z ++ r) 0 = z.toNat ∧ stR (numS z ++ r) 0 = (r, 0) := by
  have hg : numG 0 (numS z ++ r) = (0, z.toNat, r) := by
    rw [numS, if_neg (by omega)]
    exact numG_numB r _ 0 (by omega) (by show z.toNat < 9223372036854775808; omega) (.inl rfl)
  exact ⟨by rw [numN, hg, if_pos ⟨rfl, rfl⟩], by rw [stR, numR, hg, if_pos rfl, if_pos rfl]⟩
theorem zag_zig {z : Int} : zag (zig z).toNat = z := by unfold zag zig; split <;> split <;> omega
theorem read_wholeS {z : Int} (h : mayZ z = true) (r : List UInt8) : wholeR (wholeS z ++ r) 0 = z ∧ stR (wholeS z ++ r) 0 = (r, 0) := by
  have hm := h
  simp only [mayZ, decide_eq_true_eq] at hm
  have hz : 0 ≤ zig z ∧ zig z < 9223372036854775808 := by unfold zig; split <;> omega
  obtain ⟨q1, q2⟩ := read_numS hz.1 hz.2 r
  rw [wholeS, if_pos h]
  exact ⟨by rw [wholeR, q1, zag_zig], q2⟩
theorem may_small {z : Int} (h1 : -4398046511104 ≤ z) (h2 : z ≤ 4398046511104) : mayZ z = true := by
  simp only [mayZ, decide_eq_true_eq]; omega
theorem read_turnS {a : Int} {t : TR} (h : okT a t = true) (ha : -1 ≤ a) (r : List UInt8) : readT (turnS a t ++ r) 0 a = (t, r, 0) := by
  rcases t with ⟨k, ⟨wv, ws⟩, iv, is_⟩
  have h' := chkTFrom_cons.1 (show chkTFrom a [(k, (wv, ws), iv, is_)] = true by rw [chkTFrom, h]; rfl)
  obtain ⟨⟨g1, g2, g3, g4, g5⟩, _⟩ := h'
  simp only at g1 g2 g3 g4 g5
  have b1 := okC_bound g3
  have b2 := okC_bound g4
  simp only at b1 b2
  have hk : ∀ rest, numN (numS (k - a - 1) ++ rest) 0 = (k - a - 1).toNat ∧ stR (numS (k - a - 1) ++ rest) 0 = (rest, 0) := fun rest => read_numS (by omega) (by omega) rest
  have hmin : a + 1 + min (((k - a - 1).toNat : Nat) : Int) 4096 = k := by omega
  have c0 : clampV 0 = 0 := by unfold clampV; omega
  have cw : clampV wv = wv := by unfold clampV; omega
  have ci : clampV iv = iv := by unfold clampV; omega
  have cd : clampV (iv - wv) = iv - wv := by unfold clampV; omega
  have e3 := fun rest => read_numS (z := 3) (by omega) (by omega) rest
  have e2 := fun rest => read_numS (z := 2) (by omega) (by omega) rest
  have e1 := fun rest => read_numS (z := 1) (by omega) (by omega) rest
  have ew := fun rest => read_wholeS (may_small (z := wv) (by omega) (by omega)) rest
  have ei := fun rest => read_wholeS (may_small (z := iv) (by omega) (by omega)) rest
  have ed := fun rest => read_wholeS (may_small (z := iv - wv) (by omega) (by omega)) rest
  cases ws with
  | false =>
    have hw0 : wv = 0 := by simpa [okC] using g3
    subst hw0
    cases is_ with
    | false =>
      have hi0 : iv = 0 := by simpa [okC] using g4
      subst hi0
      exact absurd rfl g5
    | true =>
      simp only [turnS, kindT, byT, Bool.false_eq_true, if_false, if_true, Int.zero_add, List.append_nil, List.append_assoc]
      simp only [readT, hk, e2, ei, hmin, c0, ci]
      simp [ei, c0, ci]
  | true =>
    cases is_ with
    | false =>
      have hi0 : iv = 0 := by simpa [okC] using g4
      subst hi0
      simp only [turnS, kindT, byT, Bool.false_eq_true, if_false, if_true, Int.add_zero, List.append_nil, List.append_assoc]
      simp only [readT, hk, e1, ew, hmin]
      simp
    | true =>
      simp only [turnS, kindT, byT, if_true, Int.reduceAdd, List.append_assoc]
      simp only [readT, hk, e3, ew, ed, hmin, cd, cw]
      simp [ed, cd, cw]
theorem read_textFrom : ∀ (l : List TR) (a : Int) (acc : List TR), chkTFrom a l = true → -1 ≤ a → readL l.length (textFrom a l) 0 a acc = (acc ++ l, [], 0)
  | [], a, acc, _, _ => by simp [readL, textFrom]
  | t :: l, a, acc, h, ha => by
    have h' := chkTFrom_cons.1 h
    obtain ⟨⟨g1, g2, _⟩, h2⟩ := h'
    rw [chkTFrom, Bool.and_eq_true] at h
    rw [List.length_cons, textFrom, readL, if_pos rfl, read_turnS h.1 ha]
    show readL l.length (textFrom t.1 l) 0 (min t.1 4096) (acc ++ [t]) = _
    rw [show min t.1 4096 = t.1 by omega, read_textFrom l t.1 (acc ++ [t]) h2 (by omega), List.append_assoc]; rfl
theorem readD_text {l : List TR} (h : chkT l = true) (hl : l.length ≤ 4097) : readD (textT l) = (l, 0) := by
  obtain ⟨q1, q2⟩ := read_numS (z := (l.length : Int)) (by omega) (by omega) (textFrom (-1) l)
  have ht : textT l = numS l.length ++ textFrom (-1) l := by rw [textT, if_pos h]
  have q3 := read_textFrom l (-1) [] h (by omega)
  rw [readD, ht, q1, q2, Int.toNat_natCast, Nat.min_eq_left hl]
  simp only [q3, List.nil_append]
  rw [if_pos]
  exact ⟨rfl, ht⟩
def readQ (s : List UInt8) : List TR × List UInt8 × Int := readL (min (numN s 0) 4097) (stR s 0).1 (stR s 0).2 (-1) []
theorem readD_eq (s : List UInt8) : readD s = if endR (readQ s).2.1 (readQ s).2.2 = 0 ∧ textT (readQ s).1 = s then ((readQ s).1, 0) else ([], 3) := rfl
theorem readL_len : ∀ (k : Nat) (s : List UInt8) (e a : Int) (l : List TR), (readL k s e a l).1.length ≤ l.length + k
  | 0, s, e, a, l => by simp [readL]
  | k + 1, s, e, a, l => by
    rw [readL]
    split
    · have := readL_len k (readT s e a).2.1 (readT s e a).2.2 (min (readT s e a).1.1 4096) (l ++ [(readT s e a).1])
      simp only [List.length_append, List.length_cons, List.length_nil] at this
      omega
    · simp
theorem readD_len (s : List UInt8) : (readD s).1.length ≤ 4097 := by
  rw [readD_eq]
  split
  · have : (readQ s).1.length ≤ ([] : List TR).length + min (numN s 0) 4097 := readL_len (min (numN s 0) 4097) (stR s 0).1 (stR s 0).2 (-1) []
    simp only [List.length_nil] at this
    show (readQ s).1.length ≤ 4097
    omega
  · simp
theorem readD_ok {s : List UInt8} (h : (readD s).2 = 0) : textT (readD s).1 = s ∧ chkT (readD s).1 = true := by
  have key : textT (readD s).1 = s := by
    rw [readD_eq] at h ⊢
    split at h
    · rename_i hc; rw [if_pos hc]; exact hc.2
    · simp at h
  refine ⟨key, ?_⟩
  cases hc : chkT (readD s).1 with
  | true => rfl
  | false =>
    rw [textT, hc] at key
    have hs : s = [] := by simpa using key.symm
    subst hs
    exact absurd h (by decide +kernel)
theorem readD_bad {s : List UInt8} (h : (readD s).2 ≠ 0) : (readD s).1 = [] := by
  rw [readD_eq] at h ⊢
  split at h
  · exact absurd rfl h
  · rename_i hc; rw [if_neg hc]
theorem textFrom_len : ∀ (l : List TR) (a : Int), chkTFrom a l = true → -1 ≤ a → (textFrom a l).length ≤ 36 * l.length
  | [], a, _, _ => by simp [textFrom]
  | t :: l, a, h, ha => by
    obtain ⟨⟨g1, g2, _⟩, h2⟩ := chkTFrom_cons.1 h
    have := textFrom_len l t.1 h2 (by omega)
    have := turnS_len (a := a) (t := t) (by omega)
    rw [textFrom, List.length_append, List.length_cons]; omega
theorem textT_len {l : List TR} (h : l.length ≤ 100000) : (textT l).length ≤ 10000000 := by
  unfold textT
  split
  · rename_i hc
    have := textFrom_len l (-1) hc (by omega)
    have := numS_len (z := (l.length : Int)) (by omega)
    rw [List.length_append]; omega
  · simp
theorem textT_ne {l : List TR} (h : textT l ≠ []) : chkT l = true := by
  cases hc : chkT l with
  | true => rfl
  | false => rw [textT, hc] at h; exact absurd rfl h
theorem textT_ne' {l : List TR} (h : chkT l = true) : textT l ≠ [] := by
  rw [textT, if_pos h]
  intro he
  have := numS_pos (z := (l.length : Int)) (by omega)
  have := congrArg List.length he
  rw [List.length_append, List.length_nil] at this
  omega
end Go.Proofs.Ytbpkaajokffpjaa
