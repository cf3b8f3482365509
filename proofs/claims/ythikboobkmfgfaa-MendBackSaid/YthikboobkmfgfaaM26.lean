/- The bytes of what is told, and what bytes say: plain. -/
import Derived.Test.YthikboobkmfgfaaM21
import Derived.Test.YthikboobkmfgfaaM25
set_option linter.all false
set_option maxRecDepth 100000
namespace Go.Proofs.Ythikboobkmfgfaa
open Go Go.Abs

/-- The four bytes of a number; a number of four bytes. -/
def kidB (k j : Nat) : UInt8 := UInt8.ofNat (k / 2 ^ (8 * (3 - j)) % 256)
def kidS (k : Nat) : List UInt8 := [kidB k 0, kidB k 1, kidB k 2, kidB k 3]
theorem kidB_nat (k j : Nat) : (kidB k j).toNat = k / 2 ^ (8 * (3 - j)) % 256 := UInt8.toNat_ofNat_of_lt' (Nat.mod_lt _ (by omega))
theorem kid_take (k : Nat) {j : Nat} (h : j < 4) : (kidS k).take (j + 1) = (kidS k).take j ++ [kidB k j] := by
  have hc : j = 0 ∨ j = 1 ∨ j = 2 ∨ j = 3 := by omega
  rcases hc with rfl | rfl | rfl | rfl <;> rfl
def kidsS : List Nat → List UInt8
  | [] => []
  | k :: r => kidS k ++ kidsS r
def cellS (c : CR) : List UInt8 := flagS c.2 ++ (if c.2 then wholeS c.1 else [])
def cellsS : List CR → List UInt8
  | [] => []
  | c :: r => cellS c ++ cellsS r
def headT (lv : Int) (L : List Int) : List UInt8 := textS (askS lv L)
def toldS (lv : Int) (L : List Int) (K : List Nat) (C : List CR) : List UInt8 := if wholeT lv L K C = true then headT lv L ++ kidsS K ++ cellsS C else []
theorem kids_step {K : List Nat} {i : Nat} (h : i < K.length) : kidsS (K.drop i) = kidS K[i] ++ kidsS (K.drop (i + 1)) := by
  rw [List.drop_eq_getElem_cons h, kidsS]
theorem cells_step {C : List CR} {i : Nat} (h : i < C.length) : cellsS (C.drop i) = cellS C[i] ++ cellsS (C.drop (i + 1)) := by
  rw [List.drop_eq_getElem_cons h, cellsS]
theorem kidsS_len : ∀ K : List Nat, (kidsS K).length = 4 * K.length
  | [] => rfl
  | k :: r => by
    have h1 : (kidS k).length = 4 := rfl
    have := kidsS_len r
    rw [kidsS, List.length_append, List.length_cons]; omega
theorem cellS_len (c : CR) : (cellS c).length ≤ 10 := by
  have h1 : (flagS c.2).length = 1 := rfl
  rw [cellS, List.length_append]
  split
  · have := wholeS_len c.1; omega
  · simp only [List.length_nil]; omega
theorem cellsS_len : ∀ C : List CR, (cellsS C).length ≤ 10 * C.length
  | [] => Nat.le_refl _
  | c :: r => by
    have h1 := cellS_len c
    have := cellsS_len r
    rw [cellsS, List.length_append, List.length_cons]; omega
theorem headT_len {lv : Int} {L : List Int} (h : L.length ≤ 100000) : (headT lv L).length ≤ 1000009 ∧ 0 < (headT lv L).length := by
  have h1 := askS_len (lv := lv) h
  have h2 := numS_len (z := (askS lv L).length) (by omega)
  have h3 := numS_pos (z := (askS lv L).length) (by omega)
  rw [headT, textS, List.length_append]; omega
theorem toldS_len {lv : Int} {L : List Int} {K : List Nat} {C : List CR} (h : L.length ≤ 100000) (hK : K.length ≤ 100000) (hC : C.length ≤ 100000) : (toldS lv L K C).length ≤ 10000000 := by
  unfold toldS
  split
  · have := headT_len (lv := lv) h
    have := kidsS_len K
    have := cellsS_len C
    simp only [List.length_append]; omega
  · simp
/-- Four bytes, as one number. -/
def numK (a b c d : UInt8) : Nat := ((a.toNat * 256 + b.toNat) * 256 + c.toNat) * 256 + d.toNat
def readK : List UInt8 → List Nat
  | a :: b :: c :: d :: r => numK a b c d :: readK r
  | _ => []
theorem readK_len : ∀ s : List UInt8, (readK s).length ≤ s.length
  | a :: b :: c :: d :: r => by
    have := readK_len r
    simp only [readK, List.length_cons]; omega
  | [] => by simp [readK]
  | [_] => by simp [readK]
  | [_, _] => by simp [readK]
  | [_, _, _] => by simp [readK]
/-- A cell that is read: it, what is left, the error. -/
def clR (s : List UInt8) (e : Int) : CR × List UInt8 × Int :=
  let f := flR s e
  if f.1 = true then ((wholeR f.2.1 f.2.2, true), stR f.2.1 f.2.2) else ((0, false), f.2)
def readC : Nat → List UInt8 → Int → List CR
  | 0, _, _ => []
  | k + 1, s, e => (clR s e).1 :: readC k (clR s e).2.1 (clR s e).2.2
theorem clR_len (s : List UInt8) (e : Int) : (clR s e).2.1.length ≤ s.length := by
  have h1 := flR_len s e
  have h2 := stR_len (flR s e).2.1 (flR s e).2.2
  unfold clR
  simp only
  split
  · simp only; omega
  · exact h1
theorem readC_len : ∀ (k : Nat) (s : List UInt8) (e : Int), (readC k s e).length = k
  | 0, _, _ => rfl
  | k + 1, s, e => by rw [readC, List.length_cons, readC_len k]
/-- What stands behind an ask. -/
def bodyT (lv : Int) (L : List Int) (s : List UInt8) (e : Int) : List Nat × List CR :=
  if lv = -1 then ([], readC L.length s e) else if s.length = 64 * L.length then (readK s, []) else ([], [])
/-- What any bytes say, and the error. -/
def rdT (s : List UInt8) : (Int × List Int × List Nat × List CR) × Int :=
  let t := txR s 0 s.length
  let a := rdA t.1
  if a.2.2 = 0 then
    let b := bodyT a.1 a.2.1 t.2.1 t.2.2
    if toldS a.1 a.2.1 b.1 b.2 = s then ((a.1, a.2.1, b.1, b.2), 0) else ((0, [], [], []), 3)
  else ((0, [], [], []), 3)
end Go.Proofs.Ythikboobkmfgfaa
