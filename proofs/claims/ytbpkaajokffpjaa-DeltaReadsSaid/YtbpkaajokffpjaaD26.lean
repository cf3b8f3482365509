/- The bytes of turns: the program's answer. -/
import Derived.Test.YtbpkaajokffpjaaD25
set_option linter.all false
set_option maxRecDepth 100000
namespace Go.Proofs.Ytbpkaajokffpjaa
open Go Go.Abs

theorem numS_len {z : Int} (h : z ≤ 9223372036854775807) : (numS z).length ≤ 9 := by
  unfold numS
  split
  · simp
  · exact numB_len 8 _ (by have : (128 : Nat) ^ 9 = 9223372036854775808 := by decide
                           omega)
theorem wholeS_len (z : Int) : (wholeS z).length ≤ 9 := by
  unfold wholeS
  split
  · rename_i h
    simp only [mayZ, decide_eq_true_eq] at h
    exact numS_len (by unfold zig; split <;> omega)
  · simp
def kindT (t : TR) : Int := (if t.2.1.2 then 1 else 0) + (if t.2.2.2 then 2 else 0)
def byT (t : TR) : Int := if t.2.1.2 then t.2.2.1 - t.2.1.1 else t.2.2.1
def turnS (at_ : Int) (t : TR) : List UInt8 := ((numS (t.1 - at_ - 1) ++ numS (kindT t)) ++ (if t.2.1.2 then wholeS t.2.1.1 else [])) ++ (if t.2.2.2 then wholeS (byT t) else [])
def textFrom : Int → List TR → List UInt8
  | _, [] => []
  | a, t :: r => turnS a t ++ textFrom t.1 r
def textT (l : List TR) : List UInt8 := if chkT l then numS l.length ++ textFrom (-1) l else []
theorem if_len (c : Bool) (z : Int) : (if c then wholeS z else []).length ≤ 9 := by
  cases c
  · simp
  · exact wholeS_len z
theorem turnS_len {a : Int} {t : TR} (h : t.1 - a - 1 ≤ 9223372036854775807) : (turnS a t).length ≤ 36 := by
  have h1 := numS_len h
  have h2 : (numS (kindT t)).length ≤ 9 := numS_len (by unfold kindT; split <;> split <;> omega)
  have h3 := if_len t.2.1.2 t.2.1.1
  have h4 := if_len t.2.2.2 (byT t)
  simp only [turnS, List.length_append]; omega
end Go.Proofs.Ytbpkaajokffpjaa
