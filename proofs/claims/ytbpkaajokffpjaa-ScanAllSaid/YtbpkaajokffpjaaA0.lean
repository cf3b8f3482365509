/- Rules with conditions. -/
import Derived.Test.YtbpkaajokffpjaaD4
set_option linter.all false
namespace Go.Proofs.Ytbpkaajokffpjaa
open Go Go.Abs
theorem ibeq_t {a b : Int} (h : a = b) : (a == b) = true := beq_iff_eq.2 h
theorem ibeq_f {a b : Int} (h : ¬ a = b) : (a == b) = false := beq_eq_false_iff_ne.2 h
theorem ibne_t {a b : Int} (h : ¬ a = b) : (a != b) = true := bne_iff_ne.2 h
theorem ibne_f {a b : Int} (h : a = b) : (a != b) = false := bne_eq_false_iff_eq.2 h
theorem tn_sub1 {i : Nat} : ((i : Int) - 1).toNat = i - 1 := by omega
theorem tn_add1 {i : Nat} : ((i : Int) + 1).toNat = i + 1 := by omega
theorem gx {α : Type} {l : List α} {i : Nat} (h : i < l.length) : l[i]? = some l[i] := List.getElem?_eq_getElem h
theorem head_prow2 (l : List PR) {x y : Int} : headByte (l.map prow ++ [[.int .i64 x, .int .i64 y]]) = false := head_prow' l _ rfl
theorem head_prow3 (l m : List PR) : headByte (l.map prow ++ m.map prow) = false := head_prow' l _ (head_prow m)
end Go.Proofs.Ytbpkaajokffpjaa
