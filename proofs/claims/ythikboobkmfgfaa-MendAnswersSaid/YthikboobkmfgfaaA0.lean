/- Rules with conditions. -/
import Derived.Test.YthikboobkmfgfaaD4
set_option linter.all false
namespace Go.Proofs.Ythikboobkmfgfaa
open Go Go.Abs
theorem ibeq_t {a b : Int} (h : a = b) : (a == b) = true := beq_iff_eq.2 h
theorem ibeq_f {a b : Int} (h : ¬ a = b) : (a == b) = false := beq_eq_false_iff_ne.2 h
theorem ibne_t {a b : Int} (h : ¬ a = b) : (a != b) = true := bne_iff_ne.2 h
theorem ibne_f {a b : Int} (h : a = b) : (a != b) = false := bne_eq_false_iff_eq.2 h
theorem tn_sub1 {i : Nat} : ((i : Int) - 1).toNat = i - 1 := by omega
theorem tn_add1 {i : Nat} : ((i : Int) + 1).toNat = i + 1 := by omega
theorem gx {α : Type} {l : List α} {i : Nat} (h : i < l.length) : l[i]? = some l[i] := List.getElem?_eq_getElem h
theorem head_prow2 (l : List PR) {x y : Int} : headByte (l.map prow ++ [[.int .i64 x, .int .i64 y]]) = false := head_prow' l _ rfl
theorem head_prow3 (l m : List PR) : headByte (l.map prow ++ m.map prow) = false := head_prow' l _ (head_prow m)
theorem str_add {x y : List UInt8} (h : x.length + y.length ≤ 140737488355328) : strOp .add x y = some (.str (x ++ y)) := by unfold strOp; exact if_pos h
theorem sm_unf : strMax = 140737488355328 := rfl
/-- A builder, as it lies in a heap. -/
def bldAt (id : Nat) (s : List UInt8) : Blk := .cells 110 [1] [.ptr id 0, .sl true (s.map byteRow)]
theorem retM {r1 r2 : ResultVar} {rs : List ResultVar} {e : Ex} {s : St} {R : V → Bool → List Blk → Prop} {vs : List V} (he : ∀ i, e ≠ .exit i) (hv : (r1 :: r2 :: rs).mapM (resOf cfg s) = some vs) (hl : V.lt 0 (.tup vs) = true) (h : R (.tup vs) false []) :
    Ret cfg (r1 :: r2 :: rs) 0 R e s := by
  refine ⟨he, .tup vs, false, by simp only [resultsV, hv, Option.map_some], ?_⟩
  simp only [hl, List.take_zero, List.all_nil, Bool.and_self, if_true, Bool.false_and]
  exact h
theorem reach_i1 {hp : List Blk} {k : IntKind} {x : Int} : reach hp [.int k x] = [] := reach_pure rfl
theorem reach_i2 {hp : List Blk} {k k2 : IntKind} {x y : Int} : reach hp [.int k x, .int k2 y] = [] := reach_pure rfl
theorem reach_s1 {hp : List Blk} {x : List (List V)} : reach hp [.sl true x] = [] := reach_pure rfl
theorem reach_si {hp : List Blk} {x : List (List V)} {k : IntKind} {y : Int} : reach hp [.sl true x, .int k y] = [] := reach_pure rfl
theorem reach_ss {hp : List Blk} {x y : List (List V)} : reach hp [.sl true x, .sl true y] = [] := reach_pure rfl
end Go.Proofs.Ythikboobkmfgfaa
