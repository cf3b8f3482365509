/- A table that is turned: the program's loops. -/
import Derived.Test.YtknblodiilgogaaF4
set_option linter.all false
set_option maxRecDepth 100000
namespace Go.Proofs.Ytknblodiilgogaa
open Go Go.Abs

def goneM (l : List TR) : List (V × List V) := l.map fun t => (.int .i64 t.1, [.bool true])
theorem find_no {k : Int} : ∀ {l : List TR} {j : Nat}, (∀ t ∈ l, t.1 ≠ k) → findM (.int .i64 k) (goneM l) j = some none
  | [], _, _ => rfl
  | t :: l, j, h => by
    have h1 := h t (by simp)
    have : (k == t.1) = false := beq_eq_false_iff_ne.2 fun e => h1 e.symm
    simp only [goneM, List.map_cons, findM, keyEq, if_true, this]
    exact find_no fun t ht => h t (by simp [ht])
theorem find_yes {k : Int} : ∀ {l : List TR} {j : Nat}, (∃ t ∈ l, t.1 = k) → ∃ n, findM (.int .i64 k) (goneM l) j = some (some (n, [.bool true]))
  | [], _, h => by simp at h
  | t :: l, j, h => by
    by_cases h1 : k = t.1
    · exact ⟨j, by simp only [goneM, List.map_cons, findM, keyEq, if_true, beq_iff_eq.2 h1]⟩
    · obtain ⟨u, hu, he⟩ := h
      obtain ⟨n, hn⟩ := find_yes (k := k) (l := l) (j := j + 1) ⟨u, by rcases List.mem_cons.1 hu with rfl | h2; exact absurd he.symm h1; exact h2, he⟩
      refine ⟨n, ?_⟩
      simp only [goneM, List.map_cons, findM, keyEq, if_true, beq_eq_false_iff_ne.2 h1]
      exact hn
theorem mset {es : List (V × List V)} {k : Int} {v : V} (hf : findM (.int .i64 k) es 0 = some none) (fr : List V) (own : List Tmp) (hp : List Blk) (al : List (Tmp × Owner)) (nb : Nat) :
    mapSet cfg 103 (.map 0) (.int .i64 k) v { fr := fr, own := own, hp := .map es :: hp, al := al, nb := nb } = some { fr := fr, own := own, hp := .map (es ++ [(.int .i64 k, [v])]) :: hp, al := [], nb := nb } := by
  simp only [mapSet, ty_103, Option.map_some, List.getElem?_cons_zero, setM, hf, List.set_cons_zero]
  rfl
theorem mget_no {es : List (V × List V)} {k : Int} {d : Option Tmp} (hf : findM (.int .i64 k) es 0 = some none) (fr : List V) (own : List Tmp) (hp : List Blk) (al : List (Tmp × Owner)) (nb : Nat) :
    mapGet cfg d 103 (.map 0) (.int .i64 k) false { fr := fr, own := own, hp := .map es :: hp, al := al, nb := nb } = some (St.put { fr := fr, own := own, hp := .map es :: hp, al := al, nb := nb } d (.bool false)) := by
  simp only [mapGet, ty_103, Option.map_some, List.getElem?_cons_zero, hf]
  rfl
theorem mget_yes {es : List (V × List V)} {k : Int} {d : Option Tmp} {n : Nat} (hf : findM (.int .i64 k) es 0 = some (some (n, [.bool true]))) (fr : List V) (own : List Tmp) (hp : List Blk) (al : List (Tmp × Owner)) (nb : Nat) :
    mapGet cfg d 103 (.map 0) (.int .i64 k) false { fr := fr, own := own, hp := .map es :: hp, al := al, nb := nb } = some (St.put { fr := fr, own := own, hp := .map es :: hp, al := al, nb := nb } d (.bool true)) := by
  simp only [mapGet, ty_103, Option.map_some, List.getElem?_cons_zero, hf]
  rfl
end Go.Proofs.Ytknblodiilgogaa
