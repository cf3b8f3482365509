/- The numbers of a table, as they lie in memory: plain. -/
import Derived.Test.YthikboobkmfgfaaM0
import Derived.Test.YthikboobkmfgfaaD4
set_option linter.all false
set_option maxRecDepth 100000
namespace Go.Proofs.Ythikboobkmfgfaa
open Go Go.Abs

def u32 (n : Nat) : V := .int .u32 n
structure TV where
  cells : List CR
  leaf : List Nat
  low : List Nat
  mid : List Nat
  root : Nat
structure TV.Ok (T : TV) : Prop where
  cells : T.cells.length = 4096
  leaf : T.leaf.length = 4096
  low : T.low.length = 256
  mid : T.mid.length = 16
def flatC (l : List CR) : List V := (l.map crow).flatten
def treeC (T : TV) : List V := flatC T.cells ++ (T.leaf.map u32 ++ (T.low.map u32 ++ (T.mid.map u32 ++ [u32 T.root])))
theorem flatC_len (l : List CR) : (flatC l).length = 2 * l.length := by
  induction l with
  | nil => rfl
  | cons c l ih => simp only [flatC, List.map_cons, List.flatten_cons, List.length_append, crow, List.length_cons, List.length_nil] at ih ⊢; omega
theorem treeC_len {T : TV} (h : T.Ok) : (treeC T).length = 12561 := by
  simp only [treeC, List.length_append, List.length_map, flatC_len, h.cells, h.leaf, h.low, h.mid, List.length_cons, List.length_nil]
theorem treeC_leaf {T : TV} (h : T.Ok) {i : Nat} (hi : i < 4096) : (treeC T)[8192 + i]? = (T.leaf[i]?).map u32 := by
  have e := flatC_len T.cells
  rw [treeC, List.getElem?_append_right (by rw [e, h.cells]; omega), e, h.cells, show 8192 + i - 2 * 4096 = i by omega, List.getElem?_append_left (by rw [List.length_map, h.leaf]; omega), List.getElem?_map]
theorem treeC_low {T : TV} (h : T.Ok) {i : Nat} (hi : i < 256) : (treeC T)[12288 + i]? = (T.low[i]?).map u32 := by
  have e := flatC_len T.cells
  rw [treeC, List.getElem?_append_right (by rw [e, h.cells]; omega), e, h.cells, List.getElem?_append_right (by rw [List.length_map, h.leaf]; omega), List.length_map, h.leaf, show 12288 + i - 2 * 4096 - 4096 = i by omega, List.getElem?_append_left (by rw [List.length_map, h.low]; omega), List.getElem?_map]
theorem treeC_mid {T : TV} (h : T.Ok) {i : Nat} (hi : i < 16) : (treeC T)[12544 + i]? = (T.mid[i]?).map u32 := by
  have e := flatC_len T.cells
  rw [treeC, List.getElem?_append_right (by rw [e, h.cells]; omega), e, h.cells, List.getElem?_append_right (by rw [List.length_map, h.leaf]; omega), List.length_map, h.leaf, List.getElem?_append_right (by rw [List.length_map, h.low]; omega), List.length_map, h.low,
    show 12544 + i - 2 * 4096 - 4096 - 256 = i by omega, List.getElem?_append_left (by rw [List.length_map, h.mid]; omega), List.getElem?_map]
theorem treeC_root {T : TV} (h : T.Ok) : (treeC T)[12560]? = some (u32 T.root) := by
  have e := flatC_len T.cells
  rw [treeC, List.getElem?_append_right (by rw [e, h.cells]; omega), e, h.cells, List.getElem?_append_right (by rw [List.length_map, h.leaf]; omega), List.length_map, h.leaf, List.getElem?_append_right (by rw [List.length_map, h.low]; omega), List.length_map, h.low,
    List.getElem?_append_right (by rw [List.length_map, h.mid]; omega), List.length_map, h.mid]; rfl
theorem flatC_get : ∀ {l : List CR} {i : Nat} {c : CR}, l[i]? = some c → ((flatC l).drop (2 * i)).take 2 = crow c
  | [], i, c, h => by simp at h
  | x :: l, 0, c, h => by
    simp only [List.getElem?_cons_zero, Option.some.injEq] at h
    subst h; rfl
  | x :: l, i + 1, c, h => by
    have e : flatC (x :: l) = crow x ++ flatC l := rfl
    rw [e, show 2 * (i + 1) = 2 + 2 * i by omega, ← List.drop_drop]
    exact flatC_get (l := l) (by simpa using h)
theorem treeC_cell {T : TV} (h : T.Ok) {i : Nat} {c : CR} (hc : T.cells[i]? = some c) : ((treeC T).drop (2 * i)).take 2 = crow c := by
  have hi : i < T.cells.length := (List.getElem?_eq_some_iff.1 hc).1
  have e := flatC_len T.cells
  rw [treeC, List.drop_append_of_le_length (by omega), List.take_append_of_le_length (by rw [List.length_drop]; omega)]
  exact flatC_get hc
/-- A part of a row. -/
theorem take_one {cs : List V} {i : Nat} {v : V} (h : cs[i]? = some v) : (cs.drop i).take 1 = [v] := by
  obtain ⟨hi, rfl⟩ := List.getElem?_eq_some_iff.1 h
  rw [List.drop_eq_getElem_cons hi]; rfl
/-- One cell is written over. -/
theorem put_one {cs : List V} {i : Nat} {v : V} (h : i < cs.length) : cs.take i ++ [v] ++ cs.drop (i + 1) = cs.set i v := by
  rw [List.set_eq_take_append_cons_drop, if_pos h, List.append_assoc]; rfl
theorem set_leaf {T : TV} (h : T.Ok) {i n : Nat} (hi : i < 4096) : (treeC T).set (8192 + i) (u32 n) = treeC { T with leaf := T.leaf.set i n } := by
  have e := flatC_len T.cells
  simp only [treeC]
  rw [List.set_append_right _ _ (by rw [e, h.cells]; omega), e, h.cells, show 8192 + i - 2 * 4096 = i by omega, List.set_append_left _ _ (by rw [List.length_map, h.leaf]; omega), List.map_set]
theorem set_low {T : TV} (h : T.Ok) {i n : Nat} (hi : i < 256) : (treeC T).set (12288 + i) (u32 n) = treeC { T with low := T.low.set i n } := by
  have e := flatC_len T.cells
  simp only [treeC]
  rw [List.set_append_right _ _ (by rw [e, h.cells]; omega), e, h.cells, List.set_append_right _ _ (by rw [List.length_map, h.leaf]; omega), List.length_map, h.leaf, show 12288 + i - 2 * 4096 - 4096 = i by omega, List.set_append_left _ _ (by rw [List.length_map, h.low]; omega), List.map_set]
theorem set_mid {T : TV} (h : T.Ok) {i n : Nat} (hi : i < 16) : (treeC T).set (12544 + i) (u32 n) = treeC { T with mid := T.mid.set i n } := by
  have e := flatC_len T.cells
  simp only [treeC]
  rw [List.set_append_right _ _ (by rw [e, h.cells]; omega), e, h.cells, List.set_append_right _ _ (by rw [List.length_map, h.leaf]; omega), List.length_map, h.leaf, List.set_append_right _ _ (by rw [List.length_map, h.low]; omega), List.length_map, h.low,
    show 12544 + i - 2 * 4096 - 4096 - 256 = i by omega, List.set_append_left _ _ (by rw [List.length_map, h.mid]; omega), List.map_set]
theorem set_root {T : TV} (h : T.Ok) {n : Nat} : (treeC T).set 12560 (u32 n) = treeC { T with root := n } := by
  have e := flatC_len T.cells
  simp only [treeC]
  rw [List.set_append_right _ _ (by rw [e, h.cells]; omega), e, h.cells, List.set_append_right _ _ (by rw [List.length_map, h.leaf]; omega), List.length_map, h.leaf, List.set_append_right _ _ (by rw [List.length_map, h.low]; omega), List.length_map, h.low,
    List.set_append_right _ _ (by rw [List.length_map, h.mid]; omega), List.length_map, h.mid]; rfl
theorem flatC_set : ∀ {l : List CR} {i : Nat} {c : CR}, i < l.length → (flatC l).take (2 * i) ++ crow c ++ (flatC l).drop (2 * i + 2) = flatC (l.set i c)
  | [], i, c, h => by simp at h
  | x :: l, 0, c, h => rfl
  | x :: l, i + 1, c, h => by
    have e : flatC (x :: l) = crow x ++ flatC l := rfl
    have ih := flatC_set (l := l) (i := i) (c := c) (by simpa using h)
    rw [e, List.set_cons_succ, show flatC (x :: l.set i c) = crow x ++ flatC (l.set i c) from rfl, ← ih]
    rw [show 2 * (i + 1) = 2 + 2 * i by omega, show 2 + 2 * i + 2 = 2 + (2 * i + 2) by omega, ← List.drop_drop, List.take_append, show (crow x).length = 2 from rfl, show 2 + 2 * i - 2 = 2 * i by omega, List.take_of_length_le (show (crow x).length ≤ 2 + 2 * i by show 2 ≤ _; omega)]
    simp only [List.append_assoc]; rfl
theorem set_cell {T : TV} (h : T.Ok) {i : Nat} {c : CR} (hi : i < 4096) : (treeC T).take (2 * i) ++ crow c ++ (treeC T).drop (2 * i + 2) = treeC { T with cells := T.cells.set i c } := by
  have e := flatC_len T.cells
  have hc := h.cells
  simp only [treeC]
  rw [← flatC_set (by omega), List.take_append_of_le_length (by omega), List.drop_append_of_le_length (by omega)]
  simp only [List.append_assoc]
theorem Ok_cells {T : TV} (h : T.Ok) {i : Nat} {c : CR} : TV.Ok { T with cells := T.cells.set i c } := ⟨by simp [h.cells], h.leaf, h.low, h.mid⟩
theorem Ok_leaf {T : TV} (h : T.Ok) {i n : Nat} : TV.Ok { T with leaf := T.leaf.set i n } := ⟨h.cells, by simp [h.leaf], h.low, h.mid⟩
theorem Ok_low {T : TV} (h : T.Ok) {i n : Nat} : TV.Ok { T with low := T.low.set i n } := ⟨h.cells, h.leaf, by simp [h.low], h.mid⟩
theorem Ok_mid {T : TV} (h : T.Ok) {i n : Nat} : TV.Ok { T with mid := T.mid.set i n } := ⟨h.cells, h.leaf, h.low, by simp [h.mid]⟩
theorem Ok_root {T : TV} (h : T.Ok) {n : Nat} : TV.Ok { T with root := n } := ⟨h.cells, h.leaf, h.low, h.mid⟩
/-- Such a block names no other. -/
theorem pure_app {p : Nat → Bool} : ∀ {a b : List V}, V.alll p a = true → V.alll p b = true → V.alll p (a ++ b) = true
  | [], b, _, h => h
  | x :: a, b, h, h2 => by
    simp only [List.cons_append, V.alll, Bool.and_eq_true] at h ⊢
    exact ⟨h.1, pure_app h.2 h2⟩
theorem u32_all (p : Nat → Bool) : ∀ l : List Nat, V.alll p (l.map u32) = true
  | [] => rfl
  | n :: l => u32_all p l
theorem flatC_all (p : Nat → Bool) : ∀ l : List CR, V.alll p (flatC l) = true
  | [] => rfl
  | c :: l => flatC_all p l
theorem treeC_all (p : Nat → Bool) (T : TV) : V.alll p (treeC T) = true :=
  pure_app (flatC_all p _) (pure_app (u32_all p _) (pure_app (u32_all p _) (pure_app (u32_all p _) rfl)))
theorem renl_app (f : Nat → Nat) : ∀ a b : List V, V.renl f (a ++ b) = V.renl f a ++ V.renl f b
  | [], b => rfl
  | x :: a, b => by simp only [List.cons_append, V.renl, renl_app f a b]
theorem u32_ren (f : Nat → Nat) : ∀ l : List Nat, V.renl f (l.map u32) = l.map u32
  | [] => rfl
  | n :: l => congrArg (fun r => u32 n :: r) (u32_ren f l)
theorem flatC_ren (f : Nat → Nat) : ∀ l : List CR, V.renl f (flatC l) = flatC l
  | [] => rfl
  | c :: l => congrArg (fun r => V.int .i64 c.1 :: V.bool c.2 :: r) (flatC_ren f l)
theorem treeC_ren (f : Nat → Nat) (T : TV) : V.renl f (treeC T) = treeC T := by
  simp only [treeC, renl_app, u32_ren, flatC_ren]; rfl
theorem idsl_app (acc : List Nat) : ∀ a b : List V, V.idsl acc (a ++ b) = V.idsl (V.idsl acc a) b := by
  intro a
  induction a generalizing acc with
  | nil => intro b; rfl
  | cons x a ih => intro b; simp only [List.cons_append, V.idsl, ih]
theorem u32_ids (acc : List Nat) : ∀ l : List Nat, V.idsl acc (l.map u32) = acc
  | [] => rfl
  | n :: l => u32_ids acc l
theorem flatC_ids (acc : List Nat) : ∀ l : List CR, V.idsl acc (flatC l) = acc
  | [] => rfl
  | c :: l => flatC_ids acc l
theorem treeC_ids (acc : List Nat) (T : TV) : V.idsl acc (treeC T) = acc := by
  simp only [treeC, idsl_app, u32_ids, flatC_ids]; rfl
end Go.Proofs.Ythikboobkmfgfaa
