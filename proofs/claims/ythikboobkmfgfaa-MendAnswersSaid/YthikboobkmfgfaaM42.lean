/- The numbers of a table's tree, level by level: plain. -/
import Derived.Test.YthikboobkmfgfaaM9
set_option linter.all false
set_option maxRecDepth 100000
namespace Go.Proofs.Ythikboobkmfgfaa
open Go Go.Abs

theorem row_get? (l : List Nat) (i j : Nat) : (row16 l i)[j]? = if j < 16 then l[16 * i + j]? else none := by
  unfold row16
  rw [List.getElem?_take]
  split
  · rw [List.getElem?_drop]
  · rfl
theorem row_set {l : List Nat} {k v i : Nat} (h : k / 16 ≠ i) : row16 (l.set k v) i = row16 l i := by
  apply List.ext_getElem?
  intro j
  rw [row_get?, row_get?]
  split
  · rw [List.getElem?_set_ne (by omega)]
  · rfl
/-- The numbers above numbers. -/
def aboveL (l : List Nat) : List Nat := (List.range (l.length / 16)).map fun i => overN (row16 l i)
structure Tidy (T : TV) : Prop where
  low : ∀ i, i < 256 → T.low[i]? = some (overN (row16 T.leaf i))
  mid : ∀ i, i < 16 → T.mid[i]? = some (overN (row16 T.low i))
theorem tidy_put {T : TV} (h : T.Ok) (t : Tidy T) {key : Nat} (hk : key < 4096) (c : CR) : Tidy (putT T key c) := by
  have e1 : (putT T key c).leaf = T.leaf.set key (numberN c) := rfl
  have e2 : (putT T key c).low = T.low.set (key / 16) (overN (row16 (T.leaf.set key (numberN c)) (key / 16))) := rfl
  have e3 : (putT T key c).mid = T.mid.set (key / 16 / 16) (overN (row16 (T.low.set (key / 16) (overN (row16 (T.leaf.set key (numberN c)) (key / 16)))) (key / 16 / 16))) := rfl
  refine ⟨fun i hi => ?_, fun i hi => ?_⟩
  · rw [e2, e1]
    by_cases hc : key / 16 = i
    · subst hc
      rw [List.getElem?_set_self (by rw [h.low]; omega)]
    · rw [List.getElem?_set_ne hc, row_set hc, t.low i hi]
  · rw [e3, e2]
    by_cases hc : key / 16 / 16 = i
    · subst hc
      rw [List.getElem?_set_self (by rw [h.mid]; omega)]
    · rw [List.getElem?_set_ne hc, row_set hc, t.mid i hi]
theorem tidy_root {T : TV} (t : Tidy T) : Tidy (upR T) := ⟨t.low, t.mid⟩
theorem tidy_puts : ∀ (l : List PR) {T : TV}, T.Ok → Tidy T → (∀ p ∈ l, 0 ≤ p.1 ∧ p.1 < 4096) → Tidy (putsT T l)
  | [], _, _, t, _ => t
  | p :: l, T, h, t, hp => by
    have h1 := hp p (by simp)
    exact tidy_puts l (T := putT T p.1.toNat (p.2, true)) (Ok_put h) (tidy_put h t (by omega) _) fun q hq => hp q (by simp [hq])
def zer16 : List Nat := List.replicate 16 0
theorem row_repU (n m i : Nat) (v : Nat) (h : 16 * i + 16 ≤ n) : row16 (List.replicate n v) i = List.replicate 16 v := by
  apply List.ext_getElem?
  intro j
  rw [row_get?, List.getElem?_replicate, List.getElem?_replicate]
  split
  · rw [if_pos (by omega)]
  · rfl
theorem emL_all : ∀ i, i ≤ 256 → (emL i).leaf = List.replicate 4096 0 ∧ (emL i).mid.length = 16 ∧ (emL i).low.length = 256 ∧ ∀ j, j < i → (emL i).low[j]? = some (overN (List.replicate 16 0))
  | 0, _ => ⟨rfl, by simp [emL, zeroT], by simp [emL, zeroT], fun j hj => absurd hj (by omega)⟩
  | i + 1, hi => by
    obtain ⟨h1, h2, h3, h4⟩ := emL_all i (by omega)
    have e1 : (emL (i + 1)).leaf = (emL i).leaf := rfl
    have e2 : (emL (i + 1)).mid = (emL i).mid := rfl
    have e3 : (emL (i + 1)).low = (emL i).low.set i (overN (row16 (emL i).leaf 0)) := rfl
    refine ⟨e1.trans h1, by rw [e2, h2], by rw [e3, List.length_set, h3], fun j hj => ?_⟩
    rw [e3]
    by_cases hc : i = j
    · subst hc
      rw [List.getElem?_set_self (by omega), h1, row_repU 4096 0 0 0 (by omega)]
    · rw [List.getElem?_set_ne hc, h4 j (by omega)]
theorem emM_all (L : TV) (M : Nat → TV) (m0 : M 0 = L) (eM : ∀ i, M (i + 1) = stepM (M i) i) (hl : L.mid.length = 16) : ∀ i, i ≤ 16 → (M i).leaf = L.leaf ∧ (M i).low = L.low ∧ (M i).mid.length = 16 ∧ ∀ j, j < i → (M i).mid[j]? = some (overN (row16 L.low 0))
  | 0, _ => ⟨by rw [m0], by rw [m0], by rw [m0, hl], fun j hj => absurd hj (by omega)⟩
  | i + 1, hi => by
    obtain ⟨h1, h2, h3, h4⟩ := emM_all L M m0 eM hl i (by omega)
    have e := eM i
    refine ⟨by rw [e]; exact h1, by rw [e]; exact h2, by rw [e]; show ((M i).mid.set i _).length = 16; rw [List.length_set, h3], fun j hj => ?_⟩
    rw [e]
    show ((M i).mid.set i (overN (row16 (M i).low 0)))[j]? = _
    by_cases hc : i = j
    · subst hc
      rw [List.getElem?_set_self (by omega), h2]
    · rw [List.getElem?_set_ne hc, h4 j (by omega)]
theorem tidy_of (L T : TV) (hL : L.leaf = List.replicate 4096 0 ∧ L.mid.length = 16 ∧ L.low.length = 256 ∧ ∀ j, j < 256 → L.low[j]? = some (overN (List.replicate 16 0)))
    (hT : T.leaf = L.leaf ∧ T.low = L.low ∧ T.mid.length = 16 ∧ ∀ j, j < 16 → T.mid[j]? = some (overN (row16 L.low 0))) : Tidy T := by
  obtain ⟨a1, a2, a3, a4⟩ := hL
  obtain ⟨b1, b2, b3, b4⟩ := hT
  refine ⟨fun i hi => ?_, fun i hi => ?_⟩
  · rw [b2, b1, a1, a4 i hi, row_repU 4096 0 i 0 (by omega)]
  · have e : row16 L.low i = row16 L.low 0 := by
      apply List.ext_getElem?
      intro j
      rw [row_get?, row_get?]
      split
      · rw [a4 _ (by omega), a4 _ (by omega)]
      · rfl
    rw [b4 i hi, b2, e]
theorem tidy_empty : Tidy emptyT := tidy_root (tidy_of (emL 256) (emM 16) (emL_all 256 (Nat.le_refl _)) (emM_all (emL 256) emM rfl (fun _ => rfl) (emL_all 256 (Nat.le_refl _)).2.1 16 (Nat.le_refl _)))
theorem tidy_new {l : List PR} (h : chk l = true) : Tidy (newT l) := tidy_puts l empty_Ok tidy_empty fun p hp => by
  obtain ⟨i, hi, rfl⟩ := List.getElem_of_mem hp
  exact chk_key h i hi
theorem low_above {T : TV} (h : T.Ok) (t : Tidy T) : T.low = aboveL T.leaf := by
  apply List.ext_getElem?
  intro i
  unfold aboveL
  rw [h.leaf, List.getElem?_map]
  by_cases hi : i < 256
  · rw [t.low i hi, List.getElem?_range (by omega)]; rfl
  · rw [List.getElem?_eq_none (by rw [h.low]; omega), List.getElem?_eq_none (by rw [List.length_range]; omega)]; rfl
theorem mid_above {T : TV} (h : T.Ok) (t : Tidy T) : T.mid = aboveL T.low := by
  apply List.ext_getElem?
  intro i
  unfold aboveL
  rw [h.low, List.getElem?_map]
  by_cases hi : i < 16
  · rw [t.mid i hi, List.getElem?_range (by omega)]; rfl
  · rw [List.getElem?_eq_none (by rw [h.mid]; omega), List.getElem?_eq_none (by rw [List.length_range]; omega)]; rfl
/-- The numbers of all keys. -/
def leafF (l : List PR) (a : List Nat) : List Nat := l.foldl (fun a p => a.set p.1.toNat (numberN (p.2, true))) a
theorem leaf_puts : ∀ (l : List PR) (T : TV), (putsT T l).leaf = leafF l T.leaf
  | [], _ => rfl
  | p :: l, T => leaf_puts l (putT T p.1.toNat (p.2, true))
theorem leaf_new (l : List PR) : (newT l).leaf = leafF l (List.replicate 4096 0) := by
  have e : emptyT.leaf = List.replicate 4096 0 := (emM_all (emL 256) emM rfl (fun _ => rfl) (emL_all 256 (Nat.le_refl _)).2.1 16 (Nat.le_refl _)).1.trans (emL_all 256 (Nat.le_refl _)).1
  rw [newT, leaf_puts, e]
theorem leafF_len : ∀ (l : List PR) (a : List Nat), (leafF l a).length = a.length
  | [], _ => rfl
  | p :: l, a => by rw [leafF, List.foldl_cons]; exact (leafF_len l _).trans (List.length_set)
theorem leafF_succ {l : List PR} {i : Nat} (h : i < l.length) (a : List Nat) : leafF (l.take (i + 1)) a = (leafF (l.take i) a).set l[i].1.toNat (numberN (l[i].2, true)) := by
  rw [List.take_succ_eq_append_getElem h, leafF, List.foldl_append]; rfl
theorem aboveL_len (l : List Nat) : (aboveL l).length = l.length / 16 := by simp [aboveL]
end Go.Proofs.Ythikboobkmfgfaa
