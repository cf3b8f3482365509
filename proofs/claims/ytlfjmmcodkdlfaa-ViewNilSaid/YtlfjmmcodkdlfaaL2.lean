/- An abstract value stands for a value of the model: the relation, and how it lives on. -/
import Derived.Test.YtlfjmmcodkdlfaaL1
import Derived.CallsIn
import Derived.Below
import Derived.Laws.AppendOwn
import Derived.Laws.StructEq
import Derived.Lib.AppendStr
import Derived.Lib.FrozenHead
import Derived.Lib.Builder
import Derived.LaidEql
import Derived.Lib.ConvBytes
import Derived.Laws.BytesArg
import Derived.Lib.Strings
set_option linter.all false
namespace Go.Abs

class BT where
  byte : TypeId
  good : FuncId → Code → Prop
  solo : TypeId → Prop
  width : TypeId → Nat

def BT.is [BT] (e : TypeId) : Prop := e = BT.byte

variable [BT]

def rowInfo (W : World) (g : Nat) : Option (TypeId × Nat) :=
  match W.heap[g]? with
  | some (.cells arr t _) => some (t, arr.size)
  | _ => none

inductive Rel (W : World) (I : Nat → Nat → Prop) : List (Option Nat) → V → Value → Prop
  | any {m : List (Option Nat)} {w : Value} : Rel W I m .any w
  | bool {m : List (Option Nat)} {b : Bool} : Rel W I m (.bool b) (.bool b)
  | int {m : List (Option Nat)} {k : IntKind} {n : Int} : Rel W I m (.int k n) (.int k n)
  | str {m : List (Option Nat)} {s : ByteArray} {l : List UInt8} (h : s.data.toList = l) : Rel W I m (.str l) (.string s)
  | nilp {m : List (Option Nat)} : Rel W I m .nilp (.pointer none)
  | ptr {m : List (Option Nat)} {id off g : Nat} (h : m[id]? = some (some g)) : Rel W I m (.ptr id off) (.pointer (some ⟨g, off, none⟩))
  | pc {m : List (Option Nat)} {d : Bool} {cs : List V} {g o : Nat} {f : Nat → Value} (hc : ∀ (j : Nat) (x : V), cs[j]? = some x → I g (o + j) ∧ W.cell? ⟨g, o + j, none⟩ = some (f j) ∧ (f j).oneCell' = true)
      (hr : ∀ (j : Nat) (x : V), cs[j]? = some x → Rel W I (if d then [] else m) x (f j)) : Rel W I m (.pc d cs) (.pointer (some ⟨g, o, none⟩))
  | sl {m : List (Option Nat)} {d : Bool} {xs : List (List V)} {a : Option Addr} {n c g o sz : Nat} {f : Nat → Nat → Value} (hn : n = xs.length) (hc : n ≤ c)
      (ha : xs ≠ [] → a = some ⟨g, o, none⟩) (hs : ∀ (i : Nat) (row : List V), xs[i]? = some row → row.length = sz)
      (hi : ∀ (i : Nat) (row : List V) (j : Nat) (x : V), xs[i]? = some row → row[j]? = some x → I g (o + (i * sz + j)) ∧ W.cell? ⟨g, o + (i * sz + j), none⟩ = some (f i j) ∧ (f i j).oneCell' = true)
      (hr : ∀ (i : Nat) (row : List V) (j : Nat) (x : V), xs[i]? = some row → row[j]? = some x → Rel W I (if d then [] else m) x (f i j)) : Rel W I m (.sl d xs) (.slice a n c)
  | ms {m : List (Option Nat)} {id off len cap c g : Nat} (h : m[id]? = some (some g)) (hl : len ≤ cap) (hcc : cap ≤ c)
      (hz : off = 0 → c = cap ∨ ∃ t n, rowInfo W g = some (t, n) ∧ c * BT.width t ≤ n) : Rel W I m (.ms id off len cap) (.slice (some ⟨g, off, none⟩) len c)
  | nils {m : List (Option Nat)} {a : Option Addr} : Rel W I m .nils (.slice a 0 0)
  | fn {m : List (Option Nat)} {f : FuncId} {cs : List V} {a : Array Value} (hl : a.size = cs.length) (hr : ∀ (j : Nat) (x : V), cs[j]? = some x → Rel W I m x (a.getD j undef)) : Rel W I m (.fn f cs) (.func (.func f) #[] a)
  | yld {m : List (Option Nat)} {id g : Nat} (h : m[id]? = some (some g)) : Rel W I m (.yld id) (.func (.yield g) #[] #[])
  | nilf {m : List (Option Nat)} : Rel W I m .nilf .nilFunc
  | nilm {m : List (Option Nat)} : Rel W I m .nilm (.map none)
  | map {m : List (Option Nat)} {id g : Nat} (h : m[id]? = some (some g)) : Rel W I m (.map id) (.map (some g))
  | agg {m : List (Option Nat)} {cs : List V} {a : Array Value} (hl : a.size = cs.length) (h1 : ∀ (j : Nat) (x : V), cs[j]? = some x → (a.getD j undef).oneCell' = true) (hr : ∀ (j : Nat) (x : V), cs[j]? = some x → Rel W I m x (a.getD j undef)) : Rel W I m (.agg cs) (.agg a)
  | tup {m : List (Option Nat)} {cs : List V} {a : Array Value} (hl : a.size = cs.length) (hr : ∀ (j : Nat) (x : V), cs[j]? = some x → Rel W I m x (a.getD j undef)) : Rel W I m (.tup cs) (.tuple a)

theorem rel_und {W : World} {I : Nat → Nat → Prop} {m : List (Option Nat)} : Rel W I m (.tup []) undef := .tup rfl (by simp)

structure KeepI (I : Nat → Nat → Prop) (W W' : World) : Prop where
  cell : ∀ g o, I g o → W'.cell? ⟨g, o, none⟩ = W.cell? ⟨g, o, none⟩
  info : ∀ g p, rowInfo W g = some p → rowInfo W' g = some p

theorem KeepI.refl (I : Nat → Nat → Prop) (W : World) : KeepI I W W := ⟨fun _ _ _ => rfl, fun _ _ h => h⟩
theorem KeepI.after {I J : Nat → Nat → Prop} {W0 W W' : World} (h : KeepI J W0 W) (k : KeepI I W W') (hs : ∀ g o, J g o → I g o) : KeepI J W0 W' :=
  ⟨fun g o hi => (k.cell g o (hs g o hi)).trans (h.cell g o hi), fun g p hp => k.info g p (h.info g p hp)⟩
theorem info_same {W W' : World} {g : Nat} (h : W'.heap[g]? = W.heap[g]?) : rowInfo W' g = rowInfo W g := by unfold rowInfo; rw [h]
theorem info_lt {W : World} {g : Nat} {p : TypeId × Nat} (h : rowInfo W g = some p) : g < W.heap.size := by
  unfold rowInfo at h
  split at h
  · rename_i hh; exact (Array.getElem?_eq_some_iff.1 hh).1
  · cases h
theorem info_old {W W' : World} (h : ∀ g, g < W.heap.size → W'.heap[g]? = W.heap[g]?) : ∀ g p, rowInfo W g = some p → rowInfo W' g = some p := fun g p hp => by
  rw [info_same (h g (info_lt hp))]; exact hp
theorem info_but {W W' : World} {g0 : Nat} (h : ∀ g, g ≠ g0 → W'.heap[g]? = W.heap[g]?) (h0 : ∀ p, rowInfo W g0 = some p → rowInfo W' g0 = some p) : ∀ g p, rowInfo W g = some p → rowInfo W' g = some p := fun g p hp => by
  by_cases e : g = g0
  · subst e; exact h0 p hp
  · rw [info_same (h g e)]; exact hp

def MLe (m m' : List (Option Nat)) : Prop := ∀ (id g : Nat), m[id]? = some (some g) → m'[id]? = some (some g)

theorem MLe.refl (m : List (Option Nat)) : MLe m m := fun _ _ h => h

theorem pre_get {α : Type} {m m' : List α} (h : m <+: m') {id : Nat} {g : α} (hg : m[id]? = some g) : m'[id]? = some g := by
  obtain ⟨r, rfl⟩ := h
  have : id < m.length := (List.getElem?_eq_some_iff.1 hg).1
  rw [List.getElem?_append_left this]; exact hg

theorem MLe.pre {m m' : List (Option Nat)} (h : m <+: m') : MLe m m' := fun _ _ hg => pre_get h hg

theorem mle_ite {d : Bool} {m m' : List (Option Nat)} (h : MLe m m') : MLe (if d then [] else m) (if d then [] else m') := by
  cases d
  · simpa using h
  · simp [MLe]

theorem Rel.mono_le {W W' : World} {I I' : Nat → Nat → Prop} (hI : ∀ g o, I g o → I' g o) (hk : KeepI I W W') {m : List (Option Nat)} {v : V} {w : Value} (h : Rel W I m v w) :
    ∀ {m'}, MLe m m' → Rel W' I' m' v w := by
  induction h with
  | any => exact fun _ => .any
  | bool => exact fun _ => .bool
  | int => exact fun _ => .int
  | str h => exact fun _ => .str h
  | nilp => exact fun _ => .nilp
  | ptr h => exact fun hm => .ptr (hm _ _ h)
  | pc hc hr ih => exact fun hm => .pc (fun j x hx => ⟨hI _ _ (hc j x hx).1, by rw [hk.cell _ _ (hc j x hx).1]; exact (hc j x hx).2.1, (hc j x hx).2.2⟩) fun j x hx => ih j x hx (mle_ite hm)
  | sl hn hc ha hs hi hr ih =>
    exact fun hm => .sl hn hc ha hs (fun i row j x h1 h2 => ⟨hI _ _ (hi i row j x h1 h2).1, by rw [hk.cell _ _ (hi i row j x h1 h2).1]; exact (hi i row j x h1 h2).2.1, (hi i row j x h1 h2).2.2⟩) fun i row j x h1 h2 => ih i row j x h1 h2 (mle_ite hm)
  | ms h hl hcc hz => exact fun hm => .ms (hm _ _ h) hl hcc fun h0 => (hz h0).imp id fun ⟨t, n, h1, h2⟩ => ⟨t, n, hk.info _ _ h1, h2⟩
  | nils => exact fun _ => .nils
  | fn hl hr ih => exact fun hm => .fn hl fun j x hx => ih j x hx hm
  | yld h => exact fun hm => .yld (hm _ _ h)
  | nilf => exact fun _ => .nilf
  | nilm => exact fun _ => .nilm
  | map h => exact fun hm => .map (hm _ _ h)
  | agg hl h1 hr ih => exact fun hm => .agg hl h1 fun j x hx => ih j x hx hm
  | tup hl hr ih => exact fun hm => .tup hl fun j x hx => ih j x hx hm

theorem Rel.mono {W W' : World} {I I' : Nat → Nat → Prop} (hI : ∀ g o, I g o → I' g o) (hk : KeepI I W W') {m : List (Option Nat)} {v : V} {w : Value} (h : Rel W I m v w) {m' : List (Option Nat)} (hm : m <+: m') : Rel W' I' m' v w :=
  h.mono_le hI hk (MLe.pre hm)

theorem alll_get {p : Nat → Bool} {cs : List V} (h : V.alll p cs = true) {j : Nat} {x : V} (hx : cs[j]? = some x) : V.all p x = true := by
  induction cs generalizing j with
  | nil => simp at hx
  | cons c r ih =>
    simp only [V.alll, Bool.and_eq_true] at h
    cases j with
    | zero => simp at hx; subst hx; exact h.1
    | succ j => exact ih h.2 (by simpa using hx)
theorem allll_get {p : Nat → Bool} {xs : List (List V)} (h : V.allll p xs = true) {j : Nat} {x : List V} (hx : xs[j]? = some x) : V.alll p x = true := by
  induction xs generalizing j with
  | nil => simp at hx
  | cons c r ih =>
    simp only [V.allll, Bool.and_eq_true] at h
    cases j with
    | zero => simp at hx; subst hx; exact h.1
    | succ j => exact ih h.2 (by simpa using hx)
theorem alll_iff {p : Nat → Bool} {cs : List V} : V.alll p cs = true ↔ ∀ x ∈ cs, V.all p x = true := by
  induction cs with
  | nil => simp [V.alll]
  | cons c r ih => simp [V.alll, ih]
theorem allll_iff {p : Nat → Bool} {xs : List (List V)} : V.allll p xs = true ↔ ∀ r ∈ xs, ∀ x ∈ r, V.all p x = true := by
  induction xs with
  | nil => simp [V.allll]
  | cons c r ih => simp [V.allll, ih, alll_iff]

theorem ltl_get {n : Nat} {cs : List V} (h : V.ltl n cs = true) {j : Nat} {x : V} (hx : cs[j]? = some x) : V.lt n x = true := alll_get h hx
theorem ltl_iff {n : Nat} {cs : List V} : V.ltl n cs = true ↔ ∀ x ∈ cs, V.lt n x = true := alll_iff

theorem Rel.on {W : World} {I : Nat → Nat → Prop} {p : Nat → Bool} {m : List (Option Nat)} {v : V} {w : Value} (h : Rel W I m v w) :
    ∀ {m' : List (Option Nat)}, (∀ (id g : Nat), p id = true → m[id]? = some (some g) → m'[id]? = some (some g)) → V.all p v = true → Rel W I m' v w := by
  induction h with
  | any => exact fun _ _ => .any
  | bool => exact fun _ _ => .bool
  | int => exact fun _ _ => .int
  | str h => exact fun _ _ => .str h
  | nilp => exact fun _ _ => .nilp
  | ptr h => exact fun hm hl => .ptr (hm _ _ hl h)
  | @pc m d cs g o f hc hr ih =>
    intro m' hm hl
    refine .pc hc fun j x hx => ?_
    cases d with
    | true => simpa using hr j x hx
    | false => simp only [V.all, Bool.false_or] at hl; exact ih j x hx (by simpa using hm) (alll_get hl hx)
  | @sl m d xs a n c g o sz f hn hc ha hs hi hr ih =>
    intro m' hm hl
    refine .sl hn hc ha hs hi fun i row j x h1 h2 => ?_
    cases d with
    | true => simpa using hr i row j x h1 h2
    | false => simp only [V.all, Bool.false_or] at hl; exact ih i row j x h1 h2 (by simpa using hm) (alll_get (allll_get hl h1) h2)
  | ms h hc hcc hz => exact fun hm hl => .ms (hm _ _ hl h) hc hcc hz
  | nils => exact fun _ _ => .nils
  | fn hs hr ih => exact fun hm hl => .fn hs fun j x hx => ih j x hx hm (alll_get (by simpa only [V.all] using hl) hx)
  | yld h => exact fun hm hl => .yld (hm _ _ hl h)
  | nilf => exact fun _ _ => .nilf
  | nilm => exact fun _ _ => .nilm
  | map h => exact fun hm hl => .map (hm _ _ hl h)
  | agg hs h1 hr ih => exact fun hm hl => .agg hs h1 fun j x hx => ih j x hx hm (alll_get (by simpa only [V.all] using hl) hx)
  | tup hs hr ih => exact fun hm hl => .tup hs fun j x hx => ih j x hx hm (alll_get (by simpa only [V.all] using hl) hx)

theorem Rel.restrict {W : World} {I : Nat → Nat → Prop} {n : Nat} {m : List (Option Nat)} {v : V} {w : Value} (h : Rel W I m v w) (hl : V.lt n v = true) : Rel W I (m.take n) v w :=
  h.on (fun id g hid hg => by simp only [Nat.blt_eq] at hid; rw [List.getElem?_take, if_pos hid]; exact hg) hl

theorem Rel.pure {W : World} {I : Nat → Nat → Prop} {m m' : List (Option Nat)} {v : V} {w : Value} (h : Rel W I m v w) (hl : V.lt 0 v = true) : Rel W I m' v w :=
  h.on (fun id g hid hg => by simp at hid) hl

theorem renl_get {f : Nat → Nat} {cs : List V} {j : Nat} {y : V} (h : (V.renl f cs)[j]? = some y) : ∃ x, cs[j]? = some x ∧ y = V.ren f x := by
  induction cs generalizing j with
  | nil => simp [V.renl] at h
  | cons c r ih =>
    simp only [V.renl] at h
    cases j with
    | zero => simp at h; exact ⟨c, by simp, h.symm⟩
    | succ j => simpa using ih (by simpa using h)
theorem renll_get {f : Nat → Nat} {xs : List (List V)} {j : Nat} {y : List V} (h : (V.renll f xs)[j]? = some y) : ∃ x, xs[j]? = some x ∧ y = V.renl f x := by
  induction xs generalizing j with
  | nil => simp [V.renll] at h
  | cons c r ih =>
    simp only [V.renll] at h
    cases j with
    | zero => simp at h; exact ⟨c, by simp, h.symm⟩
    | succ j => simpa using ih (by simpa using h)
@[simp] theorem renl_length {f : Nat → Nat} {cs : List V} : (V.renl f cs).length = cs.length := by
  induction cs with
  | nil => rfl
  | cons c r ih => simp [V.renl, ih]
@[simp] theorem renll_length {f : Nat → Nat} {cs : List (List V)} : (V.renll f cs).length = cs.length := by
  induction cs with
  | nil => rfl
  | cons c r ih => simp [V.renll, ih]

theorem ren_pure0 {f : Nat → Nat} : ∀ v : V, V.lt 0 v = true → v.ren f = v := by
  intro v
  refine V.rec (motive_1 := fun v => V.lt 0 v = true → V.ren f v = v) (motive_2 := fun l => V.ltl 0 l = true → V.renl f l = l)
    (motive_3 := fun l => V.allll (fun i => Nat.blt i 0) l = true → V.renll f l = l) ?_ ?_ ?_ ?_ ?_ ?_ ?_ ?_ ?_ ?_ ?_ ?_ ?_ ?_ ?_ ?_ ?_ ?_ ?_ ?_ ?_ v <;> intros <;> simp_all [V.lt, V.ltl, V.all, V.alll, V.allll, V.ren, V.renl, V.renll]
  · rename_i d _ _ h
    cases d <;> simp_all
  · rename_i d _ _ h
    cases d <;> simp_all

theorem Rel.ren {W : World} {I : Nat → Nat → Prop} {p : Nat → Bool} {f : Nat → Nat} {m : List (Option Nat)} {v : V} {w : Value} (h : Rel W I m v w) :
    ∀ {m' : List (Option Nat)}, (∀ (id g : Nat), p id = true → m[id]? = some (some g) → m'[f id]? = some (some g)) → V.all p v = true → Rel W I m' (v.ren f) w := by
  induction h with
  | any => exact fun _ _ => .any
  | bool => exact fun _ _ => .bool
  | int => exact fun _ _ => .int
  | str h => exact fun _ _ => .str h
  | nilp => exact fun _ _ => .nilp
  | ptr h => exact fun hm hl => .ptr (hm _ _ hl h)
  | @pc m d cs g o f hc hr ih =>
    intro m' hm hl
    simp only [V.ren]
    cases d with
    | true => simpa using Rel.pc (m := m') (d := true) hc (by simpa using hr)
    | false =>
      simp only [V.all, Bool.false_or] at hl
      refine .pc (fun j x hx => ?_) (f := f) fun j x hx => ?_
      · obtain ⟨y, hy, _⟩ := renl_get (by simpa using hx); exact hc j y hy
      · obtain ⟨y, hy, rfl⟩ := renl_get (by simpa using hx); simpa using ih j y hy (by simpa using hm) (alll_get hl hy)
  | @sl m d xs a n c g o sz f hn hc ha hs hi hr ih =>
    intro m' hm hl
    simp only [V.ren]
    cases d with
    | true => simpa using Rel.sl (m := m') (d := true) hn hc ha hs hi (by simpa using hr)
    | false =>
      simp only [V.all, Bool.false_or] at hl
      refine .sl (sz := sz) (f := f) (g := g) (o := o) (by simpa using hn) hc (fun h => ha fun h' => h (by simp [h', V.renll])) (fun i row h => ?_) (fun i row j x h1 h2 => ?_) fun i row j x h1 h2 => ?_
      · obtain ⟨y, hy, rfl⟩ := renll_get (by simpa using h); simpa using hs i y hy
      · obtain ⟨y, hy, rfl⟩ := renll_get (by simpa using h1); obtain ⟨z, hz, _⟩ := renl_get h2; exact hi i y j z hy hz
      · obtain ⟨y, hy, rfl⟩ := renll_get (by simpa using h1); obtain ⟨z, hz, rfl⟩ := renl_get h2; simpa using ih i y j z hy hz (by simpa using hm) (alll_get (allll_get hl hy) hz)
  | ms h hc hcc hz => exact fun hm hl => .ms (hm _ _ hl h) hc hcc hz
  | nils => exact fun _ _ => .nils
  | fn hs hr ih => exact fun hm hl => .fn (by simpa using hs) fun j x hx => by obtain ⟨y, hy, rfl⟩ := renl_get hx; exact ih j y hy hm (alll_get (by simpa only [V.all] using hl) hy)
  | yld h => exact fun hm hl => .yld (hm _ _ hl h)
  | nilf => exact fun _ _ => .nilf
  | nilm => exact fun _ _ => .nilm
  | map h => exact fun hm hl => .map (hm _ _ hl h)
  | agg hs h1 hr ih => exact fun hm hl => .agg (by simpa using hs) (fun j x hx => by obtain ⟨y, hy, rfl⟩ := renl_get hx; exact h1 j y hy) fun j x hx => by obtain ⟨y, hy, rfl⟩ := renl_get hx; exact ih j y hy hm (alll_get (by simpa only [V.all] using hl) hy)
  | tup hs hr ih => exact fun hm hl => .tup (by simpa using hs) fun j x hx => by obtain ⟨y, hy, rfl⟩ := renl_get hx; exact ih j y hy hm (alll_get (by simpa only [V.all] using hl) hy)

theorem Rel.all {W : World} {I : Nat → Nat → Prop} {p : Nat → Bool} {m : List (Option Nat)} {v : V} {w : Value} (h : Rel W I m v w) : (∀ (id g : Nat), m[id]? = some (some g) → p id = true) → V.all p v = true := by
  induction h with
  | ptr h => exact fun hp => hp _ _ h
  | @pc m d cs g o f hc hr ih =>
    intro hp
    cases d with
    | true => simp [V.all]
    | false =>
      simp only [V.all, Bool.false_or, alll_iff]
      intro x hx
      obtain ⟨j, hj⟩ := List.mem_iff_getElem?.1 hx
      exact ih j x hj (by simpa using hp)
  | @sl m d xs a n c g o sz f hn hc ha hs hi hr ih =>
    intro hp
    cases d with
    | true => simp [V.all]
    | false =>
      simp only [V.all, Bool.false_or, allll_iff]
      intro r hr' x hx
      obtain ⟨i, hi'⟩ := List.mem_iff_getElem?.1 hr'
      obtain ⟨j, hj⟩ := List.mem_iff_getElem?.1 hx
      exact ih i r j x hi' hj (by simpa using hp)
  | ms h hl hcc hz => exact fun hp => hp _ _ h
  | fn hl hr ih =>
    intro hp
    simp only [V.all, alll_iff]
    intro x hx
    obtain ⟨j, hj⟩ := List.mem_iff_getElem?.1 hx
    exact ih j x hj hp
  | yld h => exact fun hp => hp _ _ h
  | map h => exact fun hp => hp _ _ h
  | agg hl h1 hr ih =>
    intro hp
    simp only [V.all, alll_iff]
    intro x hx
    obtain ⟨j, hj⟩ := List.mem_iff_getElem?.1 hx
    exact ih j x hj hp
  | tup hl hr ih =>
    intro hp
    simp only [V.all, alll_iff]
    intro x hx
    obtain ⟨j, hj⟩ := List.mem_iff_getElem?.1 hx
    exact ih j x hj hp
  | _ => exact fun _ => rfl

theorem Rel.lt {W : World} {I : Nat → Nat → Prop} {m : List (Option Nat)} {v : V} {w : Value} (h : Rel W I m v w) : V.lt m.length v = true :=
  h.all fun id g hg => by simp only [Nat.blt_eq]; exact (List.getElem?_eq_some_iff.1 hg).1

theorem rel_const {W : World} {I : Nat → Nat → Prop} {m : List (Option Nat)} (v : Value) : Rel W I m (ofConst v) v := by
  unfold ofConst
  split <;> first | exact .bool | exact .int | exact .str rfl | exact .nilp | exact .nilf | exact .nilm | exact .any | skip
  exact .sl (g := 0) (o := 0) (sz := 0) (f := fun _ _ => undef) rfl (by simp) (by simp) (by simp) (by simp) (by simp)

end Go.Abs
/-! The state of the interpreter stands for the state of the model: the relation, and the steps that keep it. -/
namespace Go.Abs

variable [BT]

inductive BlkOk (W : World) (I : Nat → Nat → Prop) (m : List (Option Nat)) : Blk → Option Nat → Prop
  | cells {ow : List Nat} {cs : List V} {g : Nat} {arr : Array Value} {t : TypeId} (h : W.heap[g]? = some (.cells arr t (0, 0))) (hs : cs.length ≤ arr.size ∧ (BT.solo t → arr.size = cs.length))
      (h1 : ∀ (j : Nat) (x : V), cs[j]? = some x → (arr.getD j undef).oneCell' = true) (hr : ∀ (j : Nat) (x : V), cs[j]? = some x → Rel W I m x (arr.getD j undef)) : BlkOk W I m (.cells t ow cs) (some g)
  | loop {s : LoopState} {pe : Option Code} {fn : FuncId} {fr : List V} {ps : List Tmp} {as bo : Code} {g : Nat} {r : Loop} (h : W.heap[g]? = some (.loop r)) (hst : r.state = s) (hpe : r.pending = pe) (hps : r.params.toList = ps)
      (has : r.assign = as) (hbo : r.body = bo) (hs : r.tmps.size = fr.length) (hr : ∀ (j : Nat) (x : V), fr[j]? = some x → Rel W I m x (r.tmps.getD j undef)) (hg : BT.good fn as ∧ BT.good fn bo) : BlkOk W I m (.loop s pe fn fr ps as bo) (some g)
  | map {es : List (V × List V)} {g : Nat} {ents : Array MapEntry} {clock : Nat} (h : W.heap[g]? = some (.map ents clock)) (hs : ents.size = es.length)
      (hr : ∀ (j : Nat) (k : V) (vs : List V) (e : MapEntry), es[j]? = some (k, vs) → ents[j]? = some e → V.lt 0 k = true ∧ Rel W I m k e.key ∧ ∃ v, vs = [v] ∧ Rel W I m v e.val) : BlkOk W I m (.map es) (some g)
  | dead {g : Nat} {o : Obj} (h : W.heap[g]? = some o) (hd : ∀ x, o ≠ .deferred x) : BlkOk W I m .dead (some g)
  | ahead {b : Blk} : BlkOk W I m b none

def claimOf : Value → Option Nat
  | .slice (some a) _ (_ + 1) => some a.block
  | _ => none

inductive Held (W : World) (m : List (Option Nat)) (st : St) (tmps : Array Value) : Owner → List (List V) → Value → Prop
  | tmp {t : Nat} {d : Bool} {xs : List (List V)} (ho : t ∈ st.own) (hx : st.fr[t]? = some (.sl d xs)) : Held W m st tmps (.tmp t) xs (tmps.getD t undef)
  | cell {id off : Nat} {ow : List Nat} {cs : List V} {d : Bool} {xs : List (List V)} {g : Nat} {v : Value} {t : TypeId} (hb : st.hp[id]? = some (.cells t ow cs)) (ho : off ∈ ow)
      (hx : cs[off]? = some (.sl d xs)) (hg : m[id]? = some (some g)) (hv : W.cell? ⟨g, off, none⟩ = some v) : Held W m st tmps (.cell id off) xs v

def OwnRow (W : World) (I : Nat → Nat → Prop) (xs : List (List V)) (v : Value) : Prop :=
  (∃ a, v = .slice a xs.length 0) ∨
  ∃ g c arr e sz fz, v = .slice (some ⟨g, 0, none⟩) xs.length (c + 1) ∧ xs ≠ [] ∧ (∀ row ∈ xs, row.length = sz) ∧ W.heap[g]? = some (.cells arr e fz) ∧ fz.2 ≤ xs.length * sz ∧ arr.size = (c + 1) * sz ∧
    xs.length ≤ c + 1 ∧ (∀ o, xs.length * sz ≤ o → ¬ I g o) ∧ (headByte xs = true → BT.is e)

structure Base where
  A : Nat → Prop
  W : World
  I : Nat → Nat → Prop
  m : List (Option Nat)
  D : List Nat := []
  n0 : Nat := m.length

structure TapeLe (W W' : World) : Prop where
  eq : W'.tape = W.tape
  le : W.drawn ≤ W'.drawn
theorem TapeLe.refl (W : World) : TapeLe W W := ⟨rfl, Nat.le_refl _⟩
theorem TapeLe.trans {W W' W'' : World} (h : TapeLe W' W'') (k : TapeLe W W') : TapeLe W W'' := ⟨h.eq.trans k.eq, Nat.le_trans k.le h.le⟩
structure Grow (B : Base) (W : World) (I : Nat → Nat → Prop) : Prop where
  os : W.os = B.W.os
  tape : TapeLe B.W W
  output : W.output = B.W.output
  size : B.W.heap.size ≤ W.heap.size
  same : ∀ g, g < B.W.heap.size → ¬ B.A g → W.heap[g]? = B.W.heap[g]?
  sub : ∀ g o, B.I g o → I g o
  fresh : ∀ g o, I g o → B.I g o ∨ B.W.heap.size ≤ g ∨ B.A g
  keep : KeepI B.I B.W W
  dfr : ∀ g, g ∈ B.D → W.heap[g]? = some (.deferred (some []))
  dnd : B.D.Nodup ∧ ∀ g, g ∈ B.D → B.W.heap.size ≤ g

def AliasOk (W : World) (m : List (Option Nat)) (tmps : Array Value) (t : Tmp) : Owner → Prop
  | .tmp u => t < tmps.size → tmps.getD t undef = tmps.getD u undef
  | .cell id off => t < tmps.size → ∃ g, m[id]? = some (some g) ∧ W.cell? ⟨g, off, none⟩ = some (tmps.getD t undef)
  | .base id off => t < tmps.size → ∃ g a n c p, m[id]? = some (some g) ∧ W.cell? ⟨g, off, none⟩ = some (.slice a n c) ∧ tmps.getD t undef = .pointer p ∧ (c ≠ 0 → p = a)

structure Sim (B : Base) (W : World) (I : Nat → Nat → Prop) (m : List (Option Nat)) (st : St) (tmps : Array Value) : Prop where
  grow : Grow B W I
  pre : B.m <+: m
  live : ∀ g o : Nat, I g o → ∃ v, W.cell? ⟨g, o, none⟩ = some v
  len : tmps.size = st.fr.length
  fr : ∀ (t : Nat) (x : V), st.fr[t]? = some x → Rel W I m x (tmps.getD t undef)
  mlen : m.length = st.hp.length
  inj : ∀ i j g : Nat, m[i]? = some (some g) → m[j]? = some (some g) → i = j
  blk : ∀ (id : Nat) (b : Blk), st.hp[id]? = some b → ∃ x : Option Nat, m[id]? = some x ∧ BlkOk W I m b x
  mA : ∀ g : Nat, some g ∈ m → B.A g ∨ B.W.heap.size ≤ g
  notI : ∀ g : Nat, some g ∈ m → ∀ o : Nat, ¬ I g o
  own : ∀ (l : Owner) (xs : List (List V)) (v : Value), Held W m st tmps l xs v → OwnRow W I xs v
  ownA : ∀ (l : Owner) (xs : List (List V)) (v : Value) (g : Nat), Held W m st tmps l xs v → claimOf v = some g → (B.A g ∨ B.W.heap.size ≤ g) ∧ some g ∉ m
  ownInj : ∀ (l l' : Owner) (xs xs' : List (List V)) (v v' : Value) (g : Nat), Held W m st tmps l xs v → Held W m st tmps l' xs' v' → claimOf v = some g → claimOf v' = some g → l = l'
  al : ∀ (t : Tmp) (o : Owner), (t, o) ∈ st.al → AliasOk W m tmps t o
  nb : B.n0 ≤ st.nb

def aput (tmps : Array Value) (d : Option Tmp) (v : Value) : Array Value :=
  match d with
  | none => tmps
  | some d => tmps.setIfInBounds d v

theorem put_tmps (a : Act) (d : Option Tmp) (v : Value) : (a.put d v).tmps = aput a.tmps d v := by cases d <;> rfl
theorem put_defers (a : Act) (d : Option Tmp) (v : Value) : (a.put d v).defers = a.defers := by cases d <;> rfl

theorem getD_set {a : Array Value} {d t : Nat} {v : Value} (hd : d < a.size) : (a.setIfInBounds d v).getD t undef = if t = d then v else a.getD t undef := by
  simp only [Array.getD_eq_getD_getElem?, Array.getElem?_setIfInBounds]
  by_cases h : t = d
  · subst h; simp [hd]
  · rw [if_neg (fun h' => h h'.symm), if_neg h]

theorem getD_of_get {α : Type} {l : List α} {t : Nat} {x d : α} (h : l[t]? = some x) : l.getD t d = x := by simp [List.getD_eq_getElem?_getD, h]

theorem cell_of_blk {W : World} {g o : Nat} {arr : Array Value} {t : TypeId} {fr : Nat × Nat} (h : W.heap[g]? = some (.cells arr t fr)) : W.cell? ⟨g, o, none⟩ = arr[o]? := by
  simp [World.cell?, h]
theorem lt_of_cell {W : World} {g o : Nat} {v : Value} (h : W.cell? ⟨g, o, none⟩ = some v) : g < W.heap.size := World.block_lt_of_cell? W ⟨g, o, none⟩ h
theorem cell_same {W W' : World} {g o : Nat} (h : W'.heap[g]? = W.heap[g]?) : W'.cell? ⟨g, o, none⟩ = W.cell? ⟨g, o, none⟩ := by simp [World.cell?, h]
theorem lt_of_heap {W : World} {g : Nat} {o : Obj} (h : W.heap[g]? = some o) : g < W.heap.size := (Array.getElem?_eq_some_iff.1 h).1

theorem BlkOk.heap {W : World} {I : Nat → Nat → Prop} {m : List (Option Nat)} {b : Blk} {g : Nat} (h : BlkOk W I m b (some g)) : g < W.heap.size := by
  cases h with
  | cells h => exact lt_of_heap h
  | map h => exact lt_of_heap h
  | loop h => exact lt_of_heap h
  | dead h => exact lt_of_heap h

theorem BlkOk.notD {W : World} {I : Nat → Nat → Prop} {m : List (Option Nat)} {b : Blk} {g : Nat} (h : BlkOk W I m b (some g)) {x : Option (List Deferred)} : W.heap[g]? ≠ some (.deferred x) := by
  intro he
  cases h with
  | cells h => rw [h] at he; cases he
  | map h => rw [h] at he; cases he
  | loop h => rw [h] at he; cases he
  | dead h hd => rw [h] at he; cases he; exact hd _ rfl

theorem BlkOk.mono {W W' : World} {I I' : Nat → Nat → Prop} {m m' : List (Option Nat)} {b : Blk} {x : Option Nat} (h : BlkOk W I m b x) (hI : ∀ g o, I g o → I' g o) (hk : KeepI I W W') (hm : MLe m m')
    (hs : ∀ g, x = some g → W'.heap[g]? = W.heap[g]?) : BlkOk W' I' m' b x := by
  cases h with
  | cells h hs' h1 hr => exact .cells ((hs _ rfl).trans h) hs' h1 fun j x hx => (hr j x hx).mono_le hI hk hm
  | map h hs' hr =>
    refine .map ((hs _ rfl).trans h) hs' fun j k vs e h1 h2 => ?_
    obtain ⟨p1, p2, v, p3, p4⟩ := hr j k vs e h1 h2
    exact ⟨p1, p2.mono_le hI hk hm, v, p3, p4.mono_le hI hk hm⟩
  | loop h e1 e2 e4 e5 e6 hs' hr hg => exact .loop ((hs _ rfl).trans h) e1 e2 e4 e5 e6 hs' (fun j x hx => (hr j x hx).mono_le hI hk hm) hg
  | dead h hd => exact .dead ((hs _ rfl).trans h) hd
  | ahead => exact .ahead

theorem claim_lt {W : World} {I : Nat → Nat → Prop} {xs : List (List V)} {v : Value} (h : OwnRow W I xs v) {g : Nat} (hc : claimOf v = some g) : g < W.heap.size := by
  rcases h with ⟨a, rfl⟩ | ⟨g', c, arr, e, sz, fz, rfl, _, _, hh, _⟩
  · cases a <;> simp [claimOf] at hc
  · simp [claimOf] at hc; subst hc; exact lt_of_heap hh

theorem OwnRow.mono {W W' : World} {I I' : Nat → Nat → Prop} {xs : List (List V)} {v : Value} (h : OwnRow W I xs v) (hs : ∀ g, claimOf v = some g → W'.heap[g]? = W.heap[g]?)
    (hI : ∀ g o, claimOf v = some g → I' g o → I g o) : OwnRow W' I' xs v := by
  rcases h with h | ⟨g, c, arr, e, sz, fz, rfl, h1, h2, h3, h3', h4, h5, h6, h7⟩
  · exact .inl h
  · exact .inr ⟨g, c, arr, e, sz, fz, rfl, h1, h2, (hs g rfl).trans h3, h3', h4, h5, fun o ho hi => h6 o ho (hI g o rfl hi), h7⟩

theorem Held.world {W W' : World} {m : List (Option Nat)} {st : St} {tmps : Array Value} {l : Owner} {xs : List (List V)} {v : Value} (h : Held W' m st tmps l xs v)
    (hs : ∀ g, some g ∈ m → W'.heap[g]? = W.heap[g]?) : Held W m st tmps l xs v := by
  cases h with
  | tmp ho hx => exact .tmp ho hx
  | cell hb ho hx hg hv => exact .cell hb ho hx hg (by rw [← cell_same (hs _ (List.mem_of_getElem? hg))]; exact hv)

theorem Sim.mlt {B : Base} {W : World} {I : Nat → Nat → Prop} {m : List (Option Nat)} {st : St} {tmps : Array Value} (h : Sim B W I m st tmps) {g : Nat} (hg : some g ∈ m) : g < W.heap.size := by
  obtain ⟨id, hid⟩ := List.mem_iff_getElem?.1 hg
  have hlt : id < st.hp.length := by rw [← h.mlen]; exact (List.getElem?_eq_some_iff.1 hid).1
  obtain ⟨g', hg', hb⟩ := h.blk id _ (List.getElem?_eq_getElem hlt)
  rw [hid] at hg'; cases hg'
  exact hb.heap

theorem Sim.ilt {B : Base} {W : World} {I : Nat → Nat → Prop} {m : List (Option Nat)} {st : St} {tmps : Array Value} (h : Sim B W I m st tmps) {g o : Nat} (hg : I g o) : g < W.heap.size := by
  obtain ⟨v, hv⟩ := h.live g o hg
  exact lt_of_cell hv

theorem Sim.worldX {B : Base} {W W' : World} {I I' : Nat → Nat → Prop} {m : List (Option Nat)} {st : St} {tmps : Array Value} (h : Sim B W I m st tmps) (X : Nat → Prop)
    (hos : W'.os = W.os) (htape : TapeLe W W') (hout : W'.output = W.output) (hsize : W.heap.size ≤ W'.heap.size) (hsame : ∀ g, g < W.heap.size → ¬ X g → W'.heap[g]? = W.heap[g]?)
    (hXm : ∀ g, X g → some g ∉ m) (hXo : ∀ g l xs v, X g → Held W m st tmps l xs v → claimOf v ≠ some g) (hXA : ∀ g, X g → B.A g ∨ B.W.heap.size ≤ g) (hk : KeepI I W W')
    (hI : ∀ g o, I g o → I' g o) (hnew : ∀ g o, I' g o → I g o ∨ W.heap.size ≤ g ∨ X g) (hlive : ∀ g o, I' g o → ∃ v, W'.cell? ⟨g, o, none⟩ = some v)
    (hXd : ∀ g, X g → ∀ x, W.heap[g]? ≠ some (.deferred x) := by intro g h; exact h.elim) : Sim B W' I' m st tmps := by
  have hm : ∀ g, some g ∈ m → W'.heap[g]? = W.heap[g]? := fun g hg => hsame g (h.mlt hg) fun hx => hXm g hx hg
  have hheld : ∀ {l xs v}, Held W' m st tmps l xs v → Held W m st tmps l xs v := fun hh => hh.world hm
  refine ⟨⟨hos.trans h.grow.os, htape.trans h.grow.tape, hout.trans h.grow.output, Nat.le_trans h.grow.size hsize,
      fun g hg ha => (hsame g (Nat.lt_of_lt_of_le hg h.grow.size) fun hx => (hXA g hx).elim ha fun hle => by omega).trans (h.grow.same g hg ha),
      fun g o hi => hI g o (h.grow.sub g o hi), fun g o hi => ?_, h.grow.keep.after hk h.grow.sub, fun g hg => (hsame g (lt_of_heap (h.grow.dfr g hg)) fun hx => hXd g hx _ (h.grow.dfr g hg)).trans (h.grow.dfr g hg), h.grow.dnd⟩, h.pre, hlive, h.len, fun t x hx => (h.fr t x hx).mono hI hk (List.prefix_refl _),
    h.mlen, h.inj, fun id b hb => ?_, h.mA, fun g hg o hi => ?_, fun l xs v hh => ?_, fun l xs v g hh => h.ownA l xs v g (hheld hh), fun l l' xs xs' v v' g hh hh' => h.ownInj l l' xs xs' v v' g (hheld hh) (hheld hh'), fun t o ho => ?_, h.nb⟩
  · rcases hnew g o hi with hi | hi | hi
    · exact h.grow.fresh g o hi
    · exact .inr (.inl (Nat.le_trans h.grow.size hi))
    · exact .inr ((hXA g hi).symm)
  · obtain ⟨x, hx, hb'⟩ := h.blk id b hb
    exact ⟨x, hx, hb'.mono hI hk (MLe.refl _) fun g e => hm g (List.mem_of_getElem? (e ▸ hx))⟩
  · rcases hnew g o hi with hi | hi | hi
    · exact h.notI g hg o hi
    · exact absurd (h.mlt hg) (by omega)
    · exact hXm g hi hg
  · have ho := h.own l xs v (hheld hh)
    refine ho.mono (fun g hg => hsame g (claim_lt ho hg) fun hx => hXo g l xs v hx (hheld hh) hg) fun g o hg hi => ?_
    rcases hnew g o hi with hi | hi | hi
    · exact hi
    · exact absurd (claim_lt ho hg) (by omega)
    · exact absurd hg (hXo g l xs v hi (hheld hh))
  · have := h.al t o ho
    cases o with
    | tmp u => exact this
    | cell id off =>
      intro hlt
      obtain ⟨g, hg, hc⟩ := this hlt
      exact ⟨g, hg, by rw [cell_same (hm g (List.mem_of_getElem? hg))]; exact hc⟩
    | base id off =>
      intro hlt
      obtain ⟨g, a, n, c, p, hg, hc, hp⟩ := this hlt
      exact ⟨g, a, n, c, p, hg, by rw [cell_same (hm g (List.mem_of_getElem? hg))]; exact hc, hp⟩

theorem Sim.world {B : Base} {W W' : World} {I I' : Nat → Nat → Prop} {m : List (Option Nat)} {st : St} {tmps : Array Value} (h : Sim B W I m st tmps)
    (hos : W'.os = W.os) (htape : TapeLe W W') (hout : W'.output = W.output) (hsize : W.heap.size ≤ W'.heap.size) (hsame : ∀ g, g < W.heap.size → W'.heap[g]? = W.heap[g]?)
    (hI : ∀ g o, I g o → I' g o) (hnew : ∀ g o, I' g o → I g o ∨ W.heap.size ≤ g) (hlive : ∀ g o, I' g o → ∃ v, W'.cell? ⟨g, o, none⟩ = some v) : Sim B W' I' m st tmps :=
  h.worldX (fun _ => False) hos htape hout hsize (fun g hg _ => hsame g hg) (fun _ h => h.elim) (fun _ _ _ _ h => h.elim) (fun _ h => h.elim)
    ⟨fun _ _ hi => cell_same (hsame _ (h.ilt hi)), info_old hsame⟩ hI (fun g o hi => (hnew g o hi).imp id .inl) hlive

theorem Sim.drew {B : Base} {W : World} {I : Nat → Nat → Prop} {m : List (Option Nat)} {st : St} {tmps : Array Value} (h : Sim B W I m st tmps) {n : Nat} (hn : W.drawn ≤ n) : Sim B { W with drawn := n } I m st tmps :=
  h.world rfl ⟨rfl, hn⟩ rfl (Nat.le_refl _) (fun _ _ => rfl) (fun _ _ h => h) (fun _ _ h => .inl h) h.live

theorem held_put {W : World} {m : List (Option Nat)} {st : St} {tmps : Array Value} {d : Nat} {x : V} {w : Value} {l : Owner} {xs : List (List V)} {v : Value}
    (h : Held W m (st.put (some d) x) (aput tmps (some d) w) l xs v) : Held W m st tmps l xs v ∧ l ≠ .tmp d := by
  cases h with
  | @tmp t dd xs ho hx =>
    simp only [St.put, List.mem_filter, bne_iff_ne, ne_eq] at ho
    simp only [St.put] at hx
    rw [List.getElem?_set_ne (fun e => ho.2 e.symm)] at hx
    have htl : t < st.fr.length := (List.getElem?_eq_some_iff.1 hx).1
    have e : (aput tmps (some d) w).getD t undef = tmps.getD t undef := by
      simp only [aput, Array.getD_eq_getD_getElem?, Array.getElem?_setIfInBounds]
      rw [if_neg (fun e => ho.2 e.symm)]
    rw [e]
    exact ⟨.tmp ho.1 hx, fun e => ho.2 (by cases e; rfl)⟩
  | cell hb ho hx hg hv => exact ⟨.cell hb ho hx hg hv, by simp⟩

theorem Sim.put {B : Base} {W : World} {I : Nat → Nat → Prop} {m : List (Option Nat)} {st : St} {tmps : Array Value} (h : Sim B W I m st tmps) (d : Option Tmp) {x : V} {w : Value} (hr : Rel W I m x w) :
    Sim B W I m (st.put d x) (aput tmps d w) := by
  cases d with
  | none => exact h
  | some d =>
    refine ⟨h.grow, h.pre, h.live, by simp [aput, St.put, h.len], fun t y hy => ?_, h.mlen, h.inj, h.blk, h.mA, h.notI, fun l xs v hh => h.own l xs v (held_put hh).1,
      fun l xs v g hh => h.ownA l xs v g (held_put hh).1, fun l l' xs xs' v v' g hh hh' => h.ownInj l l' xs xs' v v' g (held_put hh).1 (held_put hh').1, fun t o ho => ?_, h.nb⟩
    · simp only [St.put] at hy
      rw [List.getElem?_set] at hy
      by_cases e : d = t
      · subst e
        rw [if_pos rfl] at hy
        split at hy
        · rename_i hlt
          cases hy
          rw [show (aput tmps (some d) w).getD d undef = w from by simp only [aput]; rw [getD_set (by rw [h.len]; exact hlt), if_pos rfl]]
          exact hr
        · cases hy
      · rw [if_neg e] at hy
        have : (aput tmps (some d) w).getD t undef = tmps.getD t undef := by
          simp only [aput, Array.getD_eq_getD_getElem?, Array.getElem?_setIfInBounds]; rw [if_neg e]
        rw [this]; exact h.fr t y hy
    · simp only [St.put, List.mem_filter, Bool.and_eq_true, bne_iff_ne, ne_eq] at ho
      have key : ∀ u, u ≠ d → (aput tmps (some d) w).getD u undef = tmps.getD u undef := fun u hu => by
        simp only [aput, Array.getD_eq_getD_getElem?, Array.getElem?_setIfInBounds]; rw [if_neg (fun e => hu e.symm)]
      have := h.al t o ho.1
      cases o with
      | tmp u => simp only [AliasOk] at this ⊢; intro hlt; rw [key t ho.2.1, key u (fun e => ho.2.2 (by rw [e]))]; exact this (by simpa [aput] using hlt)
      | cell id off => simp only [AliasOk] at this ⊢; intro hlt; rw [key t ho.2.1]; exact this (by simpa [aput] using hlt)
      | base id off => simp only [AliasOk] at this ⊢; intro hlt; rw [key t ho.2.1]; exact this (by simpa [aput] using hlt)

theorem Sim.less {B : Base} {W : World} {I : Nat → Nat → Prop} {m : List (Option Nat)} {st : St} {tmps : Array Value} (h : Sim B W I m st tmps) (own : List Nat) (al : List (Tmp × Owner))
    (ho : ∀ t, t ∈ own → t ∈ st.own) (ha : ∀ p, p ∈ al → p ∈ st.al) : Sim B W I m { st with own := own, al := al } tmps := by
  have hh : ∀ {l xs v}, Held W m { st with own := own, al := al } tmps l xs v → Held W m st tmps l xs v := fun hh => by
    cases hh with
    | tmp h1 h2 => exact .tmp (ho _ h1) h2
    | cell h1 h2 h3 h4 h5 => exact .cell h1 h2 h3 h4 h5
  exact ⟨h.grow, h.pre, h.live, h.len, h.fr, h.mlen, h.inj, h.blk, h.mA, h.notI, fun l xs v k => h.own l xs v (hh k), fun l xs v g k => h.ownA l xs v g (hh k),
    fun l l' xs xs' v v' g k k' => h.ownInj l l' xs xs' v v' g (hh k) (hh k'), fun t o k => h.al t o (ha _ k), h.nb⟩

theorem Sim.owns {B : Base} {W : World} {I : Nat → Nat → Prop} {m : List (Option Nat)} {st : St} {tmps : Array Value} (h : Sim B W I m st tmps) (d : Nat) {dd : Bool} {xs : List (List V)}
    (hx : d < st.fr.length → st.fr[d]? = some (.sl dd xs)) (hrow : d < st.fr.length → OwnRow W I xs (tmps.getD d undef)) (hA : ∀ g, d < st.fr.length → claimOf (tmps.getD d undef) = some g → (B.A g ∨ B.W.heap.size ≤ g) ∧ some g ∉ m)
    (hinj : ∀ l xs' v' g, Held W m st tmps l xs' v' → claimOf v' = some g → d < st.fr.length → claimOf (tmps.getD d undef) = some g → l = .tmp d) :
    Sim B W I m (st.owns (some d) true) tmps := by
  have hh : ∀ {l xs' v}, Held W m (st.owns (some d) true) tmps l xs' v → Held W m st tmps l xs' v ∨ (l = .tmp d ∧ d < st.fr.length ∧ xs' = xs ∧ v = tmps.getD d undef) := fun hh => by
    cases hh with
    | @tmp t d' xs' h1 h2 =>
      simp only [St.owns, if_true, List.mem_cons] at h1 h2
      rcases h1 with rfl | h1
      · have hlt : t < st.fr.length := (List.getElem?_eq_some_iff.1 h2).1
        have := hx hlt; rw [h2] at this; cases this
        exact .inr ⟨rfl, hlt, rfl, rfl⟩
      · exact .inl (.tmp h1 h2)
    | cell h1 h2 h3 h4 h5 => exact .inl (.cell h1 h2 h3 h4 h5)
  refine ⟨h.grow, h.pre, h.live, h.len, h.fr, h.mlen, h.inj, h.blk, h.mA, h.notI, fun l xs' v k => ?_, fun l xs' v g k hc => ?_, fun l l' xs1 xs2 v v' g k k' hc hc' => ?_, h.al, by simpa [St.owns] using h.nb⟩
  · rcases hh k with k | ⟨rfl, hlt, rfl, rfl⟩
    · exact h.own l _ v k
    · exact hrow hlt
  · rcases hh k with k | ⟨rfl, hlt, rfl, rfl⟩
    · exact h.ownA l _ v g k hc
    · exact hA g hlt hc
  · rcases hh k with k | ⟨rfl, hlt, rfl, rfl⟩ <;> rcases hh k' with k' | ⟨rfl, hlt', rfl, rfl⟩
    · exact h.ownInj l l' _ _ v v' g k k' hc hc'
    · exact hinj l _ v g k hc hlt' hc'
    · exact (hinj l' _ v' g k' hc' hlt hc).symm
    · rfl

theorem Sim.lay {B : Base} {W : World} {I : Nat → Nat → Prop} {m m' : List (Option Nat)} {st : St} {hp' : List Blk} {tmps : Array Value} (h : Sim B W I m st tmps) (id : Nat) (ow : List Nat) (cs : List V) (arr : Array Value) (t : TypeId)
    (hs : cs.length ≤ arr.size ∧ (BT.solo t → arr.size = cs.length)) (h1 : ∀ (j : Nat) (x : V), cs[j]? = some x → (arr.getD j undef).oneCell' = true) (hr : ∀ (j : Nat) (x : V), cs[j]? = some x → Rel W I m x (arr.getD j undef))
    (hz : ∀ (j : Nat) (d : Bool) (xs : List (List V)), j ∈ ow → cs[j]? = some (.sl d xs) → ∃ a, arr.getD j undef = .slice a xs.length 0)
    (hpre : B.m <+: m') (hlen : m'.length = hp'.length) (hm : ∀ j : Nat, m'[j]? = if j = id then some (some W.heap.size) else m[j]?) (hhp : ∀ j : Nat, hp'[j]? = if j = id then some (.cells t ow cs) else st.hp[j]?)
    (hfree : ∀ g, m[id]? ≠ some (some g)) :
    Sim B (W.alloc (.cells arr t)) I m' { st with hp := hp' } tmps := by
  have hnew : (W.alloc (.cells arr t)).heap[W.heap.size]? = some (.cells arr t (0, 0)) := heap_alloc_new W _
  have hold : ∀ g, g < W.heap.size → (W.alloc (.cells arr t)).heap[g]? = W.heap[g]? := fun g hg => by
    simp only [World.alloc, Array.getElem?_push]; rw [if_neg (by omega)]
  have hb : Sim B (W.alloc (.cells arr t)) I m st tmps := h.world rfl ⟨rfl, Nat.le_refl _⟩ rfl (by simp) hold (fun _ _ h => h) (fun _ _ h => .inl h) fun g o hi => by
    obtain ⟨v, hv⟩ := h.live g o hi
    exact ⟨v, (cell_same (hold g (lt_of_cell hv))).trans hv⟩
  have hk : KeepI I W (W.alloc (.cells arr t)) := ⟨fun g o hi => cell_same (hold g (h.ilt hi)), info_old hold⟩
  have hle : MLe m m' := fun j g hg => by
    rw [hm j]
    split
    · rename_i e; subst e; exact absurd hg (hfree g)
    · exact hg
  have hnm : some W.heap.size ∉ m := fun hg => absurd (h.mlt hg) (by omega)
  have hmem : ∀ {g}, some g ∈ m' → some g ∈ m ∨ g = W.heap.size := fun {g} hg => by
    obtain ⟨j, hj⟩ := List.mem_iff_getElem?.1 hg
    rw [hm j] at hj
    split at hj
    · cases hj; exact .inr rfl
    · exact .inl (List.mem_of_getElem? hj)
  have hheld : ∀ {l xs v}, Held (W.alloc (.cells arr t)) m' { st with hp := hp' } tmps l xs v →
      Held (W.alloc (.cells arr t)) m st tmps l xs v ∨ ∃ a, v = .slice a xs.length 0 := fun hh => by
    cases hh with
    | tmp h1 h2 => exact .inl (.tmp h1 h2)
    | @cell j off ow' cs' d xs g v t' hbk ho hx hg hv =>
      simp only [hhp j] at hbk
      rw [hm j] at hg
      split at hbk
      · rename_i e
        rw [if_pos e] at hg
        cases hg
        cases hbk
        obtain ⟨a, ha⟩ := hz off d _ ho hx
        rw [cell_of_blk hnew] at hv
        rw [Array.getD_eq_getD_getElem?, hv] at ha
        exact .inr ⟨a, by simpa using ha⟩
      · rename_i e
        rw [if_neg e] at hg
        exact .inl (.cell hbk ho hx hg hv)
  have hz0 : ∀ {a : Option Addr} {n : Nat}, claimOf (.slice a n 0) = none := fun {a n} => by cases a <;> rfl
  refine ⟨hb.grow, hpre, hb.live, hb.len, fun t x hx => (hb.fr t x hx).mono_le (fun _ _ h => h) (KeepI.refl _ _) hle, hlen, fun i j g hi hj => ?_, fun j b hbk => ?_, fun g hg => ?_,
    fun g hg o hi => ?_, fun l xs v hh => ?_, fun l xs v g hh hc => ?_, fun l l' xs xs' v v' g hh hh' hc hc' => ?_, fun t o ho => ?_, h.nb⟩
  · rw [hm i] at hi
    rw [hm j] at hj
    split at hi <;> split at hj
    · rename_i e1 e2; rw [e1, e2]
    · cases hi; exact absurd (List.mem_of_getElem? hj) hnm
    · cases hj; exact absurd (List.mem_of_getElem? hi) hnm
    · exact h.inj i j g hi hj
  · simp only [hhp j] at hbk
    split at hbk
    · rename_i e
      cases hbk
      exact ⟨some W.heap.size, by rw [hm j, if_pos e], .cells hnew hs h1 fun j x hx => (hr j x hx).mono_le (fun _ _ h => h) hk hle⟩
    · rename_i e
      obtain ⟨x, hx, hb'⟩ := hb.blk j b hbk
      exact ⟨x, by rw [hm j, if_neg e]; exact hx, hb'.mono (fun _ _ h => h) (KeepI.refl _ _) hle fun _ _ => rfl⟩
  · rcases hmem hg with hg | rfl
    · exact h.mA g hg
    · exact .inr h.grow.size
  · rcases hmem hg with hg | rfl
    · exact h.notI g hg o hi
    · exact absurd (h.ilt hi) (by omega)
  · rcases hheld hh with hh | ⟨a, ha⟩
    · exact hb.own l xs v hh
    · exact .inl ⟨a, ha⟩
  · rcases hheld hh with hh | ⟨a, ha⟩
    · obtain ⟨k1, k2⟩ := hb.ownA l xs v g hh hc
      refine ⟨k1, fun hg => ?_⟩
      rcases hmem hg with hg | rfl
      · exact k2 hg
      · cases hh with
        | tmp q1 q2 => exact absurd (claim_lt (h.own _ _ _ (.tmp q1 q2)) hc) (by omega)
        | @cell id off ow' cs' d xs g2 v t2 q1 q2 q3 q4 q5 =>
          have q5' : W.cell? ⟨g2, off, none⟩ = some v := by
            rw [← q5]; exact (cell_same (hold g2 (h.mlt (List.mem_of_getElem? q4)))).symm
          exact absurd (claim_lt (h.own _ _ _ (.cell q1 q2 q3 q4 q5')) hc) (by omega)
    · subst ha; rw [hz0] at hc; cases hc
  · rcases hheld hh with hh | ⟨a, ha⟩
    · rcases hheld hh' with hh' | ⟨a, ha⟩
      · exact hb.ownInj l l' xs xs' v v' g hh hh' hc hc'
      · subst ha; rw [hz0] at hc'; cases hc'
    · subst ha; rw [hz0] at hc; cases hc
  · have := hb.al t o ho
    cases o with
    | tmp u => exact this
    | cell id off =>
      intro hlt
      obtain ⟨g, hg, hc⟩ := this hlt
      exact ⟨g, hle _ _ hg, hc⟩
    | base id off =>
      intro hlt
      obtain ⟨g, a, n, c, p, hg, hc⟩ := this hlt
      exact ⟨g, a, n, c, p, hle _ _ hg, hc⟩

theorem Sim.push {B : Base} {W : World} {I : Nat → Nat → Prop} {m : List (Option Nat)} {st : St} {tmps : Array Value} (h : Sim B W I m st tmps) (ow : List Nat) (cs : List V) (arr : Array Value) (t : TypeId)
    (hs : cs.length ≤ arr.size ∧ (BT.solo t → arr.size = cs.length)) (h1 : ∀ (j : Nat) (x : V), cs[j]? = some x → (arr.getD j undef).oneCell' = true) (hr : ∀ (j : Nat) (x : V), cs[j]? = some x → Rel W I m x (arr.getD j undef))
    (hz : ∀ (j : Nat) (d : Bool) (xs : List (List V)), j ∈ ow → cs[j]? = some (.sl d xs) → ∃ a, arr.getD j undef = .slice a xs.length 0) :
    Sim B (W.alloc (.cells arr t)) I (m ++ [some W.heap.size]) { st with hp := st.hp ++ [.cells t ow cs] } tmps := by
  refine h.lay st.hp.length ow cs arr t hs h1 hr hz (List.IsPrefix.trans h.pre (List.prefix_append _ _)) (by simp [h.mlen]) (fun j => ?_) (fun j => ?_) fun g hg => ?_
  · rw [← h.mlen, List.getElem?_append]
    by_cases e : j < m.length
    · rw [if_pos e, if_neg (by omega)]
    · rw [if_neg e]
      by_cases e2 : j = m.length
      · subst e2; simp
      · rw [if_neg e2, List.getElem?_eq_none (by simp; omega), List.getElem?_eq_none (by omega)]
  · rw [List.getElem?_append]
    by_cases e : j < st.hp.length
    · rw [if_pos e, if_neg (by omega)]
    · rw [if_neg e]
      by_cases e2 : j = st.hp.length
      · subst e2; simp
      · rw [if_neg e2, List.getElem?_eq_none (by simp; omega), List.getElem?_eq_none (by omega)]
  · rw [← h.mlen, List.getElem?_eq_none (Nat.le_refl _)] at hg; cases hg

theorem Sim.holes {B : Base} {W : World} {I : Nat → Nat → Prop} {m : List (Option Nat)} {st : St} {tmps : Array Value} (h : Sim B W I m st tmps) (bs : List Blk) :
    Sim B W I (m ++ List.replicate bs.length none) { st with hp := st.hp ++ bs } tmps := by
  generalize hk : bs.length = k
  have hle : MLe m (m ++ List.replicate k none) := MLe.pre (List.prefix_append _ _)
  have hback : ∀ {j g : Nat}, (m ++ List.replicate k none)[j]? = some (some g) → m[j]? = some (some g) := fun {j g} hj => by
    rw [List.getElem?_append] at hj
    split at hj
    · exact hj
    · rw [List.getElem?_replicate] at hj
      split at hj <;> cases hj
  have hmem : ∀ {g}, some g ∈ (m ++ List.replicate k none) → some g ∈ m := fun {g} hg => by
    obtain ⟨j, hj⟩ := List.mem_iff_getElem?.1 hg
    exact List.mem_of_getElem? (hback hj)
  have hbk : ∀ {j : Nat} {b : Blk}, (st.hp ++ bs)[j]? = some b → st.hp[j]? = some b ∨ (st.hp.length ≤ j ∧ j < st.hp.length + k) := fun {j b} hj => by
    have hlt := (List.getElem?_eq_some_iff.1 hj).1
    rw [List.length_append] at hlt
    rw [List.getElem?_append] at hj
    split at hj
    · exact .inl hj
    · exact .inr ⟨by omega, by omega⟩
  have hheld : ∀ {l xs v}, Held W (m ++ List.replicate k none) { st with hp := st.hp ++ bs } tmps l xs v → Held W m st tmps l xs v := fun hh => by
    cases hh with
    | tmp h1 h2 => exact .tmp h1 h2
    | cell h1 h2 h3 h4 h5 =>
      rcases hbk h1 with h1 | ⟨e, _⟩
      · exact .cell h1 h2 h3 (hback h4) h5
      · have := (List.getElem?_eq_some_iff.1 (hback h4)).1; rw [h.mlen] at this; omega
  refine ⟨h.grow, List.IsPrefix.trans h.pre (List.prefix_append _ _), h.live, h.len, fun t x hx => (h.fr t x hx).mono_le (fun _ _ h => h) (KeepI.refl _ _) hle, by simp [h.mlen, hk], fun i j g hi hj => h.inj i j g (hback hi) (hback hj), fun j b hj => ?_,
    fun g hg => h.mA g (hmem hg), fun g hg => h.notI g (hmem hg), fun l xs v k => h.own l xs v (hheld k), fun l xs v g k hc => ⟨(h.ownA l xs v g (hheld k) hc).1, fun hg => (h.ownA l xs v g (hheld k) hc).2 (hmem hg)⟩,
    fun l l' xs xs' v v' g k k' => h.ownInj l l' xs xs' v v' g (hheld k) (hheld k'), fun t o ho => ?_, h.nb⟩
  · rcases hbk hj with hj | ⟨h1, h2⟩
    · obtain ⟨x, hx, hb'⟩ := h.blk j b hj
      exact ⟨x, pre_get (List.prefix_append _ _) hx, hb'.mono (fun _ _ h => h) (KeepI.refl _ _) hle fun _ _ => rfl⟩
    · refine ⟨none, ?_, .ahead⟩
      rw [← h.mlen] at h1 h2
      rw [List.getElem?_append_right h1, List.getElem?_replicate, if_pos (by omega)]
  · have := h.al t o ho
    cases o with
    | tmp u => exact this
    | cell id off =>
      intro hlt
      obtain ⟨g, hg, hc⟩ := this hlt
      exact ⟨g, hle _ _ hg, hc⟩
    | base id off =>
      intro hlt
      obtain ⟨g, a, n, c, p, hg, hc⟩ := this hlt
      exact ⟨g, a, n, c, p, hle _ _ hg, hc⟩

end Go.Abs
/-! The state's further steps: owners given up, what is forgotten, a store, entering a call and coming back. -/
namespace Go.Abs
variable [BT] {B : Base} {W : World} {I : Nat → Nat → Prop} {m : List (Option Nat)} {st : St} {tmps : Array Value}

theorem Sim.dropOwn (h : Sim B W I m st tmps) (o : Owner) :
    Sim B W I m (dropOwn st o) tmps ∧ ∀ l xs v, Held W m (dropOwn st o) tmps l xs v → Held W m st tmps l xs v ∧ l ≠ o := by
  cases o with
  | tmp t =>
    refine ⟨h.less _ st.al (fun u hu => (List.mem_filter.1 hu).1) fun _ h => h, fun l xs v hh => ?_⟩
    cases hh with
    | tmp h1 h2 =>
      simp only [Abs.dropOwn, List.mem_filter, bne_iff_ne, ne_eq] at h1
      exact ⟨.tmp h1.1 h2, fun e => h1.2 (by cases e; rfl)⟩
    | cell h1 h2 h3 h4 h5 => exact ⟨.cell h1 h2 h3 h4 h5, by simp⟩
  | cell id off =>
    simp only [Abs.dropOwn]
    split
    · rename_i ty ow cs hb
      have hlt : id < st.hp.length := (List.getElem?_eq_some_iff.1 hb).1
      have hget : ∀ (j : Nat) (b : Blk), (st.hp.set id (.cells ty (ow.filter (· != off)) cs))[j]? = some b → (j = id ∧ b = .cells ty (ow.filter (· != off)) cs) ∨ (j ≠ id ∧ st.hp[j]? = some b) := fun j b hj => by
        rw [List.getElem?_set] at hj
        by_cases e : id = j
        · subst e; rw [if_pos rfl, if_pos hlt] at hj; exact .inl ⟨rfl, by simpa using hj.symm⟩
        · rw [if_neg e] at hj; exact .inr ⟨fun e' => e e'.symm, hj⟩
      have hh : ∀ {l xs v}, Held W m { st with hp := st.hp.set id (.cells ty (ow.filter (· != off)) cs) } tmps l xs v → Held W m st tmps l xs v ∧ l ≠ .cell id off := fun hh => by
        cases hh with
        | tmp h1 h2 => exact ⟨.tmp h1 h2, by simp⟩
        | cell h1 h2 h3 h4 h5 =>
          rcases hget _ _ h1 with ⟨rfl, e⟩ | ⟨hne, hb'⟩
          · cases e
            simp only [List.mem_filter, bne_iff_ne, ne_eq] at h2
            exact ⟨.cell hb h2.1 h3 h4 h5, fun e => h2.2 (by cases e; rfl)⟩
          · exact ⟨.cell hb' h2 h3 h4 h5, fun e => hne (by cases e; rfl)⟩
      refine ⟨⟨h.grow, h.pre, h.live, h.len, h.fr, by simp [h.mlen], h.inj, fun j b hj => ?_, h.mA, h.notI, fun l xs v k => h.own l xs v (hh k).1, fun l xs v g k => h.ownA l xs v g (hh k).1,
        fun l l' xs xs' v v' g k k' => h.ownInj l l' xs xs' v v' g (hh k).1 (hh k').1, h.al, h.nb⟩, fun l xs v k => hh k⟩
      · rcases hget j b hj with ⟨rfl, rfl⟩ | ⟨_, hj⟩
        · obtain ⟨g, hg, hb'⟩ := h.blk _ _ hb
          cases hb' with
          | cells q1 q2 q3 q4 => exact ⟨_, hg, .cells q1 q2 q3 q4⟩
          | ahead => exact ⟨_, hg, .ahead⟩
        · exact h.blk j b hj
    · rename_i hne
      refine ⟨h, fun l xs v hh => ⟨hh, ?_⟩⟩
      cases hh with
      | tmp h1 h2 => simp
      | cell h1 h2 h3 h4 h5 => exact fun e => by cases e; exact hne _ _ _ h1
  | base id off =>
    refine ⟨h, fun l xs v hh => ⟨hh, ?_⟩⟩
    cases hh <;> simp

theorem Sim.aliasIn (h : Sim B W I m st tmps) (d : Option Tmp) (o : Option Owner) (ha : ∀ t o', d = some t → o = some o' → AliasOk W m tmps t o') : Sim B W I m (st.alias d o) tmps := by
  unfold St.alias
  split
  · rename_i d o
    refine ⟨h.grow, h.pre, h.live, h.len, h.fr, h.mlen, h.inj, h.blk, h.mA, h.notI, fun l xs v k => h.own l xs v ?_, fun l xs v g k => h.ownA l xs v g ?_,
      fun l l' xs xs' v v' g k k' => h.ownInj l l' xs xs' v v' g ?_ ?_, fun t o' k => ?_, h.nb⟩
    rotate_right 1
    · rcases List.mem_cons.1 k with k | k
      · cases k; exact ha _ _ rfl rfl
      · exact h.al t o' k
    all_goals first | (cases k with | tmp h1 h2 => exact .tmp h1 h2 | cell h1 h2 h3 h4 h5 => exact .cell h1 h2 h3 h4 h5) | (cases k' with | tmp h1 h2 => exact .tmp h1 h2 | cell h1 h2 h3 h4 h5 => exact .cell h1 h2 h3 h4 h5)
  · exact h

theorem Sim.forget (h : Sim B W I m st tmps) (fr : List V) (own : List Nat) (hl : fr.length = st.fr.length) (hf : ∀ (t : Nat) (x : V), fr[t]? = some x → x = .any ∨ st.fr[t]? = some x) (ho : ∀ t, t ∈ own → t ∈ st.own) :
    Sim B W I m { st with fr := fr, own := own, al := [] } tmps := by
  have hh : ∀ {l xs v}, Held W m { st with fr := fr, own := own, al := [] } tmps l xs v → Held W m st tmps l xs v := fun hh => by
    cases hh with
    | @tmp t _ _ h1 h2 =>
      rcases hf t _ h2 with e | e
      · cases e
      · exact .tmp (ho _ h1) e
    | cell h1 h2 h3 h4 h5 => exact .cell h1 h2 h3 h4 h5
  exact ⟨h.grow, h.pre, h.live, by rw [h.len]; exact hl.symm, fun t x hx => (hf t x hx).elim (fun e => e ▸ .any) (h.fr t x), h.mlen, h.inj, h.blk, h.mA, h.notI, fun l xs v k => h.own l xs v (hh k), fun l xs v g k => h.ownA l xs v g (hh k),
    fun l l' xs xs' v v' g k k' => h.ownInj l l' xs xs' v v' g (hh k) (hh k'), fun t o k => (by cases k), h.nb⟩

theorem killAll_length (l : List Nat) : ∀ fr : List V, (killAll fr l).length = fr.length := by
  induction l with
  | nil => exact fun _ => rfl
  | cons t r ih => exact fun fr => by simp [killAll, ih]
theorem killAll_get (l : List Nat) : ∀ (fr : List V) (t : Nat) (x : V), (killAll fr l)[t]? = some x → x = .any ∨ fr[t]? = some x := by
  induction l with
  | nil => exact fun _ _ _ h => .inr h
  | cons u r ih =>
    intro fr t x h
    rcases ih _ t x h with h | h
    · exact .inl h
    · rw [List.getElem?_set] at h
      split at h
      · split at h
        · cases h; exact .inl rfl
        · cases h
      · exact .inr h

theorem Sim.kill (h : Sim B W I m st tmps) (l : List Nat) : Sim B W I m (st.kill l) tmps :=
  h.forget _ _ (killAll_length l _) (killAll_get l _) fun _ ht => (List.mem_filter.1 ht).1

theorem Sim.noAl (h : Sim B W I m st tmps) : Sim B W I m { st with al := [] } tmps := h.less st.own [] (fun _ h => h) (fun _ h => by cases h)

theorem Sim.setBlk (h : Sim B W I m st tmps) {W' : World} {id g off0 : Nat} {ow ow' : List Nat} {cs cs' : List V} {arr arr' : Array Value} {t : TypeId} {own' : List Nat}
    (hb : st.hp[id]? = some (.cells t ow cs)) (hg : m[id]? = some (some g)) (hw : W.heap[g]? = some (.cells arr t (0, 0)))
    (hw' : W'.heap[g]? = some (.cells arr' t (0, 0))) (hsa : arr'.size = arr.size) (hother : ∀ g', g' ≠ g → W'.heap[g']? = W.heap[g']?) (hsize : W'.heap.size = W.heap.size) (hos : W'.os = W.os) (htape : TapeLe W W') (hout : W'.output = W.output)
    (hs : cs'.length ≤ arr'.size ∧ (BT.solo t → arr'.size = cs'.length)) (h1 : ∀ (j : Nat) (x : V), cs'[j]? = some x → (arr'.getD j undef).oneCell' = true) (hr : ∀ (j : Nat) (x : V), cs'[j]? = some x → Rel W I m x (arr'.getD j undef))
    (hown : ∀ t, t ∈ own' → t ∈ st.own)
    (hheld : ∀ (off : Nat) (d : Bool) (xs : List (List V)), off ∈ ow' → cs'[off]? = some (.sl d xs) →
      (∃ a, arr'.getD off undef = .slice a xs.length 0) ∨ (∃ dd, off ∈ ow ∧ off ≠ off0 ∧ cs[off]? = some (.sl dd xs) ∧ arr.getD off undef = arr'.getD off undef) ∨
      (off = off0 ∧ ∃ u dd, u ∈ st.own ∧ u ∉ own' ∧ st.fr[u]? = some (.sl dd xs) ∧ tmps.getD u undef = arr'.getD off undef)) :
    Sim B W' I m { st with own := own', hp := st.hp.set id (.cells t ow' cs'), al := [] } tmps := by
  have hgm : some g ∈ m := List.mem_of_getElem? hg
  have hk : KeepI I W W' := ⟨fun g' o hi => cell_same (hother g' fun e => h.notI g hgm o (e ▸ hi)), info_but hother fun p hp => by simpa [rowInfo, hw, hw', hsa] using hp⟩
  have hlt : id < st.hp.length := (List.getElem?_eq_some_iff.1 hb).1
  have hget : ∀ (j : Nat) (b : Blk), (st.hp.set id (.cells t ow' cs'))[j]? = some b → (j = id ∧ b = .cells t ow' cs') ∨ (j ≠ id ∧ st.hp[j]? = some b) := fun j b hj => by
    rw [List.getElem?_set] at hj
    by_cases e : id = j
    · subst e; rw [if_pos rfl, if_pos hlt] at hj; exact .inl ⟨rfl, by simpa using hj.symm⟩
    · rw [if_neg e] at hj; exact .inr ⟨fun e' => e e'.symm, hj⟩
  have hmne : ∀ {j g'}, j ≠ id → m[j]? = some (some g') → g' ≠ g := fun {j g'} hne hj e => by
    subst e
    exact hne (h.inj _ _ _ hj hg)
  -- where what is held came from
  have horig : ∀ {l xs v}, Held W' m { st with own := own', hp := st.hp.set id (.cells t ow' cs'), al := [] } tmps l xs v →
      (∃ a, v = .slice a xs.length 0) ∨ ∃ l0, Held W m st tmps l0 xs v ∧ ((l = l0 ∧ (∀ u, l0 = .tmp u → u ∈ own') ∧ l0 ≠ .cell id off0) ∨ (l = .cell id off0 ∧ ∃ u, l0 = .tmp u ∧ u ∉ own')) := fun {l xs v} hh => by
    cases hh with
    | tmp h1 h2 => exact .inr ⟨_, .tmp (hown _ h1) h2, .inl ⟨rfl, fun u e => (by cases e; exact h1), by simp⟩⟩
    | @cell j off ow2 cs2 d _ g' _ t2 q1 q2 q3 q4 q5 =>
      rcases hget _ _ q1 with ⟨rfl, e⟩ | ⟨hne, hb'⟩
      · cases e
        rw [hg] at q4; cases q4
        have hv : arr'.getD off undef = v := by rw [cell_of_blk hw'] at q5; rw [Array.getD_eq_getD_getElem?, q5]; rfl
        rcases hheld off d _ q2 q3 with ⟨a, ha⟩ | ⟨dd, p1, p2, p3, p4⟩ | ⟨rfl, u, dd, p1, p2, p3, p4⟩
        · exact .inl ⟨a, hv ▸ ha⟩
        · refine .inr ⟨.cell j off, .cell hb p1 p3 hg ?_, .inl ⟨rfl, fun u e => (by cases e), fun e => p2 (by cases e; rfl)⟩⟩
          rw [cell_of_blk hw, ← hv, ← p4]
          have hlt' : off < arr.size := by
            obtain ⟨g2, hg2, hb2⟩ := h.blk j _ hb
            rw [hg] at hg2; cases hg2
            cases hb2 with
            | cells k1 k2 k3 k4 =>
              rw [hw] at k1; cases k1
              exact Nat.lt_of_lt_of_le (List.getElem?_eq_some_iff.1 p3).1 k2.1
          simp [Array.getD_eq_getD_getElem?, Array.getElem?_eq_getElem hlt']
        · refine .inr ⟨.tmp u, ?_, .inr ⟨rfl, u, rfl, p2⟩⟩
          rw [← hv, ← p4]
          exact .tmp p1 p3
      · exact .inr ⟨_, .cell hb' q2 q3 q4 ((cell_same (hother g' (hmne hne q4))).symm.trans q5), .inl ⟨rfl, fun u e => (by cases e), fun e => hne (by cases e; rfl)⟩⟩
  have hz0 : ∀ {a : Option Addr} {n : Nat}, claimOf (.slice a n 0) = none := fun {a n} => by cases a <;> rfl
  refine ⟨⟨hos.trans h.grow.os, htape.trans h.grow.tape, hout.trans h.grow.output, by rw [hsize]; exact h.grow.size, fun g' hg' ha => (hother g' fun e => ?_).trans (h.grow.same g' hg' ha), h.grow.sub, h.grow.fresh,
      h.grow.keep.after hk h.grow.sub, fun g' hg' => (hother g' fun e => ?_).trans (h.grow.dfr g' hg'), h.grow.dnd⟩, h.pre, fun g' o hi => ?_, h.len, fun t x hx => (h.fr t x hx).mono (fun _ _ h => h) hk (List.prefix_refl _), by simp [h.mlen], h.inj, fun j b hj => ?_, h.mA, h.notI,
    fun l xs v hh => ?_, fun l xs v g' hh hc => ?_, fun l l' xs xs' v v' g' hh hh' hc hc' => ?_, fun t o k => (by cases k), h.nb⟩
  · subst e
    rcases h.mA _ hgm with k | k
    · exact ha k
    · omega
  · subst e
    have := h.grow.dfr _ hg'
    rw [hw] at this; cases this
  · obtain ⟨v, hv⟩ := h.live g' o hi
    exact ⟨v, (hk.cell g' o hi).trans hv⟩
  · rcases hget j b hj with ⟨rfl, rfl⟩ | ⟨hne, hj⟩
    · exact ⟨_, hg, .cells hw' hs h1 fun i x hx => (hr i x hx).mono (fun _ _ h => h) hk (List.prefix_refl _)⟩
    · obtain ⟨x, hx, hb'⟩ := h.blk j b hj
      exact ⟨x, hx, hb'.mono (fun _ _ h => h) hk (MLe.refl _) fun g' e => hother g' (hmne hne (e ▸ hx))⟩
  · rcases horig hh with ⟨a, ha⟩ | ⟨l0, hh0, _⟩
    · exact .inl ⟨a, ha⟩
    · have ho := h.own l0 xs v hh0
      refine ho.mono (fun g' hc => hother g' fun e => ?_) fun _ _ _ h => h
      subst e
      exact (h.ownA l0 xs v _ hh0 hc).2 hgm
  · rcases horig hh with ⟨a, ha⟩ | ⟨l0, hh0, _⟩
    · subst ha; rw [hz0] at hc; cases hc
    · exact h.ownA l0 xs v g' hh0 hc
  · rcases horig hh with ⟨a, ha⟩ | ⟨l0, hh0, p⟩
    · subst ha; rw [hz0] at hc; cases hc
    · rcases horig hh' with ⟨a, ha⟩ | ⟨l0', hh0', p'⟩
      · subst ha; rw [hz0] at hc'; cases hc'
      · have e := h.ownInj l0 l0' xs xs' v v' g' hh0 hh0' hc hc'
        subst e
        rcases p with ⟨rfl, p1, p2⟩ | ⟨rfl, u, rfl, p1⟩ <;> rcases p' with ⟨rfl, q1, q2⟩ | ⟨rfl, u', e, q1⟩
        · rfl
        · exact absurd (p1 u' e) q1
        · exact absurd (q1 u rfl) p1
        · rfl

theorem Sim.memD (h : Sim B W I m st tmps) {g : Nat} (hg : some g ∈ m) {x : Option (List Deferred)} : W.heap[g]? ≠ some (.deferred x) := by
  obtain ⟨id, hid⟩ := List.mem_iff_getElem?.1 hg
  have hlt : id < st.hp.length := by rw [← h.mlen]; exact (List.getElem?_eq_some_iff.1 hid).1
  obtain ⟨g', hg', hb⟩ := h.blk id _ (List.getElem?_eq_getElem hlt)
  rw [hid] at hg'; cases hg'
  exact hb.notD

theorem OwnRow.notD {xs : List (List V)} {v : Value} (h : OwnRow W I xs v) {g : Nat} (hc : claimOf v = some g) {x : Option (List Deferred)} : W.heap[g]? ≠ some (.deferred x) := by
  intro hd
  rcases h with ⟨a, rfl⟩ | ⟨g1, c, arr, e, sz, fz, rfl, _, _, hh, _⟩
  · cases a <;> simp [claimOf] at hc
  · simp only [claimOf, Option.some.injEq] at hc
    subst hc
    rw [hh] at hd; cases hd

theorem Sim.heldD (h : Sim B W I m st tmps) {l : Owner} {xs : List (List V)} {v : Value} (hh : Held W m st tmps l xs v) {g : Nat} (hc : claimOf v = some g) {x : Option (List Deferred)} : W.heap[g]? ≠ some (.deferred x) :=
  (h.own _ _ _ hh).notD hc

def Alike (xs ys : List (List V)) : Prop := ys.length = xs.length ∧ (∀ (i : Nat) (row : List V), ys[i]? = some row → ∃ row0 : List V, xs[i]? = some row0 ∧ row.length = row0.length) ∧ (headByte ys = true → headByte xs = true)

theorem Alike.refl (xs : List (List V)) : Alike xs xs := ⟨rfl, fun i row h => ⟨row, h, rfl⟩, id⟩
theorem Alike.ren {f : Nat → Nat} (d : Bool) (xs : List (List V)) : Alike xs (if d then xs else V.renll f xs) := by
  cases d with
  | true => exact .refl _
  | false =>
    refine ⟨by simp, fun i row hi => ?_, fun h => ?_⟩
    · obtain ⟨y, hy, rfl⟩ := renll_get (by simpa using hi)
      exact ⟨y, hy, by simp⟩
    · rcases xs with _ | ⟨r, xs⟩
      · simp [V.renll, headByte] at h
      · rcases r with _ | ⟨v, _ | ⟨v2, r⟩⟩
        · simp [V.renll, V.renl, headByte] at h
        · cases v <;> simp [V.renll, V.renl, V.ren, headByte] at h ⊢
          rename_i k n
          cases k <;> simp [headByte] at h ⊢
        · simp [V.renll, V.renl, headByte] at h

theorem OwnRow.alike {xs ys : List (List V)} {v : Value} (h : OwnRow W I xs v) (e : Alike xs ys) : OwnRow W I ys v := by
  obtain ⟨e1, e2, e3⟩ := e
  rcases h with ⟨a, rfl⟩ | ⟨g, c, arr, t, sz, fz, rfl, h1, h2, h3, h4, h5, h6, h7, h8⟩
  · exact .inl ⟨a, by rw [e1]⟩
  · refine .inr ⟨g, c, arr, t, sz, fz, by rw [e1], fun h => h1 (List.eq_nil_of_length_eq_zero (by rw [← e1, h]; rfl)), fun row hrow => ?_, h3, by rw [e1]; exact h4, h5, by rw [e1]; exact h6, fun o ho => h7 o (by rw [← e1]; exact ho), fun hb => h8 (e3 hb)⟩
    obtain ⟨i, hi⟩ := List.mem_iff_getElem?.1 hrow
    obtain ⟨r0, p1, p2⟩ := e2 i row hi
    rw [p2]
    exact h2 r0 (List.mem_of_getElem? p1)

theorem V.lt_ren {f : Nat → Nat} {v : V} (h : V.lt 0 v = true) : V.lt 0 (v.ren f) = true := by
  rw [ren_pure0 v h]; exact h

theorem Rel.ren_all {m' : List (Option Nat)} {f : Nat → Nat} {v : V} {w : Value} (h : Rel W I m v w) (hf : ∀ (id g : Nat), m[id]? = some (some g) → m'[f id]? = some (some g)) : Rel W I m' (v.ren f) w :=
  h.ren (p := fun _ => true) (fun id g _ hg => hf id g hg) (h.all fun _ _ _ => rfl)

theorem BlkOk.ren {p : Nat → Bool} {f : Nat → Nat} {m' : List (Option Nat)} {b : Blk} {x : Option Nat} (h : BlkOk W I m b x) (hf : ∀ (id g : Nat), p id = true → m[id]? = some (some g) → m'[f id]? = some (some g)) (hp : b.all p = true) : BlkOk W I m' (b.ren f) x := by
  cases h with
  | cells h hs h1 hr =>
    simp only [Blk.all] at hp
    refine .cells h (by simpa using hs) (fun j x hx => ?_) fun j x hx => ?_
    · obtain ⟨y, hy, rfl⟩ := renl_get hx; exact h1 j y hy
    · obtain ⟨y, hy, rfl⟩ := renl_get hx; exact (hr j y hy).ren hf (alll_get hp hy)
  | loop h e1 e2 e4 e5 e6 hs hr hg =>
    simp only [Blk.all] at hp
    refine .loop h e1 e2 e4 e5 e6 (by simpa using hs) (fun j x hx => ?_) hg
    obtain ⟨y, hy, rfl⟩ := renl_get hx; exact (hr j y hy).ren hf (alll_get hp hy)
  | map h hs hr =>
    simp only [Blk.all, List.all_eq_true, Bool.and_eq_true] at hp
    refine .map h (by simpa using hs) fun j k vs e h1 h2 => ?_
    simp only [List.getElem?_map, Option.map_eq_some_iff] at h1
    obtain ⟨⟨k0, vs0⟩, h3, h4⟩ := h1
    simp only [Prod.mk.injEq] at h4
    obtain ⟨rfl, rfl⟩ := h4
    obtain ⟨p1, p2, v, rfl, p4⟩ := hr j k0 vs0 e h3 h2
    have hq := hp _ (List.mem_of_getElem? h3)
    simp only [V.alll, Bool.and_true] at hq
    refine ⟨V.lt_ren p1, p2.ren hf hq.1, v.ren f, rfl, p4.ren hf hq.2⟩
  | dead h hd => exact .dead h hd
  | ahead => exact .ahead

theorem BlkOk.ren_all {f : Nat → Nat} {m' : List (Option Nat)} {b : Blk} {x : Option Nat} (h : BlkOk W I m b x) (hf : ∀ (id g : Nat), m[id]? = some (some g) → m'[f id]? = some (some g)) : BlkOk W I m' (b.ren f) x := by
  cases h with
  | cells h hs h1 hr =>
    refine .cells h (by simpa using hs) (fun j x hx => ?_) fun j x hx => ?_
    · obtain ⟨y, hy, rfl⟩ := renl_get hx; exact h1 j y hy
    · obtain ⟨y, hy, rfl⟩ := renl_get hx; exact (hr j y hy).ren_all hf
  | loop h e1 e2 e4 e5 e6 hs hr hg =>
    refine .loop h e1 e2 e4 e5 e6 (by simpa using hs) (fun j x hx => ?_) hg
    obtain ⟨y, hy, rfl⟩ := renl_get hx; exact (hr j y hy).ren_all hf
  | map h hs hr =>
    refine .map h (by simpa using hs) fun j k vs e h1 h2 => ?_
    simp only [List.getElem?_map, Option.map_eq_some_iff] at h1
    obtain ⟨⟨k0, vs0⟩, h3, h4⟩ := h1
    simp only [Prod.mk.injEq] at h4
    obtain ⟨rfl, rfl⟩ := h4
    obtain ⟨p1, p2, v, rfl, p4⟩ := hr j k0 vs0 e h3 h2
    exact ⟨V.lt_ren p1, p2.ren_all hf, v.ren f, rfl, p4.ren_all hf⟩
  | dead h hd => exact .dead h hd
  | ahead => exact .ahead

theorem ren_cells {f : Nat → Nat} {b : Blk} {t : TypeId} {ow : List Nat} {cs : List V} {off : Nat} {d : Bool} {xs : List (List V)} (h : b.ren f = .cells t ow cs) (hx : cs[off]? = some (.sl d xs)) :
    ∃ (cs0 : List V) (xs0 : List (List V)), b = .cells t ow cs0 ∧ cs0[off]? = some (.sl d xs0) ∧ Alike xs0 xs := by
  cases b with
  | cells t' ow' cs0 =>
    simp only [Blk.ren, Blk.cells.injEq] at h
    obtain ⟨rfl, rfl, rfl⟩ := h
    obtain ⟨y, hy, e⟩ := renl_get hx
    cases y <;> simp only [V.ren] at e <;> try (cases e; done)
    rename_i d0 xs0
    simp only [V.sl.injEq] at e
    obtain ⟨rfl, rfl⟩ := e
    exact ⟨cs0, xs0, rfl, hy, .ren _ _⟩
  | _ => simp [Blk.ren] at h

def subM (m : List (Option Nat)) (R : List Nat) : List (Option Nat) := R.map fun r => m.getD r none

def Sim.base (W : World) (I : Nat → Nat → Prop) (m : List (Option Nat)) (st : St) (tmps : Array Value) (R : List Nat) : Base :=
  { A := fun g => some g ∈ subM m R ∨ ∃ r off xs v, r ∈ R ∧ Held W m st tmps (.cell r off) xs v ∧ claimOf v = some g, W := W, I := I, m := subM m R }
def pureBase (W : World) (I : Nat → Nat → Prop) : Base := { A := fun _ => False, W := W, I := I, m := [] }

theorem Grow.refl (B : Base) (hD : B.D = [] := by rfl) : Grow B B.W B.I := ⟨rfl, .refl _, rfl, Nat.le_refl _, fun _ _ _ => rfl, fun _ _ h => h, fun _ _ h => .inl h, KeepI.refl _ _, fun g hg => (by rw [hD] at hg; cases hg), by rw [hD]; exact ⟨List.nodup_nil, fun g hg => by cases hg⟩⟩

structure Sees (st : St) (R : List Nat) : Prop where
  nodup : R.Nodup
  blk : ∀ r ∈ R, ∃ b : Blk, st.hp[r]? = some b ∧ b.all (fun i => R.contains i) = true

theorem subM_get {R : List Nat} {i : Nat} {x : Option Nat} (hx : (subM m R)[i]? = some x) : ∃ r : Nat, R[i]? = some r ∧ x = m.getD r none := by
  simp only [subM, List.getElem?_map, Option.map_eq_some_iff] at hx
  obtain ⟨r, h1, h2⟩ := hx
  exact ⟨r, h1, h2.symm⟩

theorem getD_some {r g : Nat} (h : m.getD r none = some g) : m[r]? = some (some g) := by
  rw [List.getD_eq_getElem?_getD] at h
  rcases hm : m[r]? with _ | x
  · rw [hm] at h; cases h
  · rw [hm] at h; simp at h; rw [h]

theorem idx_get {R : List Nat} {r : Nat} (h : r ∈ R) : R[R.idxOf r]? = some r := by
  rw [List.getElem?_eq_getElem (List.idxOf_lt_length_of_mem h), List.getElem_idxOf]

theorem get_idx {R : List Nat} (hn : R.Nodup) {i r : Nat} (h : R[i]? = some r) : R.idxOf r = i := by
  have hm := List.mem_of_getElem? h
  have h2 := idx_get hm
  obtain ⟨l1, e1⟩ := List.getElem?_eq_some_iff.1 h
  obtain ⟨l2, e2⟩ := List.getElem?_eq_some_iff.1 h2
  exact (List.getElem_inj hn).1 (e2.trans e1.symm)

theorem sub_ren {R : List Nat} (id g : Nat) (hid : R.contains id = true) (hg : m[id]? = some (some g)) : (subM m R)[R.idxOf id]? = some (some g) := by
  have := idx_get (by simpa using hid : id ∈ R)
  simp only [subM, List.getElem?_map, this, Option.map_some, List.getD_eq_getElem?_getD, hg, Option.getD_some]

theorem Rel.sub {R : List Nat} {v : V} {w : Value} (h : Rel W I m v w) (hv : V.all (fun i => R.contains i) v = true) : Rel W I (subM m R) (v.ren fun i => R.idxOf i) w :=
  h.ren sub_ren hv

theorem held_sub {R : List Nat} (hR : Sees st R) {fr : List V} {args : Array Value} {l : Owner} {xs : List (List V)} {v : Value} {nb : Nat} (h : Held W (subM m R) { fr := fr, own := [], hp := subHp st.hp R, al := [], nb := nb } args l xs v) :
    ∃ (i off r : Nat) (xs0 : List (List V)), l = .cell i off ∧ R[i]? = some r ∧ Held W m st tmps (.cell r off) xs0 v ∧ Alike xs0 xs := by
  cases h with
  | tmp h1 h2 => cases h1
  | cell h1 h2 h3 h4 h5 =>
    simp only [subHp, List.getElem?_map, Option.map_eq_some_iff] at h1
    obtain ⟨r, p1, p2⟩ := h1
    obtain ⟨r', q1, q2⟩ := subM_get h4
    rw [p1] at q1; cases q1
    obtain ⟨b, hb, _⟩ := hR.blk r (List.mem_of_getElem? p1)
    rw [getD_of_get hb] at p2
    obtain ⟨cs0, xs0, rfl, e2, e3⟩ := ren_cells p2 h3
    exact ⟨_, _, r, xs0, rfl, p1, .cell hb h2 e2 (getD_some q2.symm) h5, e3⟩

theorem Sim.enter (h : Sim B W I m st tmps) {R : List Nat} (hR : Sees st R) (fr : List V) (args : Array Value) (hl : args.size = fr.length) (hr : ∀ (t : Nat) (x : V), fr[t]? = some x → Rel W I (subM m R) x (args.getD t undef)) :
    Sim (Sim.base W I m st tmps R) W I (subM m R) { fr := fr, own := [], hp := subHp st.hp R, al := [], nb := (subHp st.hp R).length } args := by
  have hmem : ∀ {g}, some g ∈ subM m R → some g ∈ m := fun {g} hg => by
    obtain ⟨i, hi⟩ := List.mem_iff_getElem?.1 hg
    obtain ⟨r, _, e⟩ := subM_get hi
    exact List.mem_of_getElem? (getD_some e.symm)
  refine ⟨Grow.refl _, List.prefix_refl _, h.live, hl, hr, by simp [subM, subHp], fun i j g hi hj => ?_, fun i b hb => ?_, fun g hg => .inl (.inl hg), fun g hg => h.notI g (hmem hg), fun l xs v k => ?_, fun l xs v g k hc => ?_,
    fun l l' xs xs' v v' g k k' hc hc' => ?_, fun t o k => (by cases k), by simp [Sim.base, subM, subHp]⟩
  · obtain ⟨r, p1, p2⟩ := subM_get hi
    obtain ⟨r', q1, q2⟩ := subM_get hj
    have := h.inj r r' g (getD_some p2.symm) (getD_some q2.symm)
    subst this
    rw [← get_idx hR.nodup p1, get_idx hR.nodup q1]
  · simp only [subHp, List.getElem?_map, Option.map_eq_some_iff] at hb
    obtain ⟨r, p1, p2⟩ := hb
    obtain ⟨b0, hb0, hall⟩ := hR.blk r (List.mem_of_getElem? p1)
    rw [getD_of_get hb0] at p2
    obtain ⟨x, hx, hbx⟩ := h.blk r b0 hb0
    refine ⟨x, ?_, p2 ▸ hbx.ren sub_ren hall⟩
    simp [subM, p1, hx]
  · obtain ⟨i, off, r, xs0, _, _, p3, p4⟩ := held_sub (tmps := tmps) hR k
    exact (h.own _ _ _ p3).alike p4
  · obtain ⟨i, off, r, xs0, _, p2, p3, p4⟩ := held_sub (tmps := tmps) hR k
    exact ⟨.inl (.inr ⟨r, off, xs0, v, List.mem_of_getElem? p2, p3, hc⟩), fun hg => (h.ownA _ _ _ _ p3 hc).2 (hmem hg)⟩
  · obtain ⟨i, off, r, xs0, rfl, p2, p3, p4⟩ := held_sub (tmps := tmps) hR k
    obtain ⟨i', off', r', xs0', rfl, q2, q3, q4⟩ := held_sub (tmps := tmps) hR k'
    have := h.ownInj _ _ _ _ _ _ _ p3 q3 hc hc'
    cases this
    have e : i = i' := by rw [← get_idx hR.nodup p2, get_idx hR.nodup q2]
    rw [e]

def ret (v : V) (own : Bool) (hp : List Blk) : St := { fr := [v], own := if own then [0] else [], hp := hp, al := [], nb := hp.length }

theorem putBack_length : ∀ (R : List Nat) (bs : List Blk) (hp : List Blk), (putBack hp R bs).length = hp.length
  | [], bs, hp => by simp [putBack]
  | r :: R, [], hp => by simp [putBack]
  | r :: R, b :: bs, hp => by simp only [putBack]; rw [putBack_length R bs]; simp

theorem putBack_other : ∀ (R : List Nat) (bs : List Blk) (hp : List Blk) (j : Nat), j ∉ R → (putBack hp R bs)[j]? = hp[j]?
  | [], bs, hp, j, _ => by simp [putBack]
  | r :: R, [], hp, j, _ => by simp [putBack]
  | r :: R, b :: bs, hp, j, h => by
    simp only [List.mem_cons, not_or] at h
    simp only [putBack]
    rw [putBack_other R bs _ j h.2, List.getElem?_set_ne (fun e => h.1 e.symm)]

theorem putBack_at : ∀ (R : List Nat) (bs : List Blk) (hp : List Blk) (i r : Nat) (b : Blk), R.Nodup → R[i]? = some r → bs[i]? = some b → r < hp.length → (putBack hp R bs)[r]? = some b
  | [], bs, hp, i, r, b, _, h, _, _ => by simp at h
  | r0 :: R, [], hp, i, r, b, _, _, h, _ => by simp at h
  | r0 :: R, b0 :: bs, hp, 0, r, b, hn, h1, h2, hl => by
    simp only [List.getElem?_cons_zero, Option.some.injEq] at h1 h2
    subst h1; subst h2
    simp only [putBack]
    rw [putBack_other R bs _ r0 (List.nodup_cons.1 hn).1, List.getElem?_set_self hl]
  | r0 :: R, b0 :: bs, hp, i + 1, r, b, hn, h1, h2, hl => by
    simp only [List.getElem?_cons_succ] at h1 h2
    simp only [putBack]
    exact putBack_at R bs _ i r b (List.nodup_cons.1 hn).2 h1 h2 (by simpa using hl)

theorem pre_take {m0 m : List (Option Nat)} (h : m0 <+: m) : m.take m0.length = m0 := by
  obtain ⟨r, rfl⟩ := h
  simp

def backM (m : List (Option Nat)) (R : List Nat) (m' : List (Option Nat)) : List (Option Nat) := m ++ m'.drop R.length

section
variable {R : List Nat} {m' : List (Option Nat)} {hp' : List Blk}

theorem backM_get (hR : ∀ r ∈ R, r < m.length) (hpre : subM m R <+: m') {i : Nat} {x : Option Nat} (hx : m'[i]? = some x) : (backM m R m')[backId R m.length i]? = some x := by
  unfold backId backM
  have hl : (subM m R).length = R.length := by simp [subM]
  split
  · rename_i r hr
    have hlt := hR r (List.mem_of_getElem? hr)
    rw [List.getElem?_append_left hlt]
    have h1 : (subM m R)[i]? = some (m.getD r none) := by simp [subM, hr]
    have h2 := pre_get hpre h1
    rw [hx] at h2
    cases h2
    rw [List.getD_eq_getElem?_getD, List.getElem?_eq_getElem hlt]
    rfl
  · rename_i hr
    have hge : R.length ≤ i := List.getElem?_eq_none_iff.1 hr
    rw [List.getElem?_append_right (by omega), List.getElem?_drop]
    rw [show R.length + (m.length + (i - R.length) - m.length) = i by omega]
    exact hx

theorem back_cases (hR : Sees st R) (hml : m.length = st.hp.length) (hpre : subM m R <+: m') (hmp : m'.length = hp'.length) {j : Nat} {b : Blk} (hb : (backHp st.hp R hp')[j]? = some b) :
    (j ∉ R ∧ st.hp[j]? = some b ∧ (backM m R m')[j]? = m[j]?) ∨ ∃ (i : Nat) (b0 : Blk), j = backId R m.length i ∧ hp'[i]? = some b0 ∧ b = b0.ren (backId R m.length) ∧ (backM m R m')[j]? = m'[i]? ∧ (j < m.length → R[i]? = some j) ∧ (m.length ≤ j → R.length ≤ i) := by
  have hlt : ∀ r ∈ R, r < m.length := fun r hr => by
    obtain ⟨b, hb, _⟩ := hR.blk r hr
    rw [hml]; exact (List.getElem?_eq_some_iff.1 hb).1
  have hle : R.length ≤ hp'.length := by
    have := hpre.length_le
    rw [hmp] at this
    simpa [subM] using this
  unfold backHp at hb
  simp only [← hml] at hb
  by_cases hj : j < m.length
  · rw [List.getElem?_append_left (by rw [putBack_length, ← hml]; exact hj)] at hb
    by_cases hjR : j ∈ R
    · have hi := idx_get hjR
      have hil : R.idxOf j < R.length := List.idxOf_lt_length_of_mem hjR
      have hget := List.getElem?_eq_getElem (show R.idxOf j < hp'.length by omega)
      rw [putBack_at R _ st.hp (R.idxOf j) j ((hp'[R.idxOf j]'(by omega)).ren (backId R m.length)) hR.nodup hi (by simp [hget]) (by rw [← hml]; exact hj)] at hb
      cases hb
      have hbid : backId R m.length (R.idxOf j) = j := by unfold backId; rw [hi]
      refine .inr ⟨R.idxOf j, _, hbid.symm, hget, rfl, ?_, fun _ => hi, fun h => absurd hj (by omega)⟩
      have hx := List.getElem?_eq_getElem (show R.idxOf j < m'.length by omega)
      have := backM_get hlt hpre hx
      rw [hbid] at this
      rw [this, hx]
    · rw [putBack_other R _ _ j hjR] at hb
      exact .inl ⟨hjR, hb, by unfold backM; rw [List.getElem?_append_left hj]⟩
  · rw [List.getElem?_append_right (by rw [putBack_length, ← hml]; omega), putBack_length, ← hml, List.getElem?_drop] at hb
    simp only [List.getElem?_map, Option.map_eq_some_iff] at hb
    obtain ⟨b0, h1, h2⟩ := hb
    have hbid : backId R m.length (R.length + (j - m.length)) = j := by
      unfold backId
      rw [List.getElem?_eq_none (by omega)]
      simp only
      omega
    refine .inr ⟨R.length + (j - m.length), b0, hbid.symm, h1, h2.symm, ?_, fun h => absurd h hj, fun _ => by omega⟩
    have hx := List.getElem?_eq_getElem (show R.length + (j - m.length) < m'.length by rw [hmp]; exact (List.getElem?_eq_some_iff.1 h1).1)
    have := backM_get hlt hpre hx
    rw [hbid] at this
    rw [this, hx]

theorem Sim.back (h : Sim B W I m st tmps) (hR : Sees st R) {W' : World} {I' : Nat → Nat → Prop} {v : V} {own : Bool} {w : Value}
    (k : Sim (Sim.base W I m st tmps R) W' I' m' (ret v own hp') #[w]) (d : Option Tmp) (hsl : own = true → ∃ dd xs, v = .sl dd xs) :
    Sim B W' I' (backM m R m') ({ st with hp := backHp st.hp R hp', al := keepAl R st.al }.putOwn d (v.ren (backId R st.hp.length)) own) (aput tmps d w) := by
  have hsize : W.heap.size ≤ W'.heap.size := k.grow.size
  have hpre : subM m R <+: m' := k.pre
  have hml := h.mlen
  have hmp : m'.length = hp'.length := k.mlen
  have hlt : ∀ r ∈ R, r < m.length := fun r hr => by
    obtain ⟨b, hb, _⟩ := hR.blk r hr
    rw [hml]; exact (List.getElem?_eq_some_iff.1 hb).1
  have hbm : ∀ (id g : Nat), m'[id]? = some (some g) → (backM m R m')[backId R m.length id]? = some (some g) := fun id g hg => backM_get hlt hpre hg
  have hlen : (backM m R m').length = (backHp st.hp R hp').length := by
    simp only [backM, backHp, List.length_append, List.length_drop, putBack_length, List.length_map]
    omega
  have hmle : MLe m (backM m R m') := MLe.pre (List.prefix_append _ _)
  have hsub : ∀ {g}, some g ∈ subM m R → some g ∈ m := fun {g} hg => by
    obtain ⟨i, hi⟩ := List.mem_iff_getElem?.1 hg
    obtain ⟨r, _, e⟩ := subM_get hi
    exact List.mem_of_getElem? (getD_some e.symm)
  have hA : ∀ g, (Sim.base W I m st tmps R).A g → B.A g ∨ B.W.heap.size ≤ g := fun g hg => by
    rcases hg with hg | ⟨id, off, xs, v, _, hh, hc⟩
    · exact h.mA g (hsub hg)
    · exact (h.ownA _ _ _ _ hh hc).1
  have hA' : ∀ g, (Sim.base W I m st tmps R).A g ∨ (Sim.base W I m st tmps R).W.heap.size ≤ g → B.A g ∨ B.W.heap.size ≤ g := fun g hg => by
    rcases hg with hg | hg
    · exact hA g hg
    · exact .inr (Nat.le_trans h.grow.size hg)
  -- a block that the call did not see
  have hblk : ∀ {j g : Nat}, j ∉ R → m[j]? = some (some g) → ¬ (Sim.base W I m st tmps R).A g ∧ g < W.heap.size := fun {j g} hj hg => by
    refine ⟨fun ha => ?_, h.mlt (List.mem_of_getElem? hg)⟩
    rcases ha with ha | ⟨id, off, xs, v, _, hh, hc⟩
    · obtain ⟨i, hi⟩ := List.mem_iff_getElem?.1 ha
      obtain ⟨r, h1, e⟩ := subM_get hi
      have := h.inj _ _ _ (getD_some e.symm) hg
      exact hj (this ▸ List.mem_of_getElem? h1)
    · exact (h.ownA _ _ _ _ hh hc).2 (List.mem_of_getElem? hg)
  -- what a slot of the caller's, or a block that the call did not see, owned is as it was
  have hslot : ∀ l xs v g, (∀ r off, l = .cell r off → r ∉ R) → Held W m st tmps l xs v → claimOf v = some g → ¬ (Sim.base W I m st tmps R).A g ∧ g < W.heap.size := fun l xs v g hl hh hc => by
    refine ⟨fun hg => ?_, claim_lt (h.own _ _ _ hh) hc⟩
    rcases hg with hg | ⟨id, off, xs', v', hid, hh', hc'⟩
    · exact (h.ownA _ _ _ _ hh hc).2 (hsub hg)
    · have := h.ownInj _ _ _ _ _ _ _ hh hh' hc hc'
      exact hl _ _ this hid
  have hheld : ∀ {l xs u}, Held W' (backM m R m') { st with hp := backHp st.hp R hp', al := keepAl R st.al } tmps l xs u →
      ((∀ r off, l = .cell r off → r ∉ R) ∧ Held W m st tmps l xs u) ∨ (∃ i off xs0, l = .cell (backId R m.length i) off ∧ Alike xs0 xs ∧ Held W' m' (ret v own hp') #[w] (.cell i off) xs0 u) := fun {l xs u} hh => by
    cases hh with
    | tmp h1 h2 => exact .inl ⟨fun r off e => (by cases e), .tmp h1 h2⟩
    | @cell id off ow cs dd _ g _ t h1 h2 h3 h4 h5 =>
      rcases back_cases hR hml hpre hmp h1 with ⟨p1, p2, p3⟩ | ⟨i, b0, p1, p2, p3, p4, p5, p6⟩
      · rw [p3] at h4
        refine .inl ⟨fun r off e => (by cases e; exact p1), .cell p2 h2 h3 h4 ?_⟩
        rw [← h5]
        exact (cell_same (k.grow.same g (hblk p1 h4).2 (hblk p1 h4).1)).symm
      · rw [p4] at h4
        obtain ⟨cs0, xs0, rfl, e2, e3⟩ := ren_cells p3.symm h3
        exact .inr ⟨i, off, xs0, by rw [p1], e3, .cell p2 h2 e2 h4 h5⟩
  -- no block is met twice
  have hold : ∀ {j g : Nat}, m[j]? = some (some g) → ∀ {i : Nat}, m'[i]? = some (some g) → R[i]? = some j := fun {j g} hj {i} hi => by
    by_cases hjR : j ∈ R
    · have h1 := sub_ren (R := R) j g (by simpa using hjR) hj
      have := k.inj _ _ _ (pre_get hpre h1) hi
      rw [← this]
      exact idx_get hjR
    · obtain ⟨q1, q2⟩ := hblk hjR hj
      rcases k.mA g (List.mem_of_getElem? hi) with ha | ha
      · exact absurd ha q1
      · exact absurd q2 (by simpa [Sim.base] using ha)
  have hnew : ∀ {j g : Nat}, (backM m R m')[j]? = some (some g) → m[j]? = some (some g) ∨ (m.length ≤ j ∧ m'[R.length + (j - m.length)]? = some (some g)) := fun {j g} hj => by
    unfold backM at hj
    rw [List.getElem?_append] at hj
    split at hj
    · exact .inl hj
    · rw [List.getElem?_drop] at hj
      exact .inr ⟨by omega, hj⟩
  have hinR : ∀ {i j : Nat}, R.length ≤ i → R[i]? = some j → False := fun {i j} hi hj => by
    have := (List.getElem?_eq_some_iff.1 hj).1
    omega
  have hmid : Sim B W' I' (backM m R m') { st with hp := backHp st.hp R hp', al := keepAl R st.al } tmps := by
    refine ⟨⟨k.grow.os.trans h.grow.os, k.grow.tape.trans h.grow.tape, k.grow.output.trans h.grow.output, Nat.le_trans h.grow.size hsize, fun g hg ha => ?_, fun g o hi => k.grow.sub g o (h.grow.sub g o hi), fun g o hi => ?_,
        h.grow.keep.after k.grow.keep h.grow.sub, fun g hg => (k.grow.same g (lt_of_heap (h.grow.dfr g hg)) fun ha => ?_).trans (h.grow.dfr g hg), h.grow.dnd⟩, List.IsPrefix.trans h.pre (List.prefix_append _ _), k.live, h.len, fun t x hx => (h.fr t x hx).mono_le k.grow.sub k.grow.keep hmle, hlen,
      fun i j g hi hj => ?_, fun j b hb => ?_, fun g hg => ?_, fun g hg => ?_,
      fun l xs v hh => ?_, fun l xs v g hh hc => ?_, fun l l' xs xs' v v' g hh hh' hc hc' => ?_, fun t o kk => ?_, h.nb⟩
    · have hna : ¬ (Sim.base W I m st tmps R).A g := fun hg' => (hA g hg').elim ha fun hle => by omega
      exact (k.grow.same g (Nat.lt_of_lt_of_le hg h.grow.size) hna).trans (h.grow.same g hg ha)
    · rcases k.grow.fresh g o hi with hi | hi | hi
      · exact h.grow.fresh g o hi
      · exact .inr (.inl (Nat.le_trans h.grow.size hi))
      · exact .inr (hA g hi).symm
    · have hd := h.grow.dfr g hg
      rcases ha with ha | ⟨id, off, xs, v, _, hh, hc⟩
      · exact h.memD (hsub ha) hd
      · exact h.heldD hh hc hd
    · rcases hnew hi with hi | ⟨i1, hi⟩ <;> rcases hnew hj with hj | ⟨j1, hj⟩
      · exact h.inj _ _ _ hi hj
      · exact (hinR (by omega) (hold hi hj)).elim
      · exact (hinR (by omega) (hold hj hi)).elim
      · have := k.inj _ _ _ hi hj
        omega
    · rcases back_cases hR hml hpre hmp hb with ⟨p1, p2, p3⟩ | ⟨i, b0, p1, p2, p3, p4, p5, p6⟩
      · obtain ⟨x, hx, hbx⟩ := h.blk j b p2
        refine ⟨x, by rw [p3]; exact hx, hbx.mono k.grow.sub k.grow.keep hmle fun g e => ?_⟩
        obtain ⟨q1, q2⟩ := hblk p1 (e ▸ hx)
        exact k.grow.same g q2 q1
      · obtain ⟨x, hx, hbx⟩ := k.blk i b0 p2
        exact ⟨x, by rw [p4]; exact hx, p3 ▸ hbx.ren_all hbm⟩
    · obtain ⟨j, hj⟩ := List.mem_iff_getElem?.1 hg
      rcases hnew hj with hj | ⟨_, hj⟩
      · exact h.mA g (List.mem_of_getElem? hj)
      · exact hA' g (k.mA g (List.mem_of_getElem? hj))
    · obtain ⟨j, hj⟩ := List.mem_iff_getElem?.1 hg
      by_cases hjR : j ∈ R
      · have hj' : m[j]? = some (some g) := by
          rcases hnew hj with hj | ⟨h1, _⟩
          · exact hj
          · exact absurd (hlt j hjR) (by omega)
        exact k.notI g (hpre.subset (List.mem_of_getElem? (sub_ren (R := R) j g (by simpa using hjR) hj')))
      · rcases hnew hj with hj | ⟨_, hj⟩
        · intro o hi
          obtain ⟨q1, q2⟩ := hblk hjR hj
          rcases k.grow.fresh g o hi with hi | hi | hi
          · exact h.notI g (List.mem_of_getElem? hj) o hi
          · exact absurd q2 (by simpa [Sim.base] using hi)
          · exact q1 hi
        · exact k.notI g (List.mem_of_getElem? hj)
    · rcases hheld hh with ⟨hl, kk⟩ | ⟨i, off, xs0, rfl, e, kk⟩
      · have ho := h.own _ _ _ kk
        refine ho.mono (fun g hc => k.grow.same g (hslot l xs v g hl kk hc).2 (hslot l xs v g hl kk hc).1) fun g o hc hi => ?_
        rcases k.grow.fresh g o hi with hi | hi | hi
        · exact hi
        · exact absurd (hslot l xs v g hl kk hc).2 (by simpa [Sim.base] using hi)
        · exact absurd hi (hslot l xs v g hl kk hc).1
      · exact (k.own _ _ _ kk).alike e
    · rcases hheld hh with ⟨hl, kk⟩ | ⟨i, off, xs0, rfl, e, kk⟩
      · refine ⟨(h.ownA _ _ _ _ kk hc).1, fun hg => ?_⟩
        obtain ⟨j, hj⟩ := List.mem_iff_getElem?.1 hg
        rcases hnew hj with hj | ⟨_, hj⟩
        · exact (h.ownA _ _ _ _ kk hc).2 (List.mem_of_getElem? hj)
        · rcases k.mA g (List.mem_of_getElem? hj) with hg | hg
          · exact (hslot l xs v g hl kk hc).1 hg
          · exact absurd (hslot l xs v g hl kk hc).2 (by simpa [Sim.base] using hg)
      · refine ⟨hA' g (k.ownA _ _ _ _ kk hc).1, fun hg => ?_⟩
        obtain ⟨j, hj⟩ := List.mem_iff_getElem?.1 hg
        rcases hnew hj with hj | ⟨_, hj⟩
        · by_cases hjR : j ∈ R
          · exact (k.ownA _ _ _ _ kk hc).2 (hpre.subset (List.mem_of_getElem? (sub_ren (R := R) j g (by simpa using hjR) hj)))
          · obtain ⟨q1, q2⟩ := hblk hjR hj
            rcases (k.ownA _ _ _ _ kk hc).1 with ha | ha
            · exact q1 ha
            · exact absurd q2 (by simpa [Sim.base] using ha)
        · exact (k.ownA _ _ _ _ kk hc).2 (List.mem_of_getElem? hj)
    · rcases hheld hh with ⟨hl, kk⟩ | ⟨i, off, xs0, rfl, e, kk⟩ <;> rcases hheld hh' with ⟨hl', kk'⟩ | ⟨i', off', xs0', rfl, e', kk'⟩
      · exact h.ownInj _ _ _ _ _ _ _ kk kk' hc hc'
      · rcases (k.ownA _ _ _ _ kk' hc').1 with hg | hg
        · exact absurd hg (hslot _ xs v g hl kk hc).1
        · exact absurd (hslot _ xs v g hl kk hc).2 (by simpa [Sim.base] using hg)
      · rcases (k.ownA _ _ _ _ kk hc).1 with hg | hg
        · exact absurd hg (hslot _ xs' v' g hl' kk' hc').1
        · exact absurd (hslot _ xs' v' g hl' kk' hc').2 (by simpa [Sim.base] using hg)
      · have := k.ownInj _ _ _ _ _ _ _ kk kk' hc hc'
        cases this
        rfl
    · obtain ⟨k1, k2⟩ := List.mem_filter.1 kk
      have ho := h.al t o k1
      cases o with
      | tmp u => exact ho
      | base id off => cases k2
      | cell id off =>
        intro ht
        obtain ⟨g, hg, hc⟩ := ho ht
        have hidR : id ∉ R := by simpa [keepsO] using k2
        obtain ⟨q1, q2⟩ := hblk hidR hg
        exact ⟨g, hmle _ _ hg, (cell_same (k.grow.same g q2 q1)).trans hc⟩
  rw [← hml]
  have hrel : Rel W' I' (backM m R m') (v.ren (backId R m.length)) w := (by simpa using k.fr 0 v rfl : Rel W' I' m' v w).ren_all hbm
  cases own with
  | false =>
    cases d with
    | none => exact hmid
    | some d => exact hmid.put (some d) hrel
  | true =>
    obtain ⟨dd, xs, rfl⟩ := hsl rfl
    cases d with
    | none => exact hmid
    | some d =>
      have hres : Held W' m' (ret (.sl dd xs) true hp') #[w] (.tmp 0) xs w := by
        have : (#[w] : Array Value).getD 0 undef = w := rfl
        rw [← this]; exact .tmp (by simp [ret]) rfl
      obtain ⟨xs', hxs'⟩ : ∃ xs', xs' = (if dd then xs else V.renll (backId R m.length) xs) := ⟨_, rfl⟩
      have hren : V.ren (backId R m.length) (.sl dd xs) = .sl dd xs' := by rw [hxs']; rfl
      have halike : Alike xs xs' := by rw [hxs']; exact .ren _ _
      rw [hren] at hrel ⊢
      have hget : d < (St.put { st with hp := backHp st.hp R hp', al := keepAl R st.al } (some d) (.sl dd xs')).fr.length → (aput tmps (some d) w).getD d undef = w := fun hd => by
        simp only [aput]; rw [getD_set (by rw [h.len]; simpa [St.put] using hd), if_pos rfl]
      refine Sim.owns (hmid.put (some d) hrel) d (dd := dd) (xs := xs') (fun hd => by simp only [St.put] at hd ⊢; rw [List.getElem?_set]; simp at hd; simp [hd]) (fun hd => by rw [hget hd]; exact (k.own _ _ _ hres).alike halike)
        (fun g hd hc => ?_) fun l xs' v' g hh hc hd hc' => ?_
      · rw [hget hd] at hc
        refine ⟨hA' g (k.ownA _ _ _ _ hres hc).1, fun hg => ?_⟩
        obtain ⟨j, hj⟩ := List.mem_iff_getElem?.1 hg
        rcases hnew hj with hj | ⟨_, hj⟩
        · by_cases hjR : j ∈ R
          · exact (k.ownA _ _ _ _ hres hc).2 (hpre.subset (List.mem_of_getElem? (sub_ren (R := R) j g (by simpa using hjR) hj)))
          · obtain ⟨q1, q2⟩ := hblk hjR hj
            rcases (k.ownA _ _ _ _ hres hc).1 with ha | ha
            · exact q1 ha
            · exact absurd q2 (by simpa [Sim.base] using ha)
        · exact (k.ownA _ _ _ _ hres hc).2 (List.mem_of_getElem? hj)
      · rw [hget hd] at hc'
        obtain ⟨hh, hne⟩ := held_put hh
        rcases hheld hh with ⟨hl, kk⟩ | ⟨i, off, xs0, rfl, e, kk⟩
        · rcases (k.ownA _ _ _ _ hres hc').1 with hg | hg
          · exact absurd hg (hslot _ _ v' g hl kk hc).1
          · exact absurd (hslot _ _ v' g hl kk hc).2 (by simpa [Sim.base] using hg)
        · have := k.ownInj _ _ _ _ _ _ _ kk hres hc hc'; cases this
end

theorem Sim.toRet (h : Sim B W I m st tmps) (hB : B.n0 = B.m.length) {v : V} {w : Value} (own : Bool) (hr : Rel W I m v w)
    (ho : own = true → ∃ t, t ∈ st.own ∧ (st.fr[t]? = some v) ∧ tmps.getD t undef = w) : Sim B W I m (ret v own st.hp) #[w] := by
  have hh : ∀ {l xs u}, Held W m (ret v own st.hp) #[w] l xs u → (∃ t d, own = true ∧ v = .sl d xs ∧ w = u ∧ l = .tmp 0 ∧ Held W m st tmps (.tmp t) xs u) ∨ (∃ id off, l = .cell id off ∧ Held W m st tmps l xs u) := fun {l xs u} hh => by
    cases hh with
    | @tmp t d xs h1 h2 =>
      cases own with
      | false => simp [ret] at h1
      | true =>
        simp only [ret, if_true, List.mem_singleton] at h1
        subst h1
        simp only [ret, List.getElem?_cons_zero, Option.some.injEq] at h2
        subst h2
        obtain ⟨t, k1, k2, k3⟩ := ho rfl
        refine .inl ⟨t, d, rfl, rfl, rfl, rfl, ?_⟩
        have : (#[w] : Array Value).getD 0 undef = tmps.getD t undef := k3.symm
        rw [this]
        exact .tmp k1 k2
    | cell h1 h2 h3 h4 h5 => exact .inr ⟨_, _, rfl, .cell h1 h2 h3 h4 h5⟩
  refine ⟨h.grow, h.pre, h.live, rfl, fun t x hx => ?_, h.mlen, h.inj, h.blk, h.mA, h.notI, fun l xs u k => ?_, fun l xs u g k hc => ?_, fun l l' xs xs' u u' g k k' hc hc' => ?_, fun t o k => (by cases k), by
    simp only [ret]; rw [← h.mlen, hB]; exact h.pre.length_le⟩
  · cases t with
    | zero => simp [ret] at hx; subst hx; exact hr
    | succ t => simp [ret] at hx
  · rcases hh k with ⟨t, d, _, _, _, _, k⟩ | ⟨id, off, _, k⟩ <;> exact h.own _ _ _ k
  · rcases hh k with ⟨t, d, _, _, _, _, k⟩ | ⟨id, off, _, k⟩ <;> exact h.ownA _ _ _ _ k hc
  · rcases hh k with ⟨t, d, _, _, _, rfl, q⟩ | ⟨id, off, rfl, q⟩ <;> rcases hh k' with ⟨t', d', _, _, _, rfl, q'⟩ | ⟨id', off', rfl, q'⟩
    · rfl
    · have := h.ownInj _ _ _ _ _ _ _ q q' hc hc'; cases this
    · have := h.ownInj _ _ _ _ _ _ _ q q' hc hc'; cases this
    · exact h.ownInj _ _ _ _ _ _ _ q q' hc hc'

theorem BlkOk.on {n : Nat} {b : Blk} {x : Option Nat} (h : BlkOk W I m b x) (hb : b.all (fun i => Nat.blt i n) = true) : BlkOk W I (m.take n) b x := by
  cases h with
  | cells h hs h1 hr =>
    simp only [Blk.all] at hb
    exact .cells h hs h1 fun j x hx => (hr j x hx).restrict (alll_get hb hx)
  | loop h e1 e2 e4 e5 e6 hs hr hg =>
    simp only [Blk.all] at hb
    exact .loop h e1 e2 e4 e5 e6 hs (fun j x hx => (hr j x hx).restrict (alll_get hb hx)) hg
  | map h hs hr =>
    simp only [Blk.all, List.all_eq_true, Bool.and_eq_true] at hb
    refine .map h hs fun j k vs e h1 h2 => ?_
    obtain ⟨p1, p2, v, rfl, p4⟩ := hr j k vs e h1 h2
    have hq := hb _ (List.mem_of_getElem? h1)
    simp only [V.alll, Bool.and_true] at hq
    exact ⟨p1, p2.restrict hq.1, v, rfl, p4.restrict hq.2⟩
  | dead h hd => exact .dead h hd
  | ahead => exact .ahead

theorem Sim.trunc (hB : B.n0 = B.m.length) {v : V} {own : Bool} {hp : List Blk} {w : Value} (h : Sim B W I m (ret v own hp) #[w]) (hv : V.lt B.m.length v = true) (hb : (hp.take B.m.length).all (Blk.all fun i => Nat.blt i B.m.length) = true) :
    Sim B W I B.m (ret v own (hp.take B.m.length)) #[w] := by
  have hm := pre_take h.pre
  have hml : B.m.length ≤ hp.length := by rw [← (by simpa [ret] using h.mlen : m.length = hp.length)]; exact h.pre.length_le
  have hget : ∀ {j : Nat} {b : Blk}, (hp.take B.m.length)[j]? = some b → j < B.m.length ∧ hp[j]? = some b := fun {j b} hj => by
    rw [List.getElem?_take] at hj
    split at hj
    · exact ⟨by assumption, hj⟩
    · cases hj
  have hmg : ∀ {j : Nat} {x : Option Nat}, B.m[j]? = some x → m[j]? = some x := fun hj => pre_get h.pre hj
  have hres : ∀ {x : V} {u : Value}, Rel W I m x u → V.lt B.m.length x = true → Rel W I B.m x u := fun hr hl => by have := hr.restrict hl; rwa [hm] at this
  have hh : ∀ {l xs u}, Held W B.m (ret v own (hp.take B.m.length)) #[w] l xs u → Held W m (ret v own hp) #[w] l xs u := fun hh => by
    cases hh with
    | tmp h1 h2 => exact .tmp h1 h2
    | cell h1 h2 h3 h4 h5 => exact .cell (hget h1).2 h2 h3 (hmg h4) h5
  have hsub : ∀ {g}, some g ∈ B.m → some g ∈ m := fun hg => h.pre.subset hg
  refine ⟨h.grow, List.prefix_refl _, h.live, rfl, fun t x hx => ?_, by simp [ret, Nat.min_eq_left hml], fun i j g hi hj => h.inj i j g (hmg hi) (hmg hj), fun j b hj => ?_, fun g hg => h.mA g (hsub hg), fun g hg => h.notI g (hsub hg),
    fun l xs u k => h.own _ _ _ (hh k), fun l xs u g k hc => ⟨(h.ownA _ _ _ _ (hh k) hc).1, fun hg => (h.ownA _ _ _ _ (hh k) hc).2 (hsub hg)⟩,
    fun l l' xs xs' u u' g k k' => h.ownInj l l' xs xs' u u' g (hh k) (hh k'), fun t o k => (by cases k), by simp [ret, Nat.min_eq_left hml, hB]⟩
  · cases t with
    | zero => simp [ret] at hx; subst hx; exact hres (by simpa using h.fr 0 v rfl) hv
    | succ t => simp [ret] at hx
  · obtain ⟨hlt, hj'⟩ := hget hj
    obtain ⟨x, hx, hb'⟩ := h.blk j b hj'
    refine ⟨x, by rw [← hm, List.getElem?_take, if_pos hlt]; exact hx, ?_⟩
    have := hb'.on (n := B.m.length) (List.all_eq_true.1 hb b (List.mem_of_getElem? hj))
    rwa [hm] at this

end Go.Abs
/-! The operations that leave memory alone: what the interpreter says of them is what the model does. -/
namespace Go.Abs

def KOk (P : Program) (t : TypeId) : K → TypeDesc → Prop
  | .bool, .bool => True
  | .int k, .int k' => k = k'
  | .str, .string => True
  | .ptr e, .pointer e' => e = e'
  | .rawp, .unsafePointer => True
  | .slice e, .slice e' => e = e'
  | .struct eq fs, .struct fields => fs = fields.toList.map (fun f => (f.offset, f.type)) ∧ (eq = true → (∀ f ∈ fields.toList, (f.name == "_") = false) ∧ P.stoodInHeld t = false ∧ P.eqGuardType P.depth t = false)
  | .array n e, .array n' e' => n = n' ∧ e = e'
  | .map k e, .map k' e' => k = k' ∧ e = e'
  | .func, .func _ _ _ => True
  | .other, d => (match d with | .struct _ | .array _ _ => False | _ => True)
  | _, _ => False

def zAgg : Value → Bool
  | .agg _ => true
  | _ => false

structure TyOk (P : Program) (t : TypeId) (ti : TI) (i : TypeInfo) (d : TypeDesc) (z : Value) : Prop where
  info : P.info? t = some i
  und : P.underlying t = some d
  size : i.size = ti.size
  bytes : i.bytes = ti.bytes
  zero : i.zero = some z
  zsize : z.cells.size = ti.size
  zeq : ti.zero = z.cells.toList.map ofConst
  zone : ∀ u ∈ z.cells.toList, u.oneCell' = true
  kind : KOk P t ti.k d
  zagg : zAgg z = ti.k.isAgg

def CloneLike (t : TypeId) (fn : Func) : Prop :=
  fn.ntmps = 8 ∧ fn.results = #[.tmp 2] ∧ ∃ r0 r1 r2 r3 y0 y1 y2 y3 y4 y5 y6 y7 z2 p0 p1 p2 p3 p4 p5 p6 p7 a0 a1 a2 a3 a4 a5 a6 a7, fn.body = some
    (.seq (.region r0 #[⟨some 2, .assign (.const (.slice none 0 0)), y0, p0, a0, none⟩] false)
      (.seq (.seq (.region r1 #[⟨some 3, .move (.tmp 0), y1, p1, a1, none⟩, ⟨some 4, .binOp .eql t (.tmp 3) (.const (.slice none 0 0)) z2, y2, p2, a2, none⟩] false)
          (.cond (.tmp 4) (.seq (.region r2 #[⟨some 2, .assign (.const (.slice none 0 0)), y3, p3, a3, none⟩] false) .ret) .skip))
        (.seq (.region r3 #[⟨some 5, .buildSlice t 0 #[], y4, p4, a4, none⟩, ⟨some 6, .move (.tmp 0), y5, p5, a5, none⟩,
            ⟨some 7, .call { callee := .builtin .append, args := #[.tmp 5, .tmp 6], argTypes := #[t, t] }, y6, p6, a6, none⟩, ⟨some 2, .assign (.tmp 7), y7, p7, a7, none⟩] false) .ret)))

def encZ : List (Int × Int) → List Value
  | [] => []
  | p :: r => .int .i64 p.1 :: .int .i64 p.2 :: encZ r
def SrtOk (P : Program) (f g : FuncId) (t : TypeId) (code : Nat) : Prop :=
  (∃ fn, P.funcs[f]? = some fn ∧ (fn.name == "runtime.NumGoroutine") = false ∧ fn.body.isNone = false) ∧
  (∀ (blk c : Nat) (l : List (Int × Int)) (arr : Array Value) (W : World), W.heap[blk]? = some (.cells arr t (0, 0)) → arr.toList.take (2 * l.length) = encZ l → l.length ≤ 1000000000 →
    Calls P f #[.slice (some ⟨blk, 0, none⟩) l.length c, .func (.func g) #[] #[]] W fun e W' => e = .returned (.tuple #[]) ∧ ∃ (l' : List (Int × Int)) (arr' : Array Value), l'.Perm l ∧ (l'.Pairwise fun a b => ¬ cfOf code b a < 0) ∧
      arr'.size = arr.size ∧ arr'.toList = encZ l' ++ arr.toList.drop (2 * l.length) ∧ W'.heap[blk]? = some (.cells arr' t (0, 0)) ∧ (∀ g', g' ≠ blk → g' < W.heap.size → W'.heap[g']? = W.heap[g']?) ∧ W.heap.size ≤ W'.heap.size ∧
      W'.os = W.os ∧ TapeLe W W' ∧ W'.output = W.output)
  ∧ ∀ (p : Option Addr) (c : Nat) (W : World), Calls P f #[.slice p 0 c, .func (.func g) #[] #[]] W fun e W' => e = .returned (.tuple #[]) ∧ W' = W


structure Cfg.Ok [BT] (cfg : Cfg) (P : Program) : Prop where
  fn : ∀ f fn, cfg.fn f = some fn → P.funcs[f]? = some fn ∧ (fn.name == "runtime.NumGoroutine") = false
  ty : ∀ t ti, cfg.ty t = some ti → ∃ i d z, TyOk P t ti i d z
  mixed : P.follows .mixedOrders = true
  bt1 : ∀ t ti, cfg.ty t = some ti → ti.k = .int .u8 → BT.is t
  bt2 : ∀ e, BT.is e → P.underlying e = some (.int .u8) ∧ P.cellsOf e = 1
  bt3 : ∀ f c, BT.good f c ↔ regsOk cfg f c = true
  bt4 : ∀ t, BT.solo t ↔ cfg.solo t = true
  bt5 : ∀ t ti, cfg.ty t = some ti → BT.width t = ti.size
  ext : ∀ f, cfg.ext f = true → ∃ fn, P.funcs[f]? = some fn ∧ fn.name = "internal/abi.NoEscape" ∧ fn.body.isNone = true ∧ Extern.findNext fn = none ∧ ∃ e, Extern.find fn = some e ∧ e = Extern.AbiNoEscape.same
  cln : ∀ f t, cfg.cln f = some t → ∃ fn, P.funcs[f]? = some fn ∧ (fn.name == "runtime.NumGoroutine") = false ∧ CloneLike t fn
  regs : ∀ f fn c, cfg.fn f = some fn → fn.body = some c → regsOk cfg f c = true
  srt : ∀ f g t code, cfg.srt f g = some (t, code) → SrtOk P f g t code

structure FOk (F : Fence) : Prop where
  fn : ∀ f, F.fn f
  depth : F.depth = none
  alive : F.alive = false

variable [BT] {F : Fence} {n : Nat} {P : Program} {cfg : Cfg} {B : Base} {W : World} {I : Nat → Nat → Prop} {m : List (Option Nat)} {st st' : St} {a : Act} {o : Oper}

theorem wp_value {w : Value} {W' : World} {next : Act → World → Prop} {Q : Exit → Act → World → Prop} (hF : FOk F) (hnd : ∀ c, o.op ≠ .defer c) (h : (execOp a.eval o).run P W = .ok (.value w) W') (k : next (a.put o.dst w) W') :
    o.wpIn F n P a W next Q := by
  refine ⟨fun f _ => hF.fn f, ?_⟩
  rw [Oper.semAt_eq _ _ _ hnd, h]; exact k
theorem wp_skip {W' : World} {next : Act → World → Prop} {Q : Exit → Act → World → Prop} (hF : FOk F) (hnd : ∀ c, o.op ≠ .defer c) (h : (execOp a.eval o).run P W = .ok .skip W') (k : next (a.put o.dst undef) W') :
    o.wpIn F n P a W next Q := by
  refine ⟨fun f _ => hF.fn f, ?_⟩
  rw [Oper.semAt_eq _ _ _ hnd, h]; exact k

def Gives (P : Program) (B : Base) (o : Oper) (a : Act) (W : World) (st' : St) : Prop :=
  ∃ w W' I' m', (execOp a.eval o).run P W = .ok (.value w) W' ∧ Sim B W' I' m' st' (aput a.tmps o.dst w)

theorem rel_ev (h : Sim B W I m st a.tmps) (x : Operand) : Rel W I m (ev st.fr x) (a.eval x) := by
  cases x with
  | tmp t =>
    simp only [ev, Act.eval]
    rcases hx : st.fr[t]? with _ | v
    · rw [List.getD_eq_getElem?_getD, hx]; exact .any
    · rw [getD_of_get hx]; exact h.fr t v hx
  | const v => exact rel_const v
  | global g => exact .any
  | func f => exact .fn (by rfl) (by simp)

theorem gives_put (h : Sim B W I m st a.tmps) {v : V} {w : Value} (hr : Rel W I m v w) (hrun : (execOp a.eval o).run P W = .ok (.value w) W) : Gives P B o a W (st.put o.dst v) :=
  ⟨w, W, I, m, hrun, h.put o.dst hr⟩

theorem rel_bool_inv {b : Bool} {w : Value} (h : Rel W I m (.bool b) w) : w = .bool b := by cases h; rfl
theorem rel_int_inv {k : IntKind} {i : Int} {w : Value} (h : Rel W I m (.int k i) w) : w = .int k i := by cases h; rfl
theorem rel_str_inv {s : List UInt8} {w : Value} (h : Rel W I m (.str s) w) : w = .string ⟨s.toArray⟩ := by cases h; rename_i b hb; subst hb; rfl

theorem run_und {t : TypeId} {d : TypeDesc} (h : P.underlying t = some d) : (underlying t).run P W = .ok d W := run_underlying h W

theorem one_of_rel {v : V} {w : Value} (h : Rel W I m v w) (hv : cellsV v = some [v]) : w.oneCell' = true := by
  cases h <;> first | rfl | (simp [cellsV] at hv; done) | skip
  simp only [cellsV, Option.some.injEq] at hv
  have := congrArg SizeOf.sizeOf hv
  simp at this
  omega

theorem cells_one {w : Value} (h : w.oneCell' = true) : w.cells = #[w] := by cases w <;> simp_all [Value.oneCell', Value.cells]

theorem rel_cells {v : V} {w : Value} {cs : List V} (h : Rel W I m v w) (hc : cellsV v = some cs) :
    w.cells.size = cs.length ∧ (∀ (j : Nat) (x : V), cs[j]? = some x → (w.cells.getD j undef).oneCell' = true) ∧ ∀ (j : Nat) (x : V), cs[j]? = some x → Rel W I m x (w.cells.getD j undef) := by
  have one : ∀ v : V, cellsV v = some [v] → Rel W I m v w → w.cells.size = [v].length ∧ (∀ (j : Nat) (x : V), [v][j]? = some x → (w.cells.getD j undef).oneCell' = true) ∧ ∀ (j : Nat) (x : V), [v][j]? = some x → Rel W I m x (w.cells.getD j undef) := fun v hv hr => by
    have h1 := one_of_rel hr hv
    rw [cells_one h1]
    refine ⟨rfl, fun j x hx => ?_, fun j x hx => ?_⟩ <;> cases j with
    | zero => simp at hx; subst hx; first | exact h1 | exact hr
    | succ j => simp at hx
  cases v with
  | any => simp [cellsV] at hc
  | tup vs => simp [cellsV] at hc
  | agg vs =>
    simp only [cellsV, Option.some.injEq] at hc
    subst hc
    cases h with
    | agg hl h1 hr => exact ⟨hl, h1, hr⟩
  | _ => simp only [cellsV, Option.some.injEq] at hc; subst hc; exact one _ rfl h

theorem toList_eq (s : List UInt8) : (⟨s.toArray⟩ : ByteArray).toList = s := by
  exact ByteArray.toList_mk s

theorem bytesLt_eq (x y : List UInt8) : Op.bytesLess x y = bytesLt x y := by
  induction x generalizing y with
  | nil => cases y <;> rfl
  | cons a x ih => cases y with
    | nil => rfl
    | cons b y => simp [Op.bytesLess, bytesLt, ih]

theorem run_strOp {op : BinOp} {x y : List UInt8} {v : V} (h : strOp op x y = some v) : ∃ w, (Op.stringOp op ⟨x.toArray⟩ ⟨y.toArray⟩).run P W = .ok w W ∧ Rel W I m v w := by
  unfold strOp at h
  unfold Op.stringOp
  simp only [toList_eq, bytesLt_eq]
  split at h <;> try (cases h; done)
  · split at h
    · rename_i hle
      cases h
      have hs : ¬ (((⟨x.toArray⟩ : ByteArray).size + (⟨y.toArray⟩ : ByteArray).size : Nat) : Int) > IntKind.i64.max := by
        have e1 : (⟨x.toArray⟩ : ByteArray).size = x.length := by simp [ByteArray.size]
        have e2 : (⟨y.toArray⟩ : ByteArray).size = y.length := by simp [ByteArray.size]
        rw [e1, e2]
        have : IntKind.i64.max = 9223372036854775807 := by decide
        rw [this]
        simp only [strMax] at hle
        omega
      simp only [hs, if_false]
      exact ⟨_, rfl, .str (by simp [ByteArray.data_append])⟩
    · cases h
  all_goals (cases h; exact ⟨_, rfl, .bool⟩)

theorem run_intOp {op : BinOp} {k : IntKind} {x y : Int} {v : V} (h : intOp op k x y = some v) :
    ∃ w, (match op with | .add | .sub | .mul => Op.intArith op k x y | .quo | .rem => Op.intDiv op k x y | .and | .or | .xor | .andNot => Op.intBits op k x y | _ => Op.intCmp op x y).run P W = .ok w W ∧ Rel W I m v w := by
  unfold intOp at h
  split at h <;> try (cases h; done)
  · cases h; exact ⟨_, rfl, .int⟩
  · cases h; exact ⟨_, rfl, .int⟩
  · cases h; exact ⟨_, rfl, .int⟩
  · split at h
    · cases h
    · rename_i hy; cases h; simp only [Op.intDiv, if_neg hy]; exact ⟨_, rfl, .int⟩
  · split at h
    · cases h
    · rename_i hy; cases h; simp only [Op.intDiv, if_neg hy]; exact ⟨_, rfl, .int⟩
  · cases h; exact ⟨_, rfl, .int⟩
  · cases h; exact ⟨_, rfl, .int⟩
  · cases h; exact ⟨_, rfl, .int⟩
  · cases h; exact ⟨_, rfl, .int⟩
  all_goals (cases h; exact ⟨_, rfl, .bool⟩)

theorem run_shiftOp {op : BinOp} {k : IntKind} {x y : Int} {v : V} (h : shiftOp op k x y = some v) : ∃ w, (∀ yk, (Op.shift op k x yk y).run P W = .ok w W) ∧ Rel W I m v w := by
  unfold shiftOp at h
  split at h
  · cases h
  · rename_i hy
    unfold Op.shift
    simp only [if_neg hy]
    split at h <;> try (cases h; done)
    · cases h; exact ⟨_, fun _ => rfl, .int⟩
    · cases h; exact ⟨_, fun _ => rfl, .int⟩

theorem isAgg_run {t : TypeId} {ti : TI} {i : TypeInfo} {d : TypeDesc} {z : Value} (h : TyOk P t ti i d z) : (isAgg t).run P W = .ok ti.k.isAgg W := by
  have hk := h.kind
  simp only [isAgg, Sem.run_bind, run_und h.und, Result.andThen_ok]
  cases hk' : ti.k <;> rw [hk'] at hk <;> cases d <;> simp_all [KOk, K.isAgg]

theorem sizeOf_run {t : TypeId} {ti : TI} {i : TypeInfo} {d : TypeDesc} {z : Value} (h : TyOk P t ti i d z) : (sizeOf t).run P W = .ok ti.size W := by
  simp [sizeOf, typeInfo, h.info, h.size]

theorem getD_arr {a : Array Value} {j : Nat} {v : Value} (h : a[j]? = some v) : a.getD j undef = v := by simp [Array.getD_eq_getD_getElem?, h]
theorem get_of_lt {a : Array Value} {j : Nat} (h : j < a.size) : a[j]? = some (a.getD j undef) := by simp [Array.getD_eq_getD_getElem?, Array.getElem?_eq_getElem h]

theorem rel_mk {ti : TI} {cs : List V} {v : V} {f : Nat → Value} (hv : mkV ti.k.isAgg cs = some v) (hl : cs.length = ti.size) (h1 : ∀ (j : Nat) (x : V), cs[j]? = some x → (f j).oneCell' = true)
    (hr : ∀ (j : Nat) (x : V), cs[j]? = some x → Rel W I m x (f j)) : Rel W I m v (if ti.k.isAgg then .agg ((List.range ti.size).map f).toArray else f 0) := by
  unfold mkV at hv
  cases hk : ti.k.isAgg with
  | true =>
    rw [hk] at hv
    simp only [if_true, Option.some.injEq] at hv ⊢
    subst hv
    have e : ∀ (j : Nat) (x : V), cs[j]? = some x → ((List.range ti.size).map f).toArray.getD j undef = f j := fun j x hx => by
      have : j < ti.size := by rw [← hl]; exact (List.getElem?_eq_some_iff.1 hx).1
      exact getD_arr (by simp [this])
    exact .agg (by simp [hl]) (fun j x hx => by rw [e j x hx]; exact h1 j x hx) fun j x hx => by rw [e j x hx]; exact hr j x hx
  | false =>
    rw [hk] at hv
    simp only [Bool.false_eq_true, if_false] at hv ⊢
    split at hv
    · cases hv; exact hr 0 _ rfl
    · cases hv

theorem run_loadVar_f {t : TypeId} {ti : TI} {i : TypeInfo} {d : TypeDesc} {z : Value} (h : TyOk P t ti i d z) {g off : Nat} {f : Nat → Value} {cs : List V} {v : V} (hv : mkV ti.k.isAgg cs = some v) (hl : cs.length = ti.size)
    (hc : ∀ j, j < ti.size → W.cell? ⟨g, off + j, none⟩ = some (f j)) : (loadVar t ⟨g, off, none⟩).run P W = .ok (if ti.k.isAgg then .agg ((List.range ti.size).map f).toArray else f 0) W := by
  unfold loadVar
  simp only [Sem.run_bind, isAgg_run h, Result.andThen_ok]
  cases hk : ti.k.isAgg with
  | true =>
    simp only [if_true, Sem.run_bind, sizeOf_run h, Result.andThen_ok]
    have := run_loadCells_list (P := P) W ⟨g, off, none⟩ ((List.range ti.size).map f) (fun j v hj => by
      simp only [List.getElem?_map, Option.map_eq_some_iff] at hj
      obtain ⟨q, hq, rfl⟩ := hj
      have hq' := List.getElem?_eq_some_iff.1 hq
      obtain ⟨hlt, rfl⟩ := hq'
      have : (⟨g, off, none⟩ : Addr).add j = ⟨g, off + j, none⟩ := by unfold Addr.add; split <;> simp_all
      rw [this]
      simp only [List.getElem_range]
      exact hc j (by simpa using hlt))
    simp only [List.length_map, List.length_range] at this
    rw [this]
    rfl
  | false =>
    rw [hk] at hv
    simp only [Bool.false_eq_true, if_false]
    have : 0 < ti.size := by
      unfold mkV at hv
      simp only [Bool.false_eq_true, if_false] at hv
      split at hv
      · rw [← hl]; simp
      · cases hv
    have := hc 0 this
    simp only [Nat.add_zero] at this
    simp [run_load, this]

theorem run_part_f {t : TypeId} {ti : TI} {i : TypeInfo} {d : TypeDesc} {z : Value} (h : TyOk P t ti i d z) {arr : Array Value} {off : Nat} {cs : List V} {v : V} (hv : mkV ti.k.isAgg cs = some v) (hl : cs.length = ti.size)
    (hsz : off + ti.size ≤ arr.size) : (part t arr off).run P W = .ok (if ti.k.isAgg then .agg ((List.range ti.size).map fun j => arr.getD (off + j) undef).toArray else arr.getD (off + 0) undef) W := by
  unfold part
  simp only [Sem.run_bind, isAgg_run h, Result.andThen_ok]
  cases hk : ti.k.isAgg with
  | true =>
    simp only [if_true, Sem.run_bind, sizeOf_run h, Result.andThen_ok, Sem.run_pure]
    congr 2
    refine Array.ext (by simp; omega) fun j h1 h2 => ?_
    simp only [Array.size_extract] at h1
    simp only [List.getElem_toArray, List.getElem_map, List.getElem_range, Array.getElem_extract]
    exact (getD_arr (Array.getElem?_eq_getElem (by omega))).symm
  | false =>
    rw [hk] at hv
    have : 0 < ti.size := by
      unfold mkV at hv
      simp only [Bool.false_eq_true, if_false] at hv
      split at hv
      · rw [← hl]; simp
      · cases hv
    simp only [Bool.false_eq_true, if_false]
    rw [get_of_lt (by omega)]
    rfl

theorem take_drop_get {cs : List V} {off sz j : Nat} {x : V} (h : ((cs.drop off).take sz)[j]? = some x) : j < sz ∧ cs[off + j]? = some x := by
  rw [List.getElem?_take] at h
  split at h
  · rw [List.getElem?_drop] at h; exact ⟨by assumption, h⟩
  · cases h

theorem eqT_sim (hok : cfg.Ok P) : ∀ (d D : Nat) (t : TypeId) (x y : V) (b : Bool) (vx vy : Value), d ≤ D → eqT cfg d t x y = some b → Rel W I m x vx → Rel W I m y vy → (Op.equalIn D t vx vy).run P W = .ok b W := by
  intro d
  induction d with
  | zero => intro D t x y b vx vy _ h; simp [eqT] at h
  | succ d ih =>
    intro D t x y b vx vy hD h hx hy
    obtain ⟨D, rfl⟩ : ∃ D', D = D' + 1 := ⟨D - 1, by omega⟩
    have hfs : ∀ (fs : List (Nat × TypeId)) (fields : List Field) (xs ys : List V) (ax ay : Array Value) (b : Bool), fs = fields.map (fun f => (f.offset, f.type)) → (∀ f ∈ fields, (f.name == "_") = false) →
        eqFs cfg (eqT cfg d) fs xs ys = some b → Rel W I m (.agg xs) (.agg ax) → Rel W I m (.agg ys) (.agg ay) → (Op.eqFields D ax ay fields).run P W = .ok b W := by
      intro fs fields
      induction fields generalizing fs with
      | nil => intro xs ys ax ay b hfs _ h _ _; subst hfs; simp [eqFs] at h; subst h; simp [Op.eqFields]
      | cons f r ihf =>
        intro xs ys ax ay b hfs hn h hx hy
        subst hfs
        simp only [List.map_cons, eqFs] at h
        split at h
        · cases h
        · rename_i ti hti
          obtain ⟨i, dd, z, hT⟩ := hok.ty _ _ hti
          split at h
          · rename_i hle
            split at h
            · rename_i va vb hva hvb
              cases hx with
              | agg hlx h1x hrx =>
                cases hy with
                | agg hly h1y hry =>
                  have part_of : ∀ (cs : List V) (arr : Array Value) (v : V), arr.size = cs.length → (∀ (j : Nat) (x : V), cs[j]? = some x → (arr.getD j undef).oneCell' = true) → (∀ (j : Nat) (x : V), cs[j]? = some x → Rel W I m x (arr.getD j undef)) →
                      mkV ti.k.isAgg ((cs.drop f.offset).take ti.size) = some v → f.offset + ti.size ≤ cs.length → ∃ w, (part f.type arr f.offset).run P W = .ok w W ∧ Rel W I m v w := fun cs arr v hl h1 hr hv hle => by
                    have hl' : ((cs.drop f.offset).take ti.size).length = ti.size := by simp; omega
                    refine ⟨_, run_part_f hT hv hl' (by omega), ?_⟩
                    exact rel_mk (W := W) (I := I) (m := m) (f := fun j => arr.getD (f.offset + j) undef) hv hl' (fun j x hx => h1 _ x (take_drop_get hx).2) fun j x hx => hr _ x (take_drop_get hx).2
                  obtain ⟨wa, hwa, hra⟩ := part_of xs _ va hlx h1x hrx hva hle.1
                  obtain ⟨wb, hwb, hrb⟩ := part_of ys _ vb hly h1y hry hvb hle.2
                  have hn0 : f.name ≠ "_" := by have := hn f (by simp); simpa using this
                  split at h
                  · rename_i e heq
                    split at h
                    · rename_i e' heq'
                      simp only [Option.some.injEq] at h
                      subst h
                      have e1 := ih D f.type va vb e wa wb (by omega) heq hra hrb
                      have e2 := ihf _ xs ys _ _ e' rfl (fun f hf => hn f (by simp [hf])) heq' (.agg hlx h1x hrx) (.agg hly h1y hry)
                      rw [Op.eqFields]
                      simp only [if_pos hn0, Sem.run_bind, hwa, hwb, e1, Result.andThen_ok]
                      cases e
                      · simp
                      · simpa using e2
                    · cases h
                  · cases h
            · cases h
          · cases h
    rw [eqT.eq_def] at h
    simp only at h
    have kind : ∀ k, (cfg.ty t).map TI.k = some k → ∃ dd, P.underlying t = some dd ∧ KOk P t k dd := fun k hk => by
      obtain ⟨ti, hti, rfl⟩ := Option.map_eq_some_iff.1 hk
      obtain ⟨i, dd, z, hT⟩ := hok.ty _ _ hti
      exact ⟨dd, hT.und, hT.kind⟩
    split at h <;> try (cases h; done)
    · rename_i hk
      obtain ⟨dd, hu, hd⟩ := kind _ hk
      rw [rel_bool_inv hx, rel_bool_inv hy]
      cases dd <;> simp [KOk] at hd
      cases h
      simp [Op.equalIn, run_und hu]
    · rename_i hk
      obtain ⟨dd, hu, hd⟩ := kind _ hk
      rw [rel_int_inv hx, rel_int_inv hy]
      cases dd <;> simp [KOk] at hd
      split at h
      · rename_i hkk
        cases h
        simp [Op.equalIn, run_und hu, hkk]
      · cases h
    · rename_i hk
      obtain ⟨dd, hu, hd⟩ := kind _ hk
      rw [rel_str_inv hx, rel_str_inv hy]
      cases dd <;> simp [KOk] at hd
      cases h
      simp only [Op.equalIn, Sem.run_bind, run_und hu, Result.andThen_ok, Sem.run_pure, beq_toListBytes, toList_eq]
    · rename_i hk
      obtain ⟨dd, hu, hd⟩ := kind _ hk
      cases hx; cases hy
      cases dd <;> simp [KOk] at hd
      cases h
      simp [Op.equalIn, run_und hu]
    · rename_i hk
      obtain ⟨dd, hu, hd⟩ := kind _ hk
      cases hx; cases hy
      cases dd <;> simp [KOk] at hd
      cases h
      simp [Op.equalIn, run_und hu]
    · rename_i hk
      obtain ⟨dd, hu, hd⟩ := kind _ hk
      cases hx; cases hy
      cases dd <;> simp [KOk] at hd
      cases h
      simp [Op.equalIn, run_und hu]
    · rename_i hk
      obtain ⟨dd, hu, hd⟩ := kind _ hk
      cases hx; cases hy
      cases dd <;> simp [KOk] at hd
      cases h
      simp [Op.equalIn, run_und hu]
    · rename_i hk
      obtain ⟨dd, hu, hd⟩ := kind _ hk
      cases hx; cases hy
      cases dd <;> simp [KOk] at hd
      cases h
      simp [Op.equalIn, run_und hu]
    · rename_i hk
      obtain ⟨dd, hu, hd⟩ := kind _ hk
      split at h
      · rename_i hc
        cases h
        obtain ⟨rfl, rfl, hs⟩ := hc
        obtain ⟨te, hte⟩ := Option.isSome_iff_exists.1 hs
        obtain ⟨ie, de, ze, Te⟩ := hok.ty _ _ hte
        cases hx with
        | ptr h1 =>
          cases hy with
          | ptr h2 =>
            rw [h1] at h2; cases h2
            cases dd <;> simp [KOk] at hd
            subst hd
            simp [Op.equalIn, run_und hu, sizeOf_run Te, run_sameAddr_same]
      · cases h
    · rename_i hk
      obtain ⟨dd, hu, hd⟩ := kind _ hk
      cases hx; cases hy
      cases dd <;> simp [KOk] at hd
      cases h
      simp [Op.equalIn, run_und hu]
    · rename_i hk
      obtain ⟨dd, hu, hd⟩ := kind _ hk
      cases hx; cases hy
      cases dd <;> simp [KOk] at hd
      cases h
      simp [Op.equalIn, run_und hu]
    · rename_i hk
      obtain ⟨dd, hu, hd⟩ := kind _ hk
      cases hx; cases hy
      cases dd <;> simp [KOk] at hd
      cases h
      simp [Op.equalIn, run_und hu]
    · rename_i hk
      obtain ⟨dd, hu, hd⟩ := kind _ hk
      cases hx; cases hy
      cases dd <;> simp [KOk] at hd
      cases h
      simp [Op.equalIn, run_und hu]
    · rename_i hk
      obtain ⟨dd, hu, hd⟩ := kind _ hk
      cases hx; cases hy
      cases dd <;> simp [KOk] at hd
      cases h
      simp [Op.equalIn, run_und hu]
    · rename_i hk
      obtain ⟨dd, hu, hd⟩ := kind _ hk
      cases hx; cases hy
      cases dd <;> simp [KOk] at hd
      cases h
      simp [Op.equalIn, run_und hu]
    · rename_i fs xs ys hk
      obtain ⟨dd, hu, hd⟩ := kind _ hk
      cases hx with
      | agg hlx h1x hrx =>
        cases hy with
        | agg hly h1y hry =>
          cases dd <;> simp only [KOk] at hd
          rename_i fields
          obtain ⟨hfs', hd⟩ := hd
          obtain ⟨hn, hp, _⟩ := hd trivial
          have hf : P.fieldsOf t = fields := by simp [Program.fieldsOf, hu]
          rw [run_equalIn_struct (P := P) W D t _ _ (by rw [hf]; exact hu) hp, hf]
          exact hfs fs fields.toList xs ys _ _ b hfs' hn h (.agg hlx h1x hrx) (.agg hly h1y hry)

theorem run_eqGuard {op : BinOp} {t : TypeId} {x y : Operand} {va vb : Value} (h1 : va ≠ .nilIface) (h2 : (∃ xs ys, va = .agg xs ∧ vb = .agg ys) → P.eqGuardType P.depth t = false) :
    (eqGuard op t x y va vb).run P W = .ok () W := by
  cases op <;> simp only [eqGuard, Bool.not_true, Bool.not_false, if_true, if_false, Bool.false_eq_true] <;> first
    | rfl
    | (split
       · exact absurd rfl h1
       · simp [h2 ⟨_, _, rfl, rfl⟩]
       · rfl)

theorem rel_not_nilIface {v : V} {w : Value} (h : Rel W I m v w) (hv : v ≠ .any) : w ≠ .nilIface := by
  cases h <;> first | (exact absurd rfl hv) | (intro e; cases e)

theorem eqT_shape {t : TypeId} {x y : V} {b : Bool} (h : eqT cfg 20 t x y = some b) : x ≠ .any ∧ y ≠ .any ∧ ((∃ xs, x = .agg xs) → ∃ fs, (cfg.ty t).map TI.k = some (.struct true fs)) := by
  rw [eqT.eq_def] at h
  simp only at h
  split at h <;> first | (cases h; done) | (refine ⟨by simp, by simp, fun ⟨xs, e⟩ => ?_⟩; first | (cases e; done) | exact ⟨_, by assumption⟩)

theorem eqT_run (hok : cfg.Ok P) {op : BinOp} {t : TypeId} {X Y : Operand} {x y : V} {b : Bool} {vx vy : Value} (h : eqT cfg 20 t x y = some b) (hx : Rel W I m x vx) (hy : Rel W I m y vy) :
    (eqGuard op t X Y vx vy).run P W = .ok () W ∧ (Op.equal t vx vy).run P W = .ok b W := by
  obtain ⟨h1, _, h2⟩ := eqT_shape h
  refine ⟨run_eqGuard (rel_not_nilIface hx h1) ?_, eqT_sim hok 20 Op.maxDepth t x y b vx vy (by decide) h hx hy⟩
  rintro ⟨xs, ys, rfl, rfl⟩
  have : ∃ xs, x = .agg xs := by cases hx with
    | any => exact absurd rfl h1
    | agg => exact ⟨_, rfl⟩
  obtain ⟨fs, hk⟩ := h2 this
  obtain ⟨ti, hti, hk'⟩ := Option.map_eq_some_iff.1 hk
  obtain ⟨i, dd, z, hT⟩ := hok.ty _ _ hti
  have := hT.kind
  rw [hk'] at this
  cases dd <;> simp only [KOk] at this
  exact (this.2 trivial).2.2

theorem run_binOpV (hok : cfg.Ok P) {op : BinOp} {t : TypeId} {X Y : Operand} {x y v : V} {vx vy : Value} (h : binOpV cfg op t x y = some v) (hx : Rel W I m x vx) (hy : Rel W I m y vy) :
    ∃ w, (do eqGuard op t X Y vx vy; binOp op t vx vy : Sem Value).run P W = .ok w W ∧ Rel W I m v w := by
  unfold binOpV at h
  split at h
  · rw [rel_int_inv hx, rel_int_inv hy]
    obtain ⟨w, hw, hr⟩ := run_shiftOp (P := P) (W := W) (I := I) (m := m) h
    exact ⟨w, by simp [eqGuard, binOp, hw], hr⟩
  · rw [rel_int_inv hx, rel_int_inv hy]
    obtain ⟨w, hw, hr⟩ := run_shiftOp (P := P) (W := W) (I := I) (m := m) h
    exact ⟨w, by simp [eqGuard, binOp, hw], hr⟩
  · rw [rel_int_inv hx, rel_int_inv hy]
    split at h
    · rename_i hk
      subst hk
      obtain ⟨w, hw, hr⟩ := run_intOp (P := P) (W := W) (I := I) (m := m) h
      refine ⟨w, ?_, hr⟩
      have hg : ∀ (op' : BinOp) (k k' : IntKind) (a b : Int), (eqGuard op' t X Y (.int k a) (.int k' b)).run P W = .ok () W := fun op' k k' a b => run_eqGuard (by simp) (by rintro ⟨_, _, e, _⟩; cases e)
      simp only [Sem.run_bind, hg, Result.andThen_ok]
      cases op <;> simp_all [binOp, intOp]
    · cases h
  · rw [rel_str_inv hx, rel_str_inv hy]
    obtain ⟨w, hw, hr⟩ := run_strOp (P := P) (W := W) (I := I) (m := m) h
    refine ⟨w, ?_, hr⟩
    have hg : ∀ (op' : BinOp) (a b : ByteArray), (eqGuard op' t X Y (.string a) (.string b)).run P W = .ok () W := fun op' a b => run_eqGuard (by simp) (by rintro ⟨_, _, e, _⟩; cases e)
    simp only [Sem.run_bind, hg, Result.andThen_ok]
    cases op <;> simpa [binOp] using hw
  · rename_i hni hns
    obtain ⟨b, hb, rfl⟩ := Option.map_eq_some_iff.1 h
    obtain ⟨h1, h2⟩ := eqT_run (X := X) (Y := Y) (op := .eql) hok hb hx hy
    refine ⟨.bool b, ?_, .bool⟩
    simp only [Sem.run_bind, h1, Result.andThen_ok]
    have hx0 := (eqT_shape hb).1
    have hy0 := (eqT_shape hb).2.1
    cases hx <;> first | (exact absurd rfl hx0) | skip
    all_goals cases hy <;> first | (exact absurd rfl hy0) | (simp [binOp, h2]; done) | (exact absurd rfl (hni _ _ _ _ rfl)) | (exact absurd rfl (hns _ _ rfl)) | skip
  · rename_i hni hns
    obtain ⟨b, hb, rfl⟩ := Option.map_eq_some_iff.1 h
    obtain ⟨h1, h2⟩ := eqT_run (X := X) (Y := Y) (op := .neq) hok hb hx hy
    refine ⟨.bool !b, ?_, .bool⟩
    simp only [Sem.run_bind, h1, Result.andThen_ok]
    have hx0 := (eqT_shape hb).1
    have hy0 := (eqT_shape hb).2.1
    cases hx <;> first | (exact absurd rfl hx0) | skip
    all_goals cases hy <;> first | (exact absurd rfl hy0) | (simp [binOp, h2]; done) | (exact absurd rfl (hni _ _ _ _ rfl)) | (exact absurd rfl (hns _ _ rfl)) | skip
  · cases h

end Go.Abs
/-! The operations that read: what the interpreter says of them is what the model does. -/
namespace Go.Abs
variable [BT] {F : Fence} {n : Nat} {P : Program} {cfg : Cfg} {B : Base} {W : World} {I : Nat → Nat → Prop} {m : List (Option Nat)} {st st' : St} {a : Act} {o : Oper}

theorem Cfg.Ok.kind (hok : cfg.Ok P) {t : TypeId} {k : K} (hk : (cfg.ty t).map TI.k = some k) : ∃ d, P.underlying t = some d ∧ KOk P t k d := by
  obtain ⟨ti, hti, rfl⟩ := Option.map_eq_some_iff.1 hk
  obtain ⟨i, d, z, hT⟩ := hok.ty _ _ hti
  exact ⟨d, hT.und, hT.kind⟩

theorem kok_slice {t : TypeId} {e : TypeId} {d : TypeDesc} (h : KOk P t (.slice e) d) : d = .slice e := by
  cases d <;> simp [KOk] at h
  subst h; rfl
theorem kok_array {t : TypeId} {n : Nat} {e : TypeId} {d : TypeDesc} (h : KOk P t (.array n e) d) : d = .array n e := by
  cases d <;> simp [KOk] at h
  obtain ⟨rfl, rfl⟩ := h; rfl
theorem kok_str {t : TypeId} {d : TypeDesc} (h : KOk P t .str d) : d = .string := by
  cases d <;> simp [KOk] at h
  rfl
theorem kok_int {t : TypeId} {k : IntKind} {d : TypeDesc} (h : KOk P t (.int k) d) : d = .int k := by
  cases d <;> simp [KOk] at h
  subst h; rfl
theorem kok_struct {t : TypeId} {eq : Bool} {fs : List (Nat × TypeId)} {d : TypeDesc} (h : KOk P t (.struct eq fs) d) : ∃ fields, d = .struct fields ∧ fs = fields.toList.map fun f => (f.offset, f.type) := by
  cases d <;> simp only [KOk] at h
  exact ⟨_, rfl, h.1⟩

theorem run_unOpV {op : UnOp} {x v : V} {vx : Value} (h : unOpV op x = some v) (hx : Rel W I m x vx) : ∃ w, (Op.unary op vx).run P W = .ok w W ∧ Rel W I m v w := by
  unfold unOpV at h
  split at h <;> try (cases h; done)
  · rw [rel_int_inv hx]; cases h; exact ⟨_, rfl, .int⟩
  · rw [rel_int_inv hx]; cases h; exact ⟨_, rfl, .int⟩
  · rw [rel_bool_inv hx]; cases h; exact ⟨_, rfl, .bool⟩

theorem add_none (g o k : Nat) : (⟨g, o, none⟩ : Addr).add k = ⟨g, o + k, none⟩ := by unfold Addr.add; split <;> simp_all

theorem rel_pc_inv {d : Bool} {cs : List V} {w : Value} (h : Rel W I m (.pc d cs) w) : ∃ (g o : Nat) (f : Nat → Value), w = .pointer (some ⟨g, o, none⟩) ∧
    (∀ (j : Nat) (x : V), cs[j]? = some x → I g (o + j) ∧ W.cell? ⟨g, o + j, none⟩ = some (f j) ∧ (f j).oneCell' = true) ∧ ∀ (j : Nat) (x : V), cs[j]? = some x → Rel W I (if d then [] else m) x (f j) := by
  cases h with
  | pc hc hr => exact ⟨_, _, _, rfl, hc, hr⟩

theorem ite_pre (d : Bool) (m : List (Option Nat)) : (if d then [] else m) <+: m := by cases d <;> simp

theorem Rel.up {v : V} {w : Value} {d : Bool} (h : Rel W I (if d then [] else m) v w) : Rel W I m v w := h.mono (fun _ _ h => h) (KeepI.refl _ _) (ite_pre d m)

theorem Sim.blkAt (h : Sim B W I m st a.tmps) {id : Nat} {t : TypeId} {ow : List Nat} {cs : List V} (hb : st.hp[id]? = some (.cells t ow cs)) {g : Nat} (hg : m[id]? = some (some g)) :
    ∃ arr, W.heap[g]? = some (.cells arr t (0, 0)) ∧ (cs.length ≤ arr.size ∧ (BT.solo t → arr.size = cs.length)) ∧ (∀ (j : Nat) (x : V), cs[j]? = some x → (arr.getD j undef).oneCell' = true) ∧ ∀ (j : Nat) (x : V), cs[j]? = some x → Rel W I m x (arr.getD j undef) := by
  obtain ⟨x, hx, hb'⟩ := h.blk id _ hb
  rw [hg] at hx; cases hx
  cases hb' with
  | cells h1 h2 h3 h4 => exact ⟨_, h1, h2, h3, h4⟩

theorem run_loadV (hok : cfg.Ok P) (h : Sim B W I m st a.tmps) {t : TypeId} {p v : V} {vp : Value} (hv : loadV cfg st.hp t p = some v) (hp : Rel W I m p vp) : ∃ w, (Instr.loadAt t vp).run P W = .ok w W ∧ Rel W I m v w := by
  unfold loadV at hv
  split at hv
  · cases hv
  · rename_i ti hti
    obtain ⟨i, d, z, hT⟩ := hok.ty _ _ hti
    split at hv
    · rename_i dd cs
      split at hv
      · rename_i hle
        obtain ⟨g, o, f, rfl, hc, hr⟩ := rel_pc_inv hp
        have hl : (cs.take ti.size).length = ti.size := by simp; omega
        have hget : ∀ {j : Nat} {x : V}, (cs.take ti.size)[j]? = some x → cs[j]? = some x := fun {j x} hj => by
          rw [List.getElem?_take] at hj; split at hj
          · exact hj
          · cases hj
        have hrun := run_loadVar_f (P := P) (W := W) hT (g := g) (off := o) (f := f) hv hl fun j hj => (hc j cs[j] (List.getElem?_eq_getElem (by omega))).2.1
        exact ⟨_, by simp [Instr.loadAt, Instr.sureAddr, hrun], rel_mk hv hl (fun j x hx => (hc j x (hget hx)).2.2) fun j x hx => (hr j x (hget hx)).up⟩
      · cases hv
    · rename_i id off
      split at hv
      · rename_i ow cs hb
        split at hv
        · rename_i hle
          cases hp with
          | @ptr _ _ _ g hg =>
            obtain ⟨arr, hw, hs, h1, hr⟩ := h.blkAt hb hg
            have hl : ((cs.drop off).take ti.size).length = ti.size := by simp; omega
            have hrun := run_loadVar_f (P := P) (W := W) hT (g := g) (off := off) (f := fun j => arr.getD (off + j) undef) hv hl fun j hj => by
              rw [cell_of_blk hw]; exact get_of_lt (by omega)
            exact ⟨_, by simp [Instr.loadAt, Instr.sureAddr, hrun], rel_mk hv hl (fun j x hx => h1 _ x (take_drop_get hx).2) fun j x hx => hr _ x (take_drop_get hx).2⟩
        · cases hv
      · cases hv
    · cases hv

theorem run_fieldV (hok : cfg.Ok P) {s : TypeId} {p v : V} {i : Nat} {vp : Value} (hv : fieldV cfg s p i = some v) (hp : Rel W I m p vp) : ∃ w, (Instr.fieldAt s vp i).run P W = .ok w W ∧ Rel W I m v w := by
  unfold fieldV at hv
  split at hv
  · rename_i eq fs hk
    obtain ⟨d, hu, hkd⟩ := hok.kind hk
    obtain ⟨fields, rfl, rfl⟩ := kok_struct hkd
    split at hv
    · rename_i off t hf
      simp only [List.getElem?_map, Option.map_eq_some_iff, Array.getElem?_toList] at hf
      obtain ⟨f, hf, he⟩ := hf
      cases he
      split at hv
      · cases hv
      · rename_i hz
        have hsz : ∃ ti, cfg.ty f.type = some ti ∧ ti.size ≠ 0 := by
          rcases ht : cfg.ty f.type with _ | ti
          · simp [ht] at hz
          · exact ⟨ti, rfl, by simpa [ht] using hz⟩
        obtain ⟨ti, hti, hz⟩ := hsz
        obtain ⟨i', d', z', hT⟩ := hok.ty _ _ hti
        split at hv
        · cases hv
          cases hp with
          | ptr hg => exact ⟨_, by simp [Instr.fieldAt, run_und hu, hf, Instr.sureAddr, fieldPlace, sizeOf_run hT, hz, add_none], .ptr hg⟩
        · cases hv
          obtain ⟨g, o, ff, rfl, hc, hr⟩ := rel_pc_inv hp
          refine ⟨.pointer (some ⟨g, o + f.offset, none⟩), by simp [Instr.fieldAt, run_und hu, hf, Instr.sureAddr, fieldPlace, sizeOf_run hT, hz, add_none], .pc (f := fun j => ff (f.offset + j)) (fun j x hx => ?_) fun j x hx => ?_⟩
          · rw [List.getElem?_drop] at hx
            have := hc _ x hx
            rwa [show o + f.offset + j = o + (f.offset + j) by omega]
          · rw [List.getElem?_drop] at hx
            exact hr _ x hx
        · cases hv
    · cases hv
  · cases hv

theorem run_partV (hok : cfg.Ok P) {s : TypeId} {x v : V} {i : Nat} {vx : Value} (hv : partV cfg s x i = some v) (hx : Rel W I m x vx) : ∃ w, (Instr.field s vx i).run P W = .ok w W ∧ Rel W I m v w := by
  unfold partV at hv
  split at hv
  · rename_i eq fs cs hk
    obtain ⟨d, hu, hkd⟩ := hok.kind hk
    obtain ⟨fields, rfl, rfl⟩ := kok_struct hkd
    split at hv
    · rename_i off t hf
      simp only [List.getElem?_map, Option.map_eq_some_iff, Array.getElem?_toList] at hf
      obtain ⟨f, hf, he⟩ := hf
      cases he
      split at hv
      · rename_i ti hti
        obtain ⟨i', d', z', hT⟩ := hok.ty _ _ hti
        split at hv
        · rename_i hle
          cases hx with
          | @agg _ _ arr hl h1 hr =>
            have hl' : ((cs.drop f.offset).take ti.size).length = ti.size := by simp; omega
            have hrun := run_part_f (P := P) (W := W) hT (arr := arr) (off := f.offset) hv hl' (by omega)
            have hrel := rel_mk (W := W) (I := I) (m := m) (f := fun j => arr.getD (f.offset + j) undef) hv hl' (fun j x hx => h1 _ x (take_drop_get hx).2) fun j x hx => hr _ x (take_drop_get hx).2
            exact ⟨_, by simp only [Instr.field, Sem.run_bind, run_und hu, Result.andThen_ok, hf, asAgg, Sem.run_pure]; exact hrun, hrel⟩
        · cases hv
      · cases hv
    · cases hv
  · cases hv

theorem rel_sl_inv {d : Bool} {xs : List (List V)} {w : Value} (h : Rel W I m (.sl d xs) w) : ∃ (a : Option Addr) (c g o sz : Nat) (f : Nat → Nat → Value), w = .slice a xs.length c ∧ xs.length ≤ c ∧ (xs ≠ [] → a = some ⟨g, o, none⟩) ∧
    (∀ (i : Nat) (row : List V), xs[i]? = some row → row.length = sz) ∧
    (∀ (i : Nat) (row : List V) (j : Nat) (x : V), xs[i]? = some row → row[j]? = some x → I g (o + (i * sz + j)) ∧ W.cell? ⟨g, o + (i * sz + j), none⟩ = some (f i j) ∧ (f i j).oneCell' = true) ∧
    ∀ (i : Nat) (row : List V) (j : Nat) (x : V), xs[i]? = some row → row[j]? = some x → Rel W I (if d then [] else m) x (f i j) := by
  cases h with
  | sl hn hc ha hs hi hr => subst hn; exact ⟨_, _, _, _, _, _, rfl, hc, ha, hs, hi, hr⟩

theorem rel_slice_part {d : Bool} {xs : List (List V)} {g o sz : Nat} {f : Nat → Nat → Value} (hs : ∀ (i : Nat) (row : List V), xs[i]? = some row → row.length = sz)
    (hi : ∀ (i : Nat) (row : List V) (j : Nat) (x : V), xs[i]? = some row → row[j]? = some x → I g (o + (i * sz + j)) ∧ W.cell? ⟨g, o + (i * sz + j), none⟩ = some (f i j) ∧ (f i j).oneCell' = true)
    (hr : ∀ (i : Nat) (row : List V) (j : Nat) (x : V), xs[i]? = some row → row[j]? = some x → Rel W I (if d then [] else m) x (f i j)) {a : Option Addr} (l k c : Nat) (hk : l + k ≤ xs.length) (hc : k ≤ c)
    (ha : 0 < k → a = some ⟨g, o + l * sz, none⟩) : Rel W I m (.sl d ((xs.drop l).take k)) (.slice a k c) := by
  have hget : ∀ {i : Nat} {row : List V}, ((xs.drop l).take k)[i]? = some row → i < k ∧ xs[l + i]? = some row := fun {i row} hi => by
    rw [List.getElem?_take] at hi
    split at hi
    · rw [List.getElem?_drop] at hi; exact ⟨by assumption, hi⟩
    · cases hi
  refine .sl (g := g) (o := o + l * sz) (sz := sz) (f := fun i j => f (l + i) j) (by simp; omega) hc (fun hne => ha ?_) (fun i row h => hs _ row (hget h).2) (fun i row j x h1 h2 => ?_) fun i row j x h1 h2 => hr _ row j x (hget h1).2 h2
  · rcases Nat.eq_zero_or_pos k with h0 | h0
    · subst h0; simp at hne
    · exact h0
  · have := hi _ row j x (hget h1).2 h2
    have e : o + l * sz + (i * sz + j) = o + ((l + i) * sz + j) := by rw [Nat.add_mul]; omega
    rw [e]; exact this

theorem run_indexAddrV (hok : cfg.Ok P) {t : TypeId} {x i v : V} {vx vi : Value} (hv : indexAddrV cfg t x i = some v) (hx : Rel W I m x vx) (hi : Rel W I m i vi) : ∃ w, (Instr.indexAt t vx vi).run P W = .ok w W ∧ Rel W I m v w := by
  unfold indexAddrV at hv
  split at hv
  · rename_i k i
    rw [rel_int_inv hi]
    split at hv
    · cases hv
    · rename_i hneg
      split at hv
      · rename_i e d xs hk
        obtain ⟨dd, hu, hkd⟩ := hok.kind hk
        have := kok_slice hkd; subst this
        split at hv
        · rename_i row hrow
          split at hv
          · rename_i hsz
            cases hv
            obtain ⟨ti, hti, hsz'⟩ := Option.map_eq_some_iff.1 hsz.symm
            obtain ⟨i', d', z', hT⟩ := hok.ty _ _ hti
            obtain ⟨aa, c, g, oo, sz, f, rfl, hc, ha, hs, hi', hr⟩ := rel_sl_inv hx
            have hlt : i.toNat < xs.length := (List.getElem?_eq_some_iff.1 hrow).1
            have hse : sz = ti.size := by rw [← hs _ _ hrow, hsz']
            have haa := ha (by intro h; subst h; simp at hlt)
            subst haa
            have hii : 0 ≤ i ∧ i < (xs.length : Int) := by omega
            refine ⟨.pointer (some ⟨g, oo + i.toNat * ti.size, none⟩), ?_, .pc (f := fun j => f i.toNat j) (fun j x hx => ?_) fun j x hx => hr _ row j x hrow hx⟩
            · simp [Instr.indexAt, asIntOf, run_und hu, hii, sizeOf_run hT, add_none]
            · have := hi' _ row j x hrow hx
              rw [hse] at this
              rwa [Nat.add_assoc]
          · cases hv
        · cases hv
      · rename_i e id off len cap hk
        obtain ⟨dd, hu, hkd⟩ := hok.kind hk
        have := kok_slice hkd; subst this
        split at hv
        · rename_i ti hti
          obtain ⟨i', d', z', hT⟩ := hok.ty _ _ hti
          split at hv
          · rename_i hlt
            cases hv
            cases hx with
            | ms hg hl =>
              have hii : 0 ≤ i ∧ i < (len : Int) := by omega
              exact ⟨_, by simp [Instr.indexAt, asIntOf, run_und hu, hii, sizeOf_run hT, add_none], .ptr hg⟩
          · cases hv
        · cases hv
      · rename_i nn e id off hk
        obtain ⟨dd, hu, hkd⟩ := hok.kind hk
        have := kok_array hkd; subst this
        split at hv
        · rename_i ti hti
          obtain ⟨i', d', z', hT⟩ := hok.ty _ _ hti
          split at hv
          · rename_i hlt
            cases hv
            cases hx with
            | ptr hg =>
              have hii : 0 ≤ i ∧ i < (nn : Int) := by omega
              exact ⟨_, by simp [Instr.indexAt, asIntOf, run_und hu, Instr.sureAddr, hii, sizeOf_run hT, add_none], .ptr hg⟩
          · cases hv
        · cases hv
      · rename_i nn e d cs hk
        obtain ⟨dd, hu, hkd⟩ := hok.kind hk
        have := kok_array hkd; subst this
        split at hv
        · rename_i ti hti
          obtain ⟨i', d', z', hT⟩ := hok.ty _ _ hti
          split at hv
          · rename_i hlt
            cases hv
            obtain ⟨g, oo, f, rfl, hc, hr⟩ := rel_pc_inv hx
            have hii : 0 ≤ i ∧ i < (nn : Int) := by omega
            refine ⟨.pointer (some ⟨g, oo + i.toNat * ti.size, none⟩), by simp [Instr.indexAt, asIntOf, run_und hu, Instr.sureAddr, hii, sizeOf_run hT, add_none], .pc (f := fun j => f (i.toNat * ti.size + j)) (fun j x hx => ?_) fun j x hx => ?_⟩
            · rw [List.getElem?_drop] at hx
              have := hc _ x hx
              rwa [Nat.add_assoc]
            · rw [List.getElem?_drop] at hx
              exact hr _ x hx
          · cases hv
        · cases hv
      · cases hv
  · cases hv

theorem run_indexV (hok : cfg.Ok P) {t : TypeId} {x i v : V} {vx vi : Value} (hv : indexV cfg t x i = some v) (hx : Rel W I m x vx) (hi : Rel W I m i vi) : ∃ w, (Instr.index t vx vi).run P W = .ok w W ∧ Rel W I m v w := by
  unfold indexV at hv
  split at hv
  · rename_i k i
    rw [rel_int_inv hi]
    split at hv
    · cases hv
    · rename_i hneg
      split at hv
      · rename_i s hk
        obtain ⟨dd, hu, hkd⟩ := hok.kind hk
        have := kok_str hkd; subst this
        split at hv
        · rename_i b hb
          cases hv
          rw [rel_str_inv hx]
          have h0 : 0 ≤ i := by omega
          have hb' : (⟨s.toArray⟩ : ByteArray)[i.toNat]? = some b := by
            have hlt := (List.getElem?_eq_some_iff.1 hb).1
            have hlt' : i.toNat < (⟨s.toArray⟩ : ByteArray).size := by simpa [ByteArray.size] using hlt
            rw [getElem?_pos (⟨s.toArray⟩ : ByteArray) i.toNat hlt']
            have := (List.getElem?_eq_some_iff.1 hb).2
            rw [← this]
            rfl
          exact ⟨_, by simp [Instr.index, asIntOf, run_und hu, h0, hb'], .int⟩
        · cases hv
      · rename_i nn e cs hk
        obtain ⟨dd, hu, hkd⟩ := hok.kind hk
        have := kok_array hkd; subst this
        split at hv
        · rename_i ti hti
          obtain ⟨i', d', z', hT⟩ := hok.ty _ _ hti
          split at hv
          · rename_i hlt
            obtain ⟨hlt, hle⟩ := hlt
            cases hx with
            | @agg _ _ arr hl h1 hr =>
              have hii : 0 ≤ i ∧ i < (nn : Int) := by omega
              have hl' : ((cs.drop (i.toNat * ti.size)).take ti.size).length = ti.size := by simp; omega
              have hrun := run_part_f (P := P) (W := W) hT (arr := arr) (off := i.toNat * ti.size) hv hl' (by omega)
              have hrel := rel_mk (W := W) (I := I) (m := m) (f := fun j => arr.getD (i.toNat * ti.size + j) undef) hv hl' (fun j x hx => h1 _ x (take_drop_get hx).2) fun j x hx => hr _ x (take_drop_get hx).2
              exact ⟨_, by simp only [Instr.index, asIntOf, Sem.run_bind, Sem.run_pure, run_und hu, Result.andThen_ok, if_pos hii, sizeOf_run hT]; exact hrun, hrel⟩
          · cases hv
        · cases hv
      · cases hv
  · cases hv

end Go.Abs
/-! Slices, conversions, lengths, literals: what the interpreter says of them is what the model does. -/
namespace Go.Abs
variable [BT] {F : Fence} {n : Nat} {P : Program} {cfg : Cfg} {B : Base} {W : World} {I : Nat → Nat → Prop} {m : List (Option Nat)} {st st' : St} {a : Act} {o : Oper}

inductive ORel (W : World) (I : Nat → Nat → Prop) (m : List (Option Nat)) : Option V → Option Value → Prop
  | none : ORel W I m none none
  | some {v : V} {w : Value} (h : Rel W I m v w) : ORel W I m (some v) (some w)

theorem orel_ev (h : Sim B W I m st a.tmps) (x : Option Operand) : ORel W I m (x.map (ev st.fr)) (x.map a.eval) := by
  cases x with
  | none => exact .none
  | some x => exact .some (rel_ev h x)

theorem run_bound {x : V} {vx : Value} {d most most' k : Nat} {c : BoundsCode} (hb : bound (some x) d most = some k) (hx : Rel W I m x vx) (hm : most ≤ most') : (Instr.sliceBound vx most' c).run P W = .ok k W ∧ k ≤ most := by
  unfold bound at hb
  split at hb
  · rename_i e; cases e
  · rename_i kk i e
    cases e
    rw [rel_int_inv hx]
    split at hb
    · rename_i h
      cases hb
      have h' : 0 ≤ i ∧ i ≤ (most' : Int) := by omega
      exact ⟨by simp [Instr.sliceBound, asIntOf, h'], by omega⟩
    · cases hb
  · cases hb

theorem run_bounds2 {lo hi : Option V} {vlo vhi : Option Value} {isS : Bool} {len cap l h : Nat} (hh : bound hi len len = some h) (hl : bound lo 0 h = some l) (rl : ORel W I m lo vlo) (rh : ORel W I m hi vhi) (hc : len ≤ cap) :
    (Instr.sliceBounds isS len cap vlo vhi none).run P W = .ok (l, h, cap) W ∧ l ≤ h ∧ h ≤ len := by
  have e1 : ∀ c, ((match vhi with | some v => Instr.sliceBound v cap c | none => pure len : Sem Nat)).run P W = .ok h W ∧ h ≤ len := fun c => by
    cases rh with
    | none => simp only [bound, Option.some.injEq] at hh; subst hh; exact ⟨rfl, Nat.le_refl _⟩
    | some r => exact run_bound hh r hc
  have e2 : ∀ c, ((match vlo with | some v => Instr.sliceBound v h c | none => pure 0 : Sem Nat)).run P W = .ok l W ∧ l ≤ h := fun c => by
    cases rl with
    | none => simp only [bound, Option.some.injEq] at hl; subst hl; exact ⟨rfl, Nat.zero_le _⟩
    | some r => exact run_bound hl r (Nat.le_refl _)
  refine ⟨?_, (e2 .index).2, (e1 .index).2⟩
  have e2' := fun c => (e2 c).1
  have e1' := fun c => (e1 c).1
  cases rh with
  | none =>
    cases rl with
    | none => simp_all [Instr.sliceBounds]
    | some r => simp_all [Instr.sliceBounds]
  | some r' =>
    cases rl with
    | none => simp_all [Instr.sliceBounds]
    | some r => simp_all [Instr.sliceBounds]

theorem run_bounds3 {mx h0 : V} {lo : Option V} {vlo : Option Value} {vmx vh : Value} {isS : Bool} {len cap most l h mm d1 d2 : Nat} (hm : bound (some mx) d1 most = some mm) (hh : bound (some h0) d2 mm = some h) (hl : bound lo 0 h = some l)
    (rl : ORel W I m lo vlo) (rh : Rel W I m h0 vh) (rm : Rel W I m mx vmx) (hc : most ≤ cap) : (Instr.sliceBounds isS len cap vlo (some vh) (some vmx)).run P W = .ok (l, h, mm) W ∧ l ≤ h ∧ h ≤ mm ∧ mm ≤ most := by
  have e0 := fun c => run_bound (P := P) (c := c) hm rm hc
  have e1 := fun c => run_bound (P := P) (c := c) hh rh (Nat.le_refl _)
  have e2 : ∀ c, ((match vlo with | some v => Instr.sliceBound v h c | none => pure 0 : Sem Nat)).run P W = .ok l W ∧ l ≤ h := fun c => by
    cases rl with
    | none => simp only [bound, Option.some.injEq] at hl; subst hl; exact ⟨rfl, Nat.zero_le _⟩
    | some r => exact run_bound hl r (Nat.le_refl _)
  refine ⟨?_, (e2 .index).2, (e1 .index).2, (e0 .index).2⟩
  have e0' := fun c => (e0 c).1
  have e1' := fun c => (e1 c).1
  have e2' := fun c => (e2 c).1
  cases rl with
  | none => simp_all [Instr.sliceBounds]
  | some r => simp_all [Instr.sliceBounds]

theorem rows_size {xs : List (List V)} {size sz : Nat} (hf : rowsFit size xs = true) (hs : ∀ (i : Nat) (row : List V), xs[i]? = some row → row.length = sz) (hne : xs ≠ []) : sz = size := by
  cases xs with
  | nil => exact absurd rfl hne
  | cons r xs => rw [← hs 0 r rfl]; simpa [rowsFit] using hf

theorem capZero_of {lo : Option V} {mx : V} {d1 most d2 h mm l : Nat} (hm : bound (some mx) d1 most = some mm) (hl : bound lo 0 h = some l) : capZero lo (some mx) = true → mm = l := by
  intro hc
  unfold capZero at hc
  cases mx <;> simp only [bound] at hm <;> try (cases hm; done)
  rename_i k i
  split at hm
  · cases hm
    cases lo with
    | none => simp [bound] at hl; subst hl; simp at hc; omega
    | some v =>
      cases v <;> simp only [bound] at hl <;> try (cases hl; done)
      split at hl
      · cases hl; simp at hc; omega
      · cases hl
  · cases hm

theorem run_sliceV (hok : cfg.Ok P) {t : TypeId} {x v : V} {lo hi mx : Option V} {vx : Value} {vlo vhi vmx : Option Value} (hv : sliceV cfg t x lo hi mx = some v) (hx : Rel W I m x vx) (rl : ORel W I m lo vlo) (rh : ORel W I m hi vhi) (rm : ORel W I m mx vmx) :
    ∃ w, (Instr.sliceAt t vx vlo vhi vmx).run P W = .ok w W ∧ Rel W I m v w ∧ (isSl v = true → capZero lo mx = true → ∃ a d, v = .sl d [] ∧ w = .slice a 0 0) := by
  unfold sliceV at hv
  split at hv
  · rename_i s hk
    obtain ⟨dd, hu, hkd⟩ := hok.kind hk
    have := kok_str hkd; subst this
    split at hv
    · cases hv
    · cases rm
      split at hv
      · cases hv
      · rename_i h hh
        split at hv
        · cases hv
        · rename_i l hl
          cases hv
          rw [rel_str_inv hx]
          have hs : (⟨s.toArray⟩ : ByteArray).size = s.length := by simp [ByteArray.size]
          obtain ⟨hrun, h1, h2⟩ := run_bounds2 (P := P) (isS := false) (cap := s.length) hh hl rl rh (Nat.le_refl _)
          refine ⟨.string ((⟨s.toArray⟩ : ByteArray).extract l h), ?_, .str ?_, fun h => by simp [isSl] at h⟩
          · simp [Instr.sliceAt, Instr.slice, run_und hu, hs, hrun]
          · have := Lib.extract_toList (⟨s.toArray⟩ : ByteArray) l h
            rw [ByteArray.toList_eq] at this
            simpa using this
  · rename_i e d xs hk
    obtain ⟨dd, hu, hkd⟩ := hok.kind hk
    have := kok_slice hkd; subst this
    split at hv
    · cases hv
    · rename_i ti hti
      obtain ⟨i', d', z', hT⟩ := hok.ty _ _ hti
      split at hv
      · cases hv
      · rename_i hfit
        have hfit : rowsFit ti.size xs = true := by simpa using hfit
        obtain ⟨aa, c, g, oo, sz, f, rfl, hc, ha, hs, hi', hr⟩ := rel_sl_inv hx
        have hsz : xs ≠ [] → sz = ti.size := rows_size hfit hs
        have haddr : ∀ (l h mm : Nat), l ≤ h → h ≤ mm → h ≤ xs.length → 0 < h - l → (if mm = l then aa else aa.map (·.add (l * ti.size))) = some ⟨g, oo + l * sz, none⟩ := fun l h mm h1 h2 h3 h4 => by
          have hne : xs ≠ [] := by intro he; subst he; simp at h3; omega
          rw [if_neg (by omega), ha hne, Option.map_some, add_none, hsz hne]
        split at hv
        · cases rm
          split at hv
          · cases hv
          · rename_i h hh
            split at hv
            · cases hv
            · rename_i l hl
              cases hv
              obtain ⟨hrun, h1, h2⟩ := run_bounds2 (P := P) (isS := true) (cap := c) hh hl rl rh hc
              refine ⟨.slice (if c = l then aa else aa.map (·.add (l * ti.size))) (h - l) (c - l), ?_, rel_slice_part hs hi' hr l (h - l) (c - l) (by omega) (by omega) (fun h0 => haddr l h c h1 (by omega) h2 h0), fun _ hz => by simp [capZero] at hz⟩
              simp [Instr.sliceAt, Instr.slice, run_und hu, hrun, sizeOf_run hT]
        · rename_i mx0
          cases rm with
          | some rm =>
            split at hv
            · cases hv
            · rename_i mm hm
              split at hv
              · cases hv
              · rename_i h0
                cases rh with
                | some rh =>
                  split at hv
                  · cases hv
                  · rename_i h hh
                    split at hv
                    · cases hv
                    · rename_i l hl
                      cases hv
                      obtain ⟨hrun, h1, h2, h3⟩ := run_bounds3 (P := P) (isS := true) (len := xs.length) (cap := c) hm hh hl rl rh rm hc
                      refine ⟨.slice (if mm = l then aa else aa.map (·.add (l * ti.size))) (h - l) (mm - l), ?_, rel_slice_part hs hi' hr l (h - l) (mm - l) (by omega) (by omega) (fun h0 => haddr l h mm h1 h2 (by omega) h0), fun _ hz => ?_⟩
                      · simp [Instr.sliceAt, Instr.slice, run_und hu, hrun, sizeOf_run hT]
                      · have e := capZero_of (d2 := 0) hm hl hz
                        subst e
                        have e0 : h - mm = 0 := by omega
                        exact ⟨_, d, by rw [e0]; simp, by rw [e0, Nat.sub_self]⟩
  · rename_i e id off len cap hk
    obtain ⟨dd, hu, hkd⟩ := hok.kind hk
    have := kok_slice hkd; subst this
    split at hv
    · cases hv
    · rename_i ti hti
      obtain ⟨i', d', z', hT⟩ := hok.ty _ _ hti
      cases hx with
      | @ms _ _ _ _ _ c g hg hlc hcc hz =>
        split at hv
        · cases hv
        rename_i hsz
        split at hv
        · cases hv
        · rename_i mm hm
          split at hv
          · cases hv
          · rename_i h hh
            split at hv
            · cases hv
            · rename_i l hl
              split at hv
              · cases hv
              · rename_i hno
                have key : ∃ mc, (Instr.sliceBounds true len c vlo vhi vmx).run P W = .ok (l, h, mc) W ∧ l ≤ h ∧ h ≤ mm ∧ mm ≤ mc ∧ (mx.isSome = true → mc = mm) ∧ (mc = mm ∨ mc = c ∧ mm = cap) := by
                  cases rm with
                  | none =>
                    simp only [bound, Option.some.injEq] at hm; subst hm
                    refine ⟨c, ?_⟩
                    cases rh with
                    | none =>
                      simp only [bound, Option.some.injEq] at hh; subst hh
                      obtain ⟨hrun, h1, h2⟩ := run_bounds2 (P := P) (isS := true) (cap := c) (len := len) (hi := none) (vhi := none) rfl hl rl .none (Nat.le_trans hlc hcc)
                      exact ⟨hrun, h1, by omega, hcc, fun h => by simp at h, .inr ⟨rfl, rfl⟩⟩
                    | some rh =>
                      obtain ⟨e1, e2⟩ := run_bound (P := P) (c := .sliceAcap) (most' := c) hh rh hcc
                      have e3 : ∀ c, ((match vlo with | some v => Instr.sliceBound v h c | none => pure 0 : Sem Nat)).run P W = .ok l W ∧ l ≤ h := fun c => by
                        cases rl with
                        | none => simp only [bound, Option.some.injEq] at hl; subst hl; exact ⟨rfl, Nat.zero_le _⟩
                        | some r => exact run_bound hl r (Nat.le_refl _)
                      refine ⟨?_, (e3 .index).2, e2, hcc, fun h => (by simp at h), .inr ⟨rfl, rfl⟩⟩
                      have e3' := fun c => (e3 c).1
                      cases rl <;> simp_all [Instr.sliceBounds]
                  | some rm =>
                    cases rh with
                    | none => simp at hno
                    | some rh =>
                      obtain ⟨hrun, h1, h2, h3⟩ := run_bounds3 (P := P) (isS := true) (len := len) (cap := c) hm hh hl rl rh rm hcc
                      exact ⟨mm, hrun, h1, h2, Nat.le_refl _, fun _ => rfl, .inl rfl⟩
                obtain ⟨mc, hrun, h1, h2, h3, h4, h5⟩ := key
                have hrun' : (Instr.sliceAt t (.slice (some ⟨g, off, none⟩) len c) vlo vhi vmx).run P W = .ok (.slice (if mc = l then some ⟨g, off, none⟩ else some ⟨g, off + l * ti.size, none⟩) (h - l) (mc - l)) W := by
                  simp [Instr.sliceAt, Instr.slice, run_und hu, hrun, sizeOf_run hT, add_none]
                split at hv
                · rename_i hml
                  subst hml
                  cases hv
                  have e0 : h - mm = 0 := by omega
                  rw [e0] at hrun'
                  refine ⟨_, hrun', .sl (g := 0) (o := 0) (sz := 0) (f := fun _ _ => undef) rfl (Nat.zero_le _) (by simp) (by simp) (by simp) (by simp), fun _ hz => ?_⟩
                  cases mx with
                  | none => simp [capZero] at hz
                  | some mx =>
                    have := h4 rfl
                    subst this
                    exact ⟨_, true, rfl, by rw [Nat.sub_self]⟩
                · rename_i hml
                  cases hv
                  rw [if_neg (by omega)] at hrun'
                  refine ⟨_, hrun', .ms hg (by omega) (by omega) (fun h0 => ?_), fun h => by simp [isSl] at h⟩
                  rcases h5 with rfl | ⟨rfl, rfl⟩
                  · exact .inl rfl
                  · have hl0 : l = 0 := by
                      rcases Nat.eq_zero_or_pos l with hl0 | hl0
                      · exact hl0
                      · have := Nat.mul_pos hl0 (Nat.pos_of_ne_zero hsz); omega
                    subst hl0
                    simpa using hz (by omega)
  · rename_i nn e id off hk
    obtain ⟨dd, hu, hkd⟩ := hok.kind hk
    have := kok_array hkd; subst this
    split at hv
    · cases hv
    · rename_i ti hti
      obtain ⟨i', d', z', hT⟩ := hok.ty _ _ hti
      cases hx with
      | @ptr _ _ _ g hg =>
        split at hv
        · cases hv
        · rename_i mm hm
          split at hv
          · cases hv
          · rename_i h hh
            split at hv
            · cases hv
            · rename_i l hl
              split at hv
              · cases hv
              · rename_i hno
                have key : (Instr.sliceBounds false nn nn vlo vhi vmx).run P W = .ok (l, h, mm) W ∧ l ≤ h ∧ h ≤ mm ∧ mm ≤ nn := by
                  cases rm with
                  | none =>
                    simp only [bound, Option.some.injEq] at hm; subst hm
                    obtain ⟨hrun, h1, h2⟩ := run_bounds2 (P := P) (isS := false) (cap := nn) hh hl rl rh (Nat.le_refl _)
                    exact ⟨hrun, h1, by omega, Nat.le_refl _⟩
                  | some rm =>
                    cases rh with
                    | none => simp at hno
                    | some rh =>
                      obtain ⟨hrun, h1, h2, h3⟩ := run_bounds3 (P := P) (isS := false) (len := nn) (cap := nn) hm hh hl rl rh rm (Nat.le_refl _)
                      exact ⟨hrun, h1, h2, h3⟩
                obtain ⟨hrun, h1, h2, h3⟩ := key
                have hrun' : (Instr.sliceAt t (.pointer (some ⟨g, off, none⟩)) vlo vhi vmx).run P W = .ok (.slice (some (if mm = l then ⟨g, off, none⟩ else ⟨g, off + l * ti.size, none⟩)) (h - l) (mm - l)) W := by
                  simp [Instr.sliceAt, run_und hu, Instr.sureAddr, hrun, sizeOf_run hT, add_none]
                split at hv
                · rename_i hml
                  subst hml
                  cases hv
                  have e0 : h - mm = 0 := by omega
                  rw [if_pos rfl, e0, Nat.sub_self] at hrun'
                  exact ⟨_, hrun', .sl (g := 0) (o := 0) (sz := 0) (f := fun _ _ => undef) rfl (Nat.le_refl _) (by simp) (by simp) (by simp) (by simp), fun _ _ => ⟨_, true, rfl, rfl⟩⟩
                · rename_i hml
                  cases hv
                  rw [if_neg hml] at hrun'
                  exact ⟨_, hrun', .ms hg (by omega) (Nat.le_refl _) fun _ => .inl rfl, fun h => by simp [isSl] at h⟩
  · cases hv

theorem run_lenV (hok : cfg.Ok P) {t ty : TypeId} {ts : Array TypeId} {x v : V} {vx : Value} (hv : lenV cfg t x = some v) (hx : Rel W I m x vx) (ht : ts[0]? = some t) : ∃ w, (Builtin.len_ ts ty #[vx]).run P W = .ok w W ∧ Rel W I m v w := by
  unfold lenV at hv
  split at hv
  · rename_i s hk
    obtain ⟨dd, hu, hkd⟩ := hok.kind hk
    have := kok_str hkd; subst this
    cases hv
    rw [rel_str_inv hx]
    have hs : (⟨s.toArray⟩ : ByteArray).size = s.length := by simp [ByteArray.size]
    exact ⟨.int .i64 s.length, by unfold Builtin.len_; simp [ht, run_und hu, goInt, hs], .int⟩
  · rename_i e d xs hk
    obtain ⟨dd, hu, hkd⟩ := hok.kind hk
    have := kok_slice hkd; subst this
    cases hv
    obtain ⟨aa, c, g, oo, sz, f, rfl, hc, ha, hs, hi', hr⟩ := rel_sl_inv hx
    exact ⟨_, by unfold Builtin.len_; simp [ht, run_und hu, goInt], .int⟩
  · rename_i e id off nn cap hk
    obtain ⟨dd, hu, hkd⟩ := hok.kind hk
    have := kok_slice hkd; subst this
    cases hv
    cases hx
    exact ⟨_, by unfold Builtin.len_; simp [ht, run_und hu, goInt], .int⟩
  · rename_i e hk
    obtain ⟨dd, hu, hkd⟩ := hok.kind hk
    have := kok_slice hkd; subst this
    cases hv
    cases hx
    exact ⟨_, by unfold Builtin.len_; simp [ht, run_und hu, goInt], .int⟩
  · rename_i nn e hk
    obtain ⟨dd, hu, hkd⟩ := hok.kind hk
    have := kok_array hkd; subst this
    cases hv
    exact ⟨_, by unfold Builtin.len_; simp [ht, run_und hu, goInt], .int⟩
  · rename_i k e hk
    obtain ⟨dd, hu, hkd⟩ := hok.kind hk
    cases dd <;> simp [KOk] at hkd
    cases hv
    cases hx
    exact ⟨_, by unfold Builtin.len_; simp [ht, run_und hu, goInt], .int⟩
  · cases hv

end Go.Abs
/-! append: what the interpreter says of it is what the model does. -/
namespace Go.Abs
open Go.Lib
variable [BT] {F : Fence} {n : Nat} {P : Program} {cfg : Cfg} {B : Base} {W : World} {I : Nat → Nat → Prop} {m : List (Option Nat)} {st st' : St} {a : Act} {o : Oper} {tmps : Array Value}

structure Src (P : Program) (W : World) (I : Nat → Nat → Prop) (m : List (Option Nat)) (size : Nat) (x : Value) (d : Bool) (ys : List (List V)) (news : List Value) : Prop where
  len : ∀ W' : World, (Builtin.lenOf x).run P W' = .ok ys.length W'
  cells : ∀ W' : World, W'.heap = W.heap → (Builtin.firstCells size ys.length x).run P W' = .ok news.toArray W'
  nl : news.length = ys.length * size
  one : ∀ u ∈ news, u.oneCell' = true
  rows : ∀ (i : Nat) (row : List V), ys[i]? = some row → row.length = size
  rel : ∀ (i : Nat) (row : List V) (j : Nat) (x : V), ys[i]? = some row → row[j]? = some x → Rel W I (if d then [] else m) x (news.getD (i * size + j) undef)

theorem div_mod_row {q k size : Nat} (h : q < k * size) : q / size < k ∧ q % size < size ∧ q / size * size + q % size = q := by
  have hs : 0 < size := by
    rcases Nat.eq_zero_or_pos size with h0 | h0
    · subst h0; simp at h
    · exact h0
  exact ⟨by rw [Nat.div_lt_iff_lt_mul hs]; exact h, Nat.mod_lt _ hs, Nat.div_add_mod' q size⟩

theorem row_lt {i j k size : Nat} (hi : i < k) (hj : j < size) : i * size + j < k * size := by
  have : (i + 1) * size ≤ k * size := Nat.mul_le_mul_right _ hi
  rw [Nat.succ_mul] at this
  omega

theorem src_sl {d : Bool} {ys : List (List V)} {x : Value} {size : Nat} (hx : Rel W I m (.sl d ys) x) (hf : rowsFit size ys = true) : ∃ news, Src P W I m size x d ys news := by
  obtain ⟨aa, c, g, oo, sz, f, rfl, hc, ha, hs, hi, hr⟩ := rel_sl_inv hx
  rcases Nat.eq_zero_or_pos ys.length with h0 | h0
  · have : ys = [] := List.eq_nil_of_length_eq_zero h0
    subst this
    refine ⟨[], fun _ => rfl, fun W' _ => ?_, by simp, by simp, by simp, by simp⟩
    cases aa with
    | none => rfl
    | some aa => simp [Builtin.firstCells, loadCells, loadCellsFrom]
  · have hne : ys ≠ [] := by intro h; subst h; simp at h0
    have hsz : sz = size := rows_size hf hs hne
    subst hsz
    have haa := ha hne
    subst haa
    have hrow : ∀ q, q < ys.length * sz → ∃ row x, ys[q / sz]? = some row ∧ row[q % sz]? = some x := fun q hq => by
      obtain ⟨h1, h2, h3⟩ := div_mod_row hq
      have hl := hs _ _ (List.getElem?_eq_getElem h1)
      exact ⟨_, _, List.getElem?_eq_getElem h1, List.getElem?_eq_getElem (by omega)⟩
    have hcell : ∀ q, q < ys.length * sz → W.cell? ⟨g, oo + q, none⟩ = some (f (q / sz) (q % sz)) ∧ (f (q / sz) (q % sz)).oneCell' = true := fun q hq => by
      obtain ⟨row, x, h1, h2⟩ := hrow q hq
      have := hi _ _ _ _ h1 h2
      rw [(div_mod_row hq).2.2] at this
      exact this.2
    refine ⟨(List.range (ys.length * sz)).map fun q => f (q / sz) (q % sz), fun _ => rfl, fun W' hW => ?_, by simp, fun u hu => ?_, hs, fun i row j x h1 h2 => ?_⟩
    · refine run_firstCells_some (P := P) W' sz ys.length ⟨g, oo, none⟩ ys.length c _ (by simp) fun j v hj => ?_
      simp only [List.getElem?_map, Option.map_eq_some_iff] at hj
      obtain ⟨q, hq, rfl⟩ := hj
      obtain ⟨hlt, rfl⟩ := List.getElem?_eq_some_iff.1 hq
      simp only [List.length_range] at hlt
      rw [add_none, List.getElem_range]
      have := (hcell j hlt).1
      simpa [World.cell?, hW] using this
    · simp only [List.mem_map, List.mem_range] at hu
      obtain ⟨q, hq, rfl⟩ := hu
      exact (hcell q hq).2
    · have hi' : i < ys.length := (List.getElem?_eq_some_iff.1 h1).1
      have hj' : j < sz := by rw [← hs _ _ h1]; exact (List.getElem?_eq_some_iff.1 h2).1
      have hq := row_lt hi' hj'
      have e1 : (i * sz + j) / sz = i := by rw [Nat.mul_comm, Nat.mul_add_div (by omega), Nat.div_eq_of_lt hj', Nat.add_zero]
      have e2 : (i * sz + j) % sz = j := by rw [Nat.mul_comm, Nat.mul_add_mod, Nat.mod_eq_of_lt hj']
      have : ((List.range (ys.length * sz)).map fun q => f (q / sz) (q % sz)).getD (i * sz + j) undef = f i j := by
        rw [List.getD_eq_getElem?_getD]; simp [hq, e1, e2]
      rw [this]
      exact hr _ _ _ _ h1 h2

theorem src_str {s : List UInt8} {x : Value} (hx : Rel W I m (.str s) x) : ∃ news, Src P W I m 1 x true (s.map byteRow) news := by
  rw [rel_str_inv hx]
  have hs : (⟨s.toArray⟩ : ByteArray).size = s.length := by simp [ByteArray.size]
  refine ⟨strCells ⟨s.toArray⟩, fun _ => by simp [Builtin.lenOf, hs], fun W' _ => ?_, by simp [strCells_length, hs], fun u hu => strCells_oneCell _ u hu, fun i row h => ?_, fun i row j x h1 h2 => ?_⟩
  · have := run_firstCells_string (P := P) W' 1 ⟨s.toArray⟩
    rw [hs] at this
    simpa using this
  · simp only [List.getElem?_map, Option.map_eq_some_iff] at h
    obtain ⟨b, _, rfl⟩ := h
    rfl
  · simp only [List.getElem?_map, Option.map_eq_some_iff] at h1
    obtain ⟨b, hb, rfl⟩ := h1
    cases j with
    | succ j => simp [byteRow] at h2
    | zero =>
      simp [byteRow] at h2
      subst h2
      have : (strCells ⟨s.toArray⟩).getD (i * 1 + 0) undef = .int .u8 b.toNat := by
        rw [List.getD_eq_getElem?_getD]
        simp [strCells, hb]
      rw [this]
      exact .int

section
variable {t tx ty e : TypeId} {ti : TI} {i : TypeInfo} {dd dx : TypeDesc} {z : Value}

theorem run_append_grow_any (T : TyOk P e ti i dd z) (ht : P.underlying t = some (.slice e)) (htx : P.underlying tx = some dx) (hdx : dx = .slice e ∨ dx = .string) {base : Option Addr} {sLen sCap k : Nat} {x : Value} {olds news : List Value}
    (hlen : ∀ W' : World, (Builtin.lenOf x).run P W' = .ok k W') (hg : sCap < sLen + k) (hfit : (sLen + k) * ti.bytes ≤ strMax) (hb : ti.bytes ≠ 0)
    (hold : (Builtin.firstCells ti.size sLen (.slice base sLen sCap)).run P W.drew = .ok olds.toArray W.drew) (hnew : (Builtin.firstCells ti.size k x).run P W.drew = .ok news.toArray W.drew) :
    (Builtin.append_ #[t, tx] ty #[.slice base sLen sCap, x]).run P W =
      .ok (.slice (some ⟨W.heap.size, 0, none⟩) (sLen + k) (grownCap W (sLen + k) sCap e))
        (W.drew.alloc (.cells (olds.toArray ++ news.toArray ++ Builtin.zeroCells z.cells (grownCap W (sLen + k) sCap e - (sLen + k))) e)) := by
  have hn : ¬ (sLen + k ≤ sCap) := by omega
  have hcap : ¬ (281474976710656 < Builtin.nextslicecap (sLen + k) sCap * ti.bytes) := by
    have := growslice_fits hg (bytes := ti.bytes) (by simpa [strMax] using hfit)
    omega
  have hbb : i.bytes ≠ 0 := by rw [T.bytes]; exact hb
  have hfor : (Question.appendCap (sLen + k) sCap e).forced = false := rfl
  have h63 : ¬ (9223372036854775807 < ((sLen : Int) + (k : Int))) := by
    have : (sLen + k) * 1 ≤ (sLen + k) * ti.bytes := Nat.mul_le_mul_left _ (Nat.pos_of_ne_zero hb)
    simp only [strMax] at hfit
    omega
  rcases hdx with rfl | rfl
  all_goals
    simp [Builtin.append_, run_und ht, run_und htx, sizeOf, typeInfo, zeroValue, T.info, T.zero, T.size, T.bytes, hlen, hn, hcap, hb, h63, hfor, newRow, grownCap, hold, hnew]
    try (congr 2; apply Array.ext'; simp [List.append_assoc])

theorem run_append_room_any (T : TyOk P e ti i dd z) (ht : P.underlying t = some (.slice e)) (htx : P.underlying tx = some dx) (hdx : dx = .slice e ∨ dx = .string) {g sLen sCap k : Nat} {x : Value} {news : List Value} {cur : Array Value} {e' : TypeId}
    (hlen : ∀ W' : World, (Builtin.lenOf x).run P W' = .ok k W') (hg : sLen + k ≤ sCap) (hnew : (Builtin.firstCells ti.size k x).run P W = .ok news.toArray W) {fz : Nat × Nat} (hcur : W.heap[g]? = some (.cells cur e' fz)) (hfz : fz.2 ≤ sLen * ti.size)
    (hfits : sLen * ti.size + news.length ≤ cur.size) (h1 : ∀ u ∈ news, u.oneCell' = true) :
    (Builtin.append_ #[t, tx] ty #[.slice (some ⟨g, 0, none⟩) sLen sCap, x]).run P W =
      .ok (.slice (some ⟨g, 0, none⟩) (sLen + k) sCap) (W.setRow g (cur.toList.take (sLen * ti.size) ++ news ++ cur.toList.drop (sLen * ti.size + news.length)).toArray) := by
  have hst := run_storeCells_atF P g (sLen * ti.size) e' fz news 0 cur W hcur (by simpa using hfz) (by simpa using hfits) h1
  simp only [Nat.add_zero] at hst
  rcases hdx with rfl | rfl
  all_goals
    simp [Builtin.append_, run_und ht, run_und htx, sizeOf, typeInfo, T.info, T.size, hlen, hg, hnew, add_none, hst]

theorem run_append_none (T : TyOk P e ti i dd z) (ht : P.underlying t = some (.slice e)) (htx : P.underlying tx = some dx) (hdx : dx = .slice e ∨ dx = .string) {base : Option Addr} {sCap : Nat} {x : Value}
    (hlen : ∀ W' : World, (Builtin.lenOf x).run P W' = .ok 0 W') (hnew : (Builtin.firstCells ti.size 0 x).run P W = .ok #[] W) :
    (Builtin.append_ #[t, tx] ty #[.slice base 0 sCap, x]).run P W = .ok (.slice base 0 sCap) W := by
  rcases hdx with rfl | rfl <;> cases base <;> simp [Builtin.append_, run_und ht, run_und htx, sizeOf, typeInfo, T.info, T.size, hlen, hnew, storeCells]

theorem setRow_heap' {g : Nat} {cur cs : Array Value} {fr : Nat × Nat} {e' : TypeId} (h : W.heap[g]? = some (.cells cur e' fr)) : (W.setRow g cs).heap[g]? = some (.cells cs e' fr) := setRow_heap W g cur cs e' fr h

theorem setRow_other' {g g' : Nat} {cs : Array Value} (h : g' ≠ g) : (W.setRow g cs).heap[g']? = W.heap[g']? := setRow_other W g g' cs h

theorem rel_append {W' : World} {I' : Nat → Nat → Prop} {d1 d2 : Bool} {xs ys : List (List V)} {g c size : Nat} {olds news : List Value} {arr : Array Value} {e' : TypeId}
    (hI : ∀ g o, I g o → I' g o) (hk : KeepI I W W') (hsz : 0 < size)
    (hxs : ∀ (i : Nat) (row : List V), xs[i]? = some row → row.length = size) (hys : ∀ (i : Nat) (row : List V), ys[i]? = some row → row.length = size)
    (hol : olds.length = xs.length * size) (hnl : news.length = ys.length * size)
    (ho1 : ∀ u ∈ olds, u.oneCell' = true) (hn1 : ∀ u ∈ news, u.oneCell' = true)
    (hor : ∀ (i : Nat) (row : List V) (j : Nat) (x : V), xs[i]? = some row → row[j]? = some x → Rel W I (if d1 then [] else m) x (olds.getD (i * size + j) undef))
    (hnr : ∀ (i : Nat) (row : List V) (j : Nat) (x : V), ys[i]? = some row → row[j]? = some x → Rel W I (if d2 then [] else m) x (news.getD (i * size + j) undef))
    {fz : Nat × Nat} (hw : W'.heap[g]? = some (.cells arr e' fz)) (hpre : ∀ (q : Nat) (u : Value), (olds ++ news)[q]? = some u → arr[q]? = some u) (hIn : ∀ q : Nat, q < (xs.length + ys.length) * size → I' g q) (hc : xs.length + ys.length ≤ c) :
    Rel W' I' m (appendV d1 d2 xs ys) (.slice (some ⟨g, 0, none⟩) (xs.length + ys.length) c) := by
  have hlen : (olds ++ news).length = (xs.length + ys.length) * size := by rw [List.length_append, hol, hnl, Nat.add_mul]
  have hrow : ∀ (i : Nat) (row : List V), (xs ++ ys)[i]? = some row → row.length = size := fun i row h => by
    by_cases hi : i < xs.length
    · rw [List.getElem?_append_left hi] at h; exact hxs i row h
    · rw [List.getElem?_append_right (by omega)] at h; exact hys _ row h
  have hq : ∀ {i j : Nat} {row : List V} {x : V}, (xs ++ ys)[i]? = some row → row[j]? = some x → i * size + j < (xs.length + ys.length) * size := fun {i j row x} h1 h2 => by
    have hi : i < xs.length + ys.length := by have := (List.getElem?_eq_some_iff.1 h1).1; simpa using this
    have hj : j < size := by rw [← hrow _ _ h1]; exact (List.getElem?_eq_some_iff.1 h2).1
    exact row_lt hi hj
  refine .sl (g := g) (o := 0) (sz := size) (f := fun i j => (olds ++ news).getD (i * size + j) undef) (by simp) hc (fun _ => rfl) hrow (fun i row j x h1 h2 => ?_) fun i row j x h1 h2 => ?_
  · have hlt := hq h1 h2
    have hu : (olds ++ news)[i * size + j]? = some ((olds ++ news).getD (i * size + j) undef) := by
      rw [List.getD_eq_getElem?_getD, List.getElem?_eq_getElem (by rw [hlen]; exact hlt)]; rfl
    refine ⟨by rw [Nat.zero_add]; exact hIn _ hlt, by rw [Nat.zero_add, cell_of_blk hw]; exact hpre _ _ hu, ?_⟩
    have hmem := List.mem_of_getElem? hu
    rcases List.mem_append.1 hmem with h | h
    · exact ho1 _ h
    · exact hn1 _ h
  · by_cases hi : i < xs.length
    · rw [List.getElem?_append_left hi] at h1
      have hj : j < size := by rw [← hxs _ _ h1]; exact (List.getElem?_eq_some_iff.1 h2).1
      have hlt : i * size + j < olds.length := by rw [hol]; exact row_lt hi hj
      have e : (olds ++ news).getD (i * size + j) undef = olds.getD (i * size + j) undef := by
        simp only [List.getD_eq_getElem?_getD]; rw [List.getElem?_append_left hlt]
      rw [e]
      have := (hor i row j x h1 h2).mono hI hk (List.prefix_refl _)
      have hne : xs.isEmpty = false := by cases xs <;> simp_all
      cases d1 with
      | true => exact this.mono (fun _ _ h => h) (KeepI.refl _ _) (List.nil_prefix)
      | false => simpa [hne] using this
    · rw [List.getElem?_append_right (by omega)] at h1
      have hj : j < size := by rw [← hys _ _ h1]; exact (List.getElem?_eq_some_iff.1 h2).1
      have hi' : i - xs.length < ys.length := (List.getElem?_eq_some_iff.1 h1).1
      have e0 : i * size + j = olds.length + ((i - xs.length) * size + j) := by
        rw [hol]
        have : i * size = xs.length * size + (i - xs.length) * size := by rw [← Nat.add_mul]; congr 1; omega
        omega
      have e : (olds ++ news).getD (i * size + j) undef = news.getD ((i - xs.length) * size + j) undef := by
        simp only [List.getD_eq_getElem?_getD]; rw [e0, List.getElem?_append_right (by omega)]; simp
      rw [e]
      have := (hnr _ row j x h1 h2).mono hI hk (List.prefix_refl _)
      have hne : ys.isEmpty = false := by cases ys <;> simp_all
      cases d2 with
      | true => exact this.mono (fun _ _ h => h) (KeepI.refl _ _) (List.nil_prefix)
      | false => simpa [hne] using this

theorem headByte_append {xs ys : List (List V)} (h : xs ≠ []) : headByte (xs ++ ys) = headByte xs := by
  cases xs with
  | nil => exact absurd rfl h
  | cons r xs =>
    rcases r with _ | ⟨v, _ | ⟨v2, r⟩⟩
    · rfl
    · cases v <;> try rfl
      rename_i k n; cases k <;> rfl
    · simp [headByte]

theorem append_sim (h : Sim B W I m st tmps) (T : TyOk P e ti i dd z) (ht : P.underlying t = some (.slice e)) (htx : P.underlying tx = some dx) (hdx : dx = .slice e ∨ dx = .string) (hsz : ti.size ≠ 0) (hbz : ti.bytes ≠ 0)
    {d1 d2 : Bool} {xs ys : List (List V)} {v x : Value} {news : List Value} (hv : Rel W I m (.sl d1 xs) v) (hrow : OwnRow W I xs v) (hfit : rowsFit ti.size xs = true) (S : Src P W I m ti.size x d2 ys news)
    (hmost : (xs.length + ys.length) * ti.bytes ≤ strMax) (htag : headByte (xs ++ ys) = true → BT.is e)
    (hfree : ∀ g, claimOf v = some g → some g ∉ m ∧ (B.A g ∨ B.W.heap.size ≤ g) ∧ ∀ l xs' v', Held W m st tmps l xs' v' → claimOf v' ≠ some g) :
    ∃ w W' I', (Builtin.append_ #[t, tx] ty #[v, x]).run P W = .ok w W' ∧ Sim B W' I' m st tmps ∧ Rel W' I' m (appendV d1 d2 xs ys) w ∧ OwnRow W' I' (xs ++ ys) w ∧
      ∀ g, claimOf w = some g → some g ∉ m ∧ (B.A g ∨ B.W.heap.size ≤ g) ∧ ∀ l xs' v', Held W' m st tmps l xs' v' → claimOf v' ≠ some g := by
  have hpos : 0 < ti.size := Nat.pos_of_ne_zero hsz
  obtain ⟨aa, c, g0, o0, sz, f, rfl, hc, ha, hs, hi, hr⟩ := rel_sl_inv hv
  have hxs : ∀ (i : Nat) (row : List V), xs[i]? = some row → row.length = ti.size := fun i row hx => by
    have hne : xs ≠ [] := by intro he; subst he; simp at hx
    rw [hs i row hx]; exact rows_size hfit hs hne
  -- the old cells
  have holds : ∃ olds : List Value, olds.length = xs.length * ti.size ∧ (∀ u ∈ olds, u.oneCell' = true) ∧ (∀ (i : Nat) (row : List V) (j : Nat) (x : V), xs[i]? = some row → row[j]? = some x → Rel W I (if d1 then [] else m) x (olds.getD (i * ti.size + j) undef)) ∧
      (∀ W' : World, W'.heap = W.heap → (Builtin.firstCells ti.size xs.length (.slice aa xs.length c)).run P W' = .ok olds.toArray W') ∧ (∀ g, aa = some ⟨g, 0, none⟩ → ∀ q u, olds[q]? = some u → W.cell? ⟨g, q, none⟩ = some u) := by
    obtain ⟨olds, So⟩ := src_sl (P := P) hv hfit
    refine ⟨olds, So.nl, So.one, So.rel, So.cells, fun g hg q u hq => ?_⟩
    have hrun := So.cells W rfl
    subst hg
    have hlt : q < xs.length * ti.size := by rw [← So.nl]; exact (List.getElem?_eq_some_iff.1 hq).1
    have hne : xs ≠ [] := by intro he; subst he; simp at hlt
    have haa := ha hne
    cases haa
    have hsz' : sz = ti.size := rows_size hfit hs hne
    subst hsz'
    obtain ⟨k1, k2, k3⟩ := div_mod_row hlt
    have hrow' := List.getElem?_eq_getElem k1
    have hl := hs _ _ hrow'
    have hcell := (hi _ _ _ _ hrow' (List.getElem?_eq_getElem (show q % ti.size < xs[q / ti.size].length by omega))).2.1
    rw [k3, Nat.zero_add] at hcell
    -- both are what firstCells reads
    have hall : ∀ q', q' < xs.length * ti.size → ∃ u, W.cell? ⟨g0, q', none⟩ = some u := fun q' hq' => by
      obtain ⟨p1, p2, p3⟩ := div_mod_row hq'
      have hr' := List.getElem?_eq_getElem p1
      have hl' := hs _ _ hr'
      have := (hi _ _ _ _ hr' (List.getElem?_eq_getElem (show q' % ti.size < xs[q' / ti.size].length by omega))).2.1
      rw [p3, Nat.zero_add] at this
      exact ⟨_, this⟩
    have h2 := run_firstCells_some (P := P) W ti.size xs.length ⟨g0, 0, none⟩ xs.length c ((List.range (xs.length * ti.size)).map fun q => (W.cell? ⟨g0, q, none⟩).getD undef) (by simp) fun j v hj => by
      simp only [List.getElem?_map, Option.map_eq_some_iff] at hj
      obtain ⟨q', hq', rfl⟩ := hj
      obtain ⟨hlt', rfl⟩ := List.getElem?_eq_some_iff.1 hq'
      simp only [List.length_range] at hlt'
      rw [add_none, List.getElem_range, Nat.zero_add]
      obtain ⟨u, hu⟩ := hall j hlt'
      rw [hu]; rfl
    rw [hrun] at h2
    have e : olds = (List.range (xs.length * ti.size)).map fun q => (W.cell? ⟨g0, q, none⟩).getD undef := by
      have h3 := Result.ok.inj h2
      simpa using h3.1
    rw [e] at hq
    simp [hlt] at hq
    obtain ⟨u', hu'⟩ := hall q hlt
    rw [hu'] at hq ⊢
    simpa using hq
  obtain ⟨olds, hol, ho1, hor, hofc, hocell⟩ := holds
  have hn1 := S.one
  by_cases hroom : xs.length + ys.length ≤ c
  · -- there is room
    rcases hrow with ⟨a0, he⟩ | ⟨g, c', arr, e', sz', fz, he, hne, hsr, hheap, hfz, harr, hle, hspare, htg⟩
    · -- of none in none
      cases he
      have h0 : xs.length = 0 := by omega
      have hx0 : xs = [] := List.eq_nil_of_length_eq_zero h0
      have hy0 : ys = [] := List.eq_nil_of_length_eq_zero (by omega)
      subst hx0; subst hy0
      have hnil : news = [] := List.eq_nil_of_length_eq_zero (by rw [S.nl]; simp)
      subst hnil
      have hrun := run_append_none (W := W) (ty := ty) T ht htx hdx (base := aa) (sCap := 0) S.len (by simpa using S.cells W rfl)
      have hz0 : claimOf (.slice aa 0 0) = none := by cases aa <;> rfl
      exact ⟨_, W, I, hrun, h, .sl (g := 0) (o := 0) (sz := 0) (f := fun _ _ => undef) rfl (by simp) (by simp) (by simp) (by simp) (by simp), .inl ⟨_, rfl⟩, fun g hg => by rw [show claimOf _ = none from hz0] at hg; cases hg⟩
    · cases he
      have hszr : sz' = ti.size := by
        cases xs with
        | nil => exact absurd rfl hne
        | cons r xs => rw [← hsr r (by simp)]; exact hxs 0 r rfl
      subst hszr
      have hcl : claimOf (.slice (some ⟨g, 0, none⟩) xs.length (c' + 1)) = some g := rfl
      obtain ⟨hgm, hgA, hgh⟩ := hfree g hcl
      have hbound : (xs.length + ys.length) * ti.size ≤ (c' + 1) * ti.size := Nat.mul_le_mul_right _ hroom
      have hfits : xs.length * ti.size + news.length ≤ arr.size := by rw [S.nl, harr, ← Nat.add_mul]; exact hbound
      have hrun := run_append_room_any (W := W) (ty := ty) T ht htx hdx S.len hroom (S.cells W rfl) hheap hfz hfits hn1
      obtain ⟨arr', harr'⟩ : ∃ arr', arr' = (arr.toList.take (xs.length * ti.size) ++ news ++ arr.toList.drop (xs.length * ti.size + news.length)).toArray := ⟨_, rfl⟩
      rw [← harr'] at hrun
      have hoeq : arr.toList.take (xs.length * ti.size) = olds := by
        refine List.ext_getElem? fun q => ?_
        by_cases hq : q < xs.length * ti.size
        · rw [List.getElem?_take, if_pos hq, Array.getElem?_toList]
          have hu := List.getElem?_eq_getElem (show q < olds.length by omega)
          rw [hu]
          have := hocell g rfl q _ hu
          rwa [cell_of_blk hheap] at this
        · rw [List.getElem?_eq_none (by simp; omega), List.getElem?_eq_none (by omega)]
      have hget : ∀ q u, (olds ++ news)[q]? = some u → arr'[q]? = some u := fun q u hq => by
        rw [harr', hoeq, ← Array.getElem?_toList]
        simp only [List.append_assoc]
        have hlt := (List.getElem?_eq_some_iff.1 hq).1
        rw [← List.append_assoc, List.getElem?_append_left hlt]
        exact hq
      have hW' : (W.setRow g arr').heap[g]? = some (.cells arr' e' fz) := setRow_heap' hheap
      have hsize' : arr'.size = (c' + 1) * ti.size := by
        rw [harr', ← harr]
        simp only [List.size_toArray, List.length_append, List.length_take, List.length_drop, Array.length_toList]
        omega
      have hkeep : KeepI I W (W.setRow g arr') := ⟨fun g' q hiq => by
        by_cases hg' : g' = g
        · subst hg'
          have hlt : q < xs.length * ti.size := by
            rcases Nat.lt_or_ge q (xs.length * ti.size) with hh | hh
            · exact hh
            · exact absurd hiq (hspare q hh)
          rw [cell_of_blk hW', cell_of_blk hheap]
          have hu := List.getElem?_eq_getElem (show q < olds.length by omega)
          have e1 := hget q _ (by rw [List.getElem?_append_left (by omega)]; exact hu)
          rw [e1]
          have := hocell g' rfl q _ hu
          rw [cell_of_blk hheap] at this
          exact this.symm
        · exact cell_same (setRow_other' hg'), info_but (fun g' hne => setRow_other' hne) fun p hp => by simpa [rowInfo, hW', hheap, hsize', harr] using hp⟩
      let I' : Nat → Nat → Prop := fun g' q => I g' q ∨ (g' = g ∧ q < (xs.length + ys.length) * ti.size)
      have hS : Sim B (W.setRow g arr') I' m st tmps := by
        refine h.worldX (fun g' => g' = g) rfl ⟨rfl, Nat.le_refl _⟩ rfl (by simp) (fun g' _ hne => setRow_other' hne) (fun g' hg' => hg' ▸ hgm) (fun g' l xs' v' hg' hh => hg' ▸ hgh l xs' v' hh) (fun g' hg' => hg' ▸ hgA) hkeep
          (fun _ _ hi => .inl hi) (fun g' q hi => hi.imp id fun hi => .inr hi.1) (fun g' q hi => ?_) fun g' hg' x => (by rw [hg', hheap]; simp)
        rcases hi with hi | ⟨rfl, hlt⟩
        · obtain ⟨v, hv⟩ := h.live g' q hi
          exact ⟨v, (hkeep.cell g' q hi).trans hv⟩
        · rw [cell_of_blk hW']
          exact ⟨_, Array.getElem?_eq_getElem (by rw [hsize']; omega)⟩
      refine ⟨_, _, I', hrun, hS, rel_append (fun _ _ hi => .inl hi) hkeep hpos hxs S.rows hol S.nl ho1 hn1 hor S.rel hW' hget (fun q hq => .inr ⟨rfl, hq⟩) hroom, .inr ⟨g, c', arr', e', ti.size, fz, by simp, by simp [hne], fun row hrow => ?_, hW', Nat.le_trans hfz (by rw [List.length_append]; exact Nat.mul_le_mul_right _ (Nat.le_add_right _ _)), hsize', by simpa using hroom, fun q hq hi => ?_, fun hb => htg (by rwa [headByte_append hne] at hb)⟩, fun g' hg' => ?_⟩
      · rcases List.mem_append.1 hrow with hr1 | hr1
        · obtain ⟨q, hq⟩ := List.mem_iff_getElem?.1 hr1; exact hxs q row hq
        · obtain ⟨q, hq⟩ := List.mem_iff_getElem?.1 hr1; exact S.rows q row hq
      · rw [List.length_append] at hq
        rcases hi with hi | ⟨_, hlt⟩
        · exact hspare q (by have : xs.length * ti.size ≤ (xs.length + ys.length) * ti.size := Nat.mul_le_mul_right _ (by omega); omega) hi
        · omega
      · have hg'' : g = g' := by simpa [claimOf] using hg'
        subst hg''
        refine ⟨hgm, hgA, fun l xs' v' hh => hgh l xs' v' (hh.world fun g'' hg'' => setRow_other' fun e => hgm (e ▸ hg''))⟩
  · -- a new row
    have hgrow : c < xs.length + ys.length := by omega
    have hrun := run_append_grow_any (W := W) (ty := ty) T ht htx hdx (base := aa) S.len hgrow hmost hbz (hofc W.drew rfl) (S.cells W.drew rfl)
    have hcap := grownCap_ge W (xs.length + ys.length) c e
    obtain ⟨rest, hrest⟩ : ∃ rest, rest = Builtin.zeroCells z.cells (grownCap W (xs.length + ys.length) c e - (xs.length + ys.length)) := ⟨_, rfl⟩
    obtain ⟨arr', harr'⟩ : ∃ arr', arr' = olds.toArray ++ news.toArray ++ rest := ⟨_, rfl⟩
    have hrl : rest.size = (grownCap W (xs.length + ys.length) c e - (xs.length + ys.length)) * ti.size := by
      rw [hrest]; simp [Builtin.zeroCells, T.zsize]
    rw [← hrest, ← harr'] at hrun
    have hW' : (W.drew.alloc (.cells arr' e)).heap[W.heap.size]? = some (.cells arr' e (0, 0)) := heap_alloc_new W.drew _
    have hold' : ∀ g, g < W.heap.size → (W.drew.alloc (.cells arr' e)).heap[g]? = W.heap[g]? := fun g hg => by
      simp only [World.alloc, World.drew, Array.getElem?_push]; rw [if_neg (by omega)]
    have hsize' : arr'.size = grownCap W (xs.length + ys.length) c e * ti.size := by
      rw [harr']
      simp only [Array.size_append, List.size_toArray, hol, S.nl, hrl]
      rw [← Nat.add_mul, ← Nat.add_mul]
      congr 1; omega
    have hget : ∀ q u, (olds ++ news)[q]? = some u → arr'[q]? = some u := fun q u hq => by
      rw [harr', ← Array.getElem?_toList]
      simp only [Array.toList_append]
      rw [List.getElem?_append_left (List.getElem?_eq_some_iff.1 hq).1]
      exact hq
    have hkeep : KeepI I W (W.drew.alloc (.cells arr' e)) := ⟨fun g q hi => cell_same (hold' g (h.ilt hi)), info_old hold'⟩
    let I' : Nat → Nat → Prop := fun g' q => I g' q ∨ (g' = W.heap.size ∧ q < (xs.length + ys.length) * ti.size)
    have hbound : (xs.length + ys.length) * ti.size ≤ grownCap W (xs.length + ys.length) c e * ti.size := Nat.mul_le_mul_right _ hcap
    have hS : Sim B (W.drew.alloc (.cells arr' e)) I' m st tmps := by
      refine h.world rfl ⟨rfl, Nat.le_succ _⟩ rfl (by simp) hold' (fun _ _ hi => .inl hi) (fun g' q hi => hi.imp id fun hi => by omega) fun g' q hi => ?_
      rcases hi with hi | ⟨rfl, hlt⟩
      · obtain ⟨v, hv⟩ := h.live g' q hi
        exact ⟨v, (hkeep.cell g' q hi).trans hv⟩
      · rw [cell_of_blk hW']
        exact ⟨_, Array.getElem?_eq_getElem (by rw [hsize']; omega)⟩
    have hne : xs ++ ys ≠ [] := by
      intro he
      have : (xs ++ ys).length = 0 := by rw [he]; rfl
      rw [List.length_append] at this
      omega
    obtain ⟨c', hc'⟩ : ∃ c', grownCap W (xs.length + ys.length) c e = c' + 1 := ⟨_, (Nat.succ_pred_eq_of_pos (by omega)).symm⟩
    rw [hc'] at hrun hsize' hcap
    refine ⟨_, _, I', hrun, hS, rel_append (fun _ _ hi => .inl hi) hkeep hpos hxs S.rows hol S.nl ho1 hn1 hor S.rel hW' hget (fun q hq => .inr ⟨rfl, hq⟩) hcap, .inr ⟨W.heap.size, c', arr', e, ti.size, (0, 0), by simp, hne, fun row hrow => ?_, hW', Nat.zero_le _, hsize', by simpa using hcap, fun q hq hi => ?_, htag⟩, fun g' hg' => ?_⟩
    · rcases List.mem_append.1 hrow with hr1 | hr1
      · obtain ⟨q, hq⟩ := List.mem_iff_getElem?.1 hr1; exact hxs q row hq
      · obtain ⟨q, hq⟩ := List.mem_iff_getElem?.1 hr1; exact S.rows q row hq
    · rw [List.length_append] at hq
      rcases hi with hi | ⟨_, hlt⟩
      · exact absurd (h.ilt hi) (by omega)
      · omega
    · have hg'' : W.heap.size = g' := by simpa [claimOf] using hg'
      subst hg''
      refine ⟨fun hg => absurd (h.mlt hg) (by omega), .inr h.grow.size, fun l xs' v' hh hcl => ?_⟩
      have hh' := hh.world (W := W) fun g'' hg'' => hold' g'' (h.mlt hg'')
      exact absurd (claim_lt (h.own _ _ _ hh') hcl) (by omega)

end
end Go.Abs
