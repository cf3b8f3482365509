/- An abstract value stands for a value of the model: the relation, and how it lives on. -/
import Derived.Test.YtpjolollnhfciaaAbs
import Derived.CallsIn
import Derived.Below
import Derived.Laws.AppendOwn
set_option linter.all false
namespace Go.Abs

/-- In the world W, the cells in I being never written again and the abstract heap's blocks lying where m says, the abstract value stands for the value. -/
inductive Rel (W : World) (I : Nat → Nat → Prop) : List (Option Nat) → V → Value → Prop
  | any {m : List (Option Nat)} {w : Value} : Rel W I m .any w
  | bool {m : List (Option Nat)} {b : Bool} : Rel W I m (.bool b) (.bool b)
  | int {m : List (Option Nat)} {k : IntKind} {n : Int} : Rel W I m (.int k n) (.int k n)
  | str {m : List (Option Nat)} {s : ByteArray} {l : List UInt8} (h : s.data.toList = l) : Rel W I m (.str l) (.string s)
  | nilp {m : List (Option Nat)} : Rel W I m .nilp (.pointer none)
  | ptr {m : List (Option Nat)} {id off g : Nat} (h : m[id]? = some (some g)) : Rel W I m (.ptr id off) (.pointer (some ⟨g, off, none⟩))
  | pc {m : List (Option Nat)} {d : Bool} {cs : List V} {g o : Nat} {f : Nat → Value} (hc : ∀ (j : Nat) (x : V), cs[j]? = some x → I g (o + j) ∧ W.cell? ⟨g, o + j, none⟩ = some (f j) ∧ (f j).oneCell' = true)
      (hr : ∀ (j : Nat) (x : V), cs[j]? = some x → Rel W I (if d then [] else m) x (f j)) : Rel W I m (.pc d cs) (.pointer (some ⟨g, o, none⟩))
  | sl {m : List (Option Nat)} {d : Bool} {xs : List (List V)} {a : Option Addr} {n c g o sz : Nat} {f : Nat → Nat → Value} (hn : n = xs.length) (hc : n ≤ c)
      (ha : xs ≠ [] → a = some ⟨g, o, none⟩) (hs : ∀ (i : Nat) (row : List V), xs[i]? = some row → row.length = sz)
      (hi : ∀ (i : Nat) (row : List V) (j : Nat) (x : V), xs[i]? = some row → row[j]? = some x → I g (o + (i * sz + j)) ∧ W.cell? ⟨g, o + (i * sz + j), none⟩ = some (f i j) ∧ (f i j).oneCell' = true)
      (hr : ∀ (i : Nat) (row : List V) (j : Nat) (x : V), xs[i]? = some row → row[j]? = some x → Rel W I (if d then [] else m) x (f i j)) : Rel W I m (.sl d xs) (.slice a n c)
  | ms {m : List (Option Nat)} {id off len cap g : Nat} (h : m[id]? = some (some g)) (hl : len ≤ cap) : Rel W I m (.ms id off len cap) (.slice (some ⟨g, off, none⟩) len cap)
  | fn {m : List (Option Nat)} {f : FuncId} {cs : List V} {a : Array Value} (hl : a.size = cs.length) (hr : ∀ (j : Nat) (x : V), cs[j]? = some x → Rel W I m x (a.getD j undef)) : Rel W I m (.fn f cs) (.func (.func f) #[] a)
  | yld {m : List (Option Nat)} {id g : Nat} (h : m[id]? = some (some g)) : Rel W I m (.yld id) (.func (.yield g) #[] #[])
  | nilf {m : List (Option Nat)} : Rel W I m .nilf .nilFunc
  | nilm {m : List (Option Nat)} : Rel W I m .nilm (.map none)
  | map {m : List (Option Nat)} {id g : Nat} (h : m[id]? = some (some g)) : Rel W I m (.map id) (.map (some g))
  | agg {m : List (Option Nat)} {cs : List V} {a : Array Value} (hl : a.size = cs.length) (h1 : ∀ (j : Nat) (x : V), cs[j]? = some x → (a.getD j undef).oneCell' = true) (hr : ∀ (j : Nat) (x : V), cs[j]? = some x → Rel W I m x (a.getD j undef)) : Rel W I m (.agg cs) (.agg a)
  | tup {m : List (Option Nat)} {cs : List V} {a : Array Value} (hl : a.size = cs.length) (hr : ∀ (j : Nat) (x : V), cs[j]? = some x → Rel W I m x (a.getD j undef)) : Rel W I m (.tup cs) (.tuple a)

theorem rel_und {W : World} {I : Nat → Nat → Prop} {m : List (Option Nat)} : Rel W I m (.tup []) undef := .tup rfl (by simp)

def KeepI (I : Nat → Nat → Prop) (W W' : World) : Prop := ∀ g o, I g o → W'.cell? ⟨g, o, none⟩ = W.cell? ⟨g, o, none⟩

/-- Blocks that had a place have it still. -/
def MLe (m m' : List (Option Nat)) : Prop := ∀ (id g : Nat), m[id]? = some (some g) → m'[id]? = some (some g)

theorem MLe.refl (m : List (Option Nat)) : MLe m m := fun _ _ h => h

theorem pre_get {α : Type} {m m' : List α} (h : m <+: m') {id : Nat} {g : α} (hg : m[id]? = some g) : m'[id]? = some g := by
  obtain ⟨r, rfl⟩ := h
  have : id < m.length := (List.getElem?_eq_some_iff.1 hg).1
  rw [List.getElem?_append_left this]; exact hg

theorem MLe.pre {m m' : List (Option Nat)} (h : m <+: m') : MLe m m' := fun _ _ hg => pre_get h hg

theorem mle_ite {d : Bool} {m m' : List (Option Nat)} (h : MLe m m') : MLe (if d then [] else m) (if d then [] else m') := by
  cases d
  · simpa using h
  · simp [MLe]

/-- What was related lives on: more cells never written, more blocks, a world that keeps the cells never written. -/
theorem Rel.mono_le {W W' : World} {I I' : Nat → Nat → Prop} (hI : ∀ g o, I g o → I' g o) (hk : KeepI I W W') {m : List (Option Nat)} {v : V} {w : Value} (h : Rel W I m v w) :
    ∀ {m'}, MLe m m' → Rel W' I' m' v w := by
  induction h with
  | any => exact fun _ => .any
  | bool => exact fun _ => .bool
  | int => exact fun _ => .int
  | str h => exact fun _ => .str h
  | nilp => exact fun _ => .nilp
  | ptr h => exact fun hm => .ptr (hm _ _ h)
  | pc hc hr ih => exact fun hm => .pc (fun j x hx => ⟨hI _ _ (hc j x hx).1, by rw [hk _ _ (hc j x hx).1]; exact (hc j x hx).2.1, (hc j x hx).2.2⟩) fun j x hx => ih j x hx (mle_ite hm)
  | sl hn hc ha hs hi hr ih =>
    exact fun hm => .sl hn hc ha hs (fun i row j x h1 h2 => ⟨hI _ _ (hi i row j x h1 h2).1, by rw [hk _ _ (hi i row j x h1 h2).1]; exact (hi i row j x h1 h2).2.1, (hi i row j x h1 h2).2.2⟩) fun i row j x h1 h2 => ih i row j x h1 h2 (mle_ite hm)
  | ms h hl => exact fun hm => .ms (hm _ _ h) hl
  | fn hl hr ih => exact fun hm => .fn hl fun j x hx => ih j x hx hm
  | yld h => exact fun hm => .yld (hm _ _ h)
  | nilf => exact fun _ => .nilf
  | nilm => exact fun _ => .nilm
  | map h => exact fun hm => .map (hm _ _ h)
  | agg hl h1 hr ih => exact fun hm => .agg hl h1 fun j x hx => ih j x hx hm
  | tup hl hr ih => exact fun hm => .tup hl fun j x hx => ih j x hx hm

theorem Rel.mono {W W' : World} {I I' : Nat → Nat → Prop} (hI : ∀ g o, I g o → I' g o) (hk : KeepI I W W') {m : List (Option Nat)} {v : V} {w : Value} (h : Rel W I m v w) {m' : List (Option Nat)} (hm : m <+: m') : Rel W' I' m' v w :=
  h.mono_le hI hk (MLe.pre hm)

theorem alll_get {p : Nat → Bool} {cs : List V} (h : V.alll p cs = true) {j : Nat} {x : V} (hx : cs[j]? = some x) : V.all p x = true := by
  induction cs generalizing j with
  | nil => simp at hx
  | cons c r ih =>
    simp only [V.alll, Bool.and_eq_true] at h
    cases j with
    | zero => simp at hx; subst hx; exact h.1
    | succ j => exact ih h.2 (by simpa using hx)
theorem allll_get {p : Nat → Bool} {xs : List (List V)} (h : V.allll p xs = true) {j : Nat} {x : List V} (hx : xs[j]? = some x) : V.alll p x = true := by
  induction xs generalizing j with
  | nil => simp at hx
  | cons c r ih =>
    simp only [V.allll, Bool.and_eq_true] at h
    cases j with
    | zero => simp at hx; subst hx; exact h.1
    | succ j => exact ih h.2 (by simpa using hx)
theorem alll_iff {p : Nat → Bool} {cs : List V} : V.alll p cs = true ↔ ∀ x ∈ cs, V.all p x = true := by
  induction cs with
  | nil => simp [V.alll]
  | cons c r ih => simp [V.alll, ih]
theorem allll_iff {p : Nat → Bool} {xs : List (List V)} : V.allll p xs = true ↔ ∀ r ∈ xs, ∀ x ∈ r, V.all p x = true := by
  induction xs with
  | nil => simp [V.allll]
  | cons c r ih => simp [V.allll, ih, alll_iff]

theorem ltl_get {n : Nat} {cs : List V} (h : V.ltl n cs = true) {j : Nat} {x : V} (hx : cs[j]? = some x) : V.lt n x = true := alll_get h hx
theorem ltl_iff {n : Nat} {cs : List V} : V.ltl n cs = true ↔ ∀ x ∈ cs, V.lt n x = true := alll_iff

/-- Of the blocks that a value names only those count that meet p. -/
theorem Rel.on {W : World} {I : Nat → Nat → Prop} {p : Nat → Bool} {m : List (Option Nat)} {v : V} {w : Value} (h : Rel W I m v w) :
    ∀ {m' : List (Option Nat)}, (∀ (id g : Nat), p id = true → m[id]? = some (some g) → m'[id]? = some (some g)) → V.all p v = true → Rel W I m' v w := by
  induction h with
  | any => exact fun _ _ => .any
  | bool => exact fun _ _ => .bool
  | int => exact fun _ _ => .int
  | str h => exact fun _ _ => .str h
  | nilp => exact fun _ _ => .nilp
  | ptr h => exact fun hm hl => .ptr (hm _ _ hl h)
  | @pc m d cs g o f hc hr ih =>
    intro m' hm hl
    refine .pc hc fun j x hx => ?_
    cases d with
    | true => simpa using hr j x hx
    | false => simp only [V.all, Bool.false_or] at hl; exact ih j x hx (by simpa using hm) (alll_get hl hx)
  | @sl m d xs a n c g o sz f hn hc ha hs hi hr ih =>
    intro m' hm hl
    refine .sl hn hc ha hs hi fun i row j x h1 h2 => ?_
    cases d with
    | true => simpa using hr i row j x h1 h2
    | false => simp only [V.all, Bool.false_or] at hl; exact ih i row j x h1 h2 (by simpa using hm) (alll_get (allll_get hl h1) h2)
  | ms h hc => exact fun hm hl => .ms (hm _ _ hl h) hc
  | fn hs hr ih => exact fun hm hl => .fn hs fun j x hx => ih j x hx hm (alll_get (by simpa only [V.all] using hl) hx)
  | yld h => exact fun hm hl => .yld (hm _ _ hl h)
  | nilf => exact fun _ _ => .nilf
  | nilm => exact fun _ _ => .nilm
  | map h => exact fun hm hl => .map (hm _ _ hl h)
  | agg hs h1 hr ih => exact fun hm hl => .agg hs h1 fun j x hx => ih j x hx hm (alll_get (by simpa only [V.all] using hl) hx)
  | tup hs hr ih => exact fun hm hl => .tup hs fun j x hx => ih j x hx hm (alll_get (by simpa only [V.all] using hl) hx)

/-- What names no block from n on is related over the first n blocks alone. -/
theorem Rel.restrict {W : World} {I : Nat → Nat → Prop} {n : Nat} {m : List (Option Nat)} {v : V} {w : Value} (h : Rel W I m v w) (hl : V.lt n v = true) : Rel W I (m.take n) v w :=
  h.on (fun id g hid hg => by simp only [Nat.blt_eq] at hid; rw [List.getElem?_take, if_pos hid]; exact hg) hl

theorem Rel.pure {W : World} {I : Nat → Nat → Prop} {m m' : List (Option Nat)} {v : V} {w : Value} (h : Rel W I m v w) (hl : V.lt 0 v = true) : Rel W I m' v w :=
  h.on (fun id g hid hg => by simp at hid) hl

theorem renl_get {f : Nat → Nat} {cs : List V} {j : Nat} {y : V} (h : (V.renl f cs)[j]? = some y) : ∃ x, cs[j]? = some x ∧ y = V.ren f x := by
  induction cs generalizing j with
  | nil => simp [V.renl] at h
  | cons c r ih =>
    simp only [V.renl] at h
    cases j with
    | zero => simp at h; exact ⟨c, by simp, h.symm⟩
    | succ j => simpa using ih (by simpa using h)
theorem renll_get {f : Nat → Nat} {xs : List (List V)} {j : Nat} {y : List V} (h : (V.renll f xs)[j]? = some y) : ∃ x, xs[j]? = some x ∧ y = V.renl f x := by
  induction xs generalizing j with
  | nil => simp [V.renll] at h
  | cons c r ih =>
    simp only [V.renll] at h
    cases j with
    | zero => simp at h; exact ⟨c, by simp, h.symm⟩
    | succ j => simpa using ih (by simpa using h)
@[simp] theorem renl_length {f : Nat → Nat} {cs : List V} : (V.renl f cs).length = cs.length := by
  induction cs with
  | nil => rfl
  | cons c r ih => simp [V.renl, ih]
@[simp] theorem renll_length {f : Nat → Nat} {cs : List (List V)} : (V.renll f cs).length = cs.length := by
  induction cs with
  | nil => rfl
  | cons c r ih => simp [V.renll, ih]

/-- Renamed. -/
theorem Rel.ren {W : World} {I : Nat → Nat → Prop} {p : Nat → Bool} {f : Nat → Nat} {m : List (Option Nat)} {v : V} {w : Value} (h : Rel W I m v w) :
    ∀ {m' : List (Option Nat)}, (∀ (id g : Nat), p id = true → m[id]? = some (some g) → m'[f id]? = some (some g)) → V.all p v = true → Rel W I m' (v.ren f) w := by
  induction h with
  | any => exact fun _ _ => .any
  | bool => exact fun _ _ => .bool
  | int => exact fun _ _ => .int
  | str h => exact fun _ _ => .str h
  | nilp => exact fun _ _ => .nilp
  | ptr h => exact fun hm hl => .ptr (hm _ _ hl h)
  | @pc m d cs g o f hc hr ih =>
    intro m' hm hl
    simp only [V.ren]
    cases d with
    | true => simpa using Rel.pc (m := m') (d := true) hc (by simpa using hr)
    | false =>
      simp only [V.all, Bool.false_or] at hl
      refine .pc (fun j x hx => ?_) (f := f) fun j x hx => ?_
      · obtain ⟨y, hy, _⟩ := renl_get (by simpa using hx); exact hc j y hy
      · obtain ⟨y, hy, rfl⟩ := renl_get (by simpa using hx); simpa using ih j y hy (by simpa using hm) (alll_get hl hy)
  | @sl m d xs a n c g o sz f hn hc ha hs hi hr ih =>
    intro m' hm hl
    simp only [V.ren]
    cases d with
    | true => simpa using Rel.sl (m := m') (d := true) hn hc ha hs hi (by simpa using hr)
    | false =>
      simp only [V.all, Bool.false_or] at hl
      refine .sl (sz := sz) (f := f) (g := g) (o := o) (by simpa using hn) hc (fun h => ha fun h' => h (by simp [h', V.renll])) (fun i row h => ?_) (fun i row j x h1 h2 => ?_) fun i row j x h1 h2 => ?_
      · obtain ⟨y, hy, rfl⟩ := renll_get (by simpa using h); simpa using hs i y hy
      · obtain ⟨y, hy, rfl⟩ := renll_get (by simpa using h1); obtain ⟨z, hz, _⟩ := renl_get h2; exact hi i y j z hy hz
      · obtain ⟨y, hy, rfl⟩ := renll_get (by simpa using h1); obtain ⟨z, hz, rfl⟩ := renl_get h2; simpa using ih i y j z hy hz (by simpa using hm) (alll_get (allll_get hl hy) hz)
  | ms h hc => exact fun hm hl => .ms (hm _ _ hl h) hc
  | fn hs hr ih => exact fun hm hl => .fn (by simpa using hs) fun j x hx => by obtain ⟨y, hy, rfl⟩ := renl_get hx; exact ih j y hy hm (alll_get (by simpa only [V.all] using hl) hy)
  | yld h => exact fun hm hl => .yld (hm _ _ hl h)
  | nilf => exact fun _ _ => .nilf
  | nilm => exact fun _ _ => .nilm
  | map h => exact fun hm hl => .map (hm _ _ hl h)
  | agg hs h1 hr ih => exact fun hm hl => .agg (by simpa using hs) (fun j x hx => by obtain ⟨y, hy, rfl⟩ := renl_get hx; exact h1 j y hy) fun j x hx => by obtain ⟨y, hy, rfl⟩ := renl_get hx; exact ih j y hy hm (alll_get (by simpa only [V.all] using hl) hy)
  | tup hs hr ih => exact fun hm hl => .tup (by simpa using hs) fun j x hx => by obtain ⟨y, hy, rfl⟩ := renl_get hx; exact ih j y hy hm (alll_get (by simpa only [V.all] using hl) hy)

/-- What a related value names lies in the heap. -/
theorem Rel.all {W : World} {I : Nat → Nat → Prop} {p : Nat → Bool} {m : List (Option Nat)} {v : V} {w : Value} (h : Rel W I m v w) : (∀ (id g : Nat), m[id]? = some (some g) → p id = true) → V.all p v = true := by
  induction h with
  | ptr h => exact fun hp => hp _ _ h
  | @pc m d cs g o f hc hr ih =>
    intro hp
    cases d with
    | true => simp [V.all]
    | false =>
      simp only [V.all, Bool.false_or, alll_iff]
      intro x hx
      obtain ⟨j, hj⟩ := List.mem_iff_getElem?.1 hx
      exact ih j x hj (by simpa using hp)
  | @sl m d xs a n c g o sz f hn hc ha hs hi hr ih =>
    intro hp
    cases d with
    | true => simp [V.all]
    | false =>
      simp only [V.all, Bool.false_or, allll_iff]
      intro r hr' x hx
      obtain ⟨i, hi'⟩ := List.mem_iff_getElem?.1 hr'
      obtain ⟨j, hj⟩ := List.mem_iff_getElem?.1 hx
      exact ih i r j x hi' hj (by simpa using hp)
  | ms h hl => exact fun hp => hp _ _ h
  | fn hl hr ih =>
    intro hp
    simp only [V.all, alll_iff]
    intro x hx
    obtain ⟨j, hj⟩ := List.mem_iff_getElem?.1 hx
    exact ih j x hj hp
  | yld h => exact fun hp => hp _ _ h
  | map h => exact fun hp => hp _ _ h
  | agg hl h1 hr ih =>
    intro hp
    simp only [V.all, alll_iff]
    intro x hx
    obtain ⟨j, hj⟩ := List.mem_iff_getElem?.1 hx
    exact ih j x hj hp
  | tup hl hr ih =>
    intro hp
    simp only [V.all, alll_iff]
    intro x hx
    obtain ⟨j, hj⟩ := List.mem_iff_getElem?.1 hx
    exact ih j x hj hp
  | _ => exact fun _ => rfl

theorem Rel.lt {W : World} {I : Nat → Nat → Prop} {m : List (Option Nat)} {v : V} {w : Value} (h : Rel W I m v w) : V.lt m.length v = true :=
  h.all fun id g hg => by simp only [Nat.blt_eq]; exact (List.getElem?_eq_some_iff.1 hg).1

/-- Constants. -/
theorem rel_const {W : World} {I : Nat → Nat → Prop} {m : List (Option Nat)} (v : Value) : Rel W I m (ofConst v) v := by
  unfold ofConst
  split <;> first | exact .bool | exact .int | exact .str rfl | exact .nilp | exact .nilf | exact .nilm | exact .any | skip
  exact .sl (g := 0) (o := 0) (sz := 0) (f := fun _ _ => undef) rfl (by simp) (by simp) (by simp) (by simp) (by simp)

end Go.Abs
