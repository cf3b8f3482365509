/- The state of the interpreter stands for the state of the model: the relation, and the steps that keep it. -/
import Derived.Test.YtpjolollnhfciaaAbsRel
set_option linter.all false
namespace Go.Abs

/-- The types of bytes; code that may run. -/
class BT where
  byte : TypeId
  good : FuncId → Code → Prop

def BT.is [BT] (e : TypeId) : Prop := e = BT.byte

variable [BT]

inductive BlkOk (W : World) (I : Nat → Nat → Prop) (m : List (Option Nat)) : Blk → Option Nat → Prop
  | cells {ow : List Nat} {cs : List V} {g : Nat} {arr : Array Value} {t : TypeId} (h : W.heap[g]? = some (.cells arr t (0, 0))) (hs : arr.size = cs.length)
      (h1 : ∀ (j : Nat) (x : V), cs[j]? = some x → (arr.getD j undef).oneCell' = true) (hr : ∀ (j : Nat) (x : V), cs[j]? = some x → Rel W I m x (arr.getD j undef)) : BlkOk W I m (.cells t ow cs) (some g)
  | loop {s : LoopState} {pe : Option Code} {fn : FuncId} {fr : List V} {ps : List Tmp} {as bo : Code} {g : Nat} {r : Loop} (h : W.heap[g]? = some (.loop r)) (hst : r.state = s) (hpe : r.pending = pe) (hps : r.params.toList = ps)
      (has : r.assign = as) (hbo : r.body = bo) (hs : r.tmps.size = fr.length) (hr : ∀ (j : Nat) (x : V), fr[j]? = some x → Rel W I m x (r.tmps.getD j undef)) (hg : BT.good fn as ∧ BT.good fn bo) : BlkOk W I m (.loop s pe fn fr ps as bo) (some g)
  | dead {g : Nat} {o : Obj} (h : W.heap[g]? = some o) (hd : ∀ x, o ≠ .deferred x) : BlkOk W I m .dead (some g)
  | ahead {b : Blk} : BlkOk W I m b none

def claimOf : Value → Option Nat
  | .slice (some a) _ (_ + 1) => some a.block
  | _ => none

/-- An owner, what it holds, and the value that this stands for. -/
inductive Held (W : World) (m : List (Option Nat)) (st : St) (tmps : Array Value) : Owner → List (List V) → Value → Prop
  | tmp {t : Nat} {d : Bool} {xs : List (List V)} (ho : t ∈ st.own) (hx : st.fr[t]? = some (.sl d xs)) : Held W m st tmps (.tmp t) xs (tmps.getD t undef)
  | cell {id off : Nat} {ow : List Nat} {cs : List V} {d : Bool} {xs : List (List V)} {g : Nat} {v : Value} {t : TypeId} (hb : st.hp[id]? = some (.cells t ow cs)) (ho : off ∈ ow)
      (hx : cs[off]? = some (.sl d xs)) (hg : m[id]? = some (some g)) (hv : W.cell? ⟨g, off, none⟩ = some v) : Held W m st tmps (.cell id off) xs v

/-- The spare cells of the slice v, that reads as xs, are nobody else's. -/
def OwnRow (W : World) (I : Nat → Nat → Prop) (xs : List (List V)) (v : Value) : Prop :=
  (∃ a, v = .slice a xs.length 0) ∨
  ∃ g c arr e sz fz, v = .slice (some ⟨g, 0, none⟩) xs.length (c + 1) ∧ xs ≠ [] ∧ (∀ row ∈ xs, row.length = sz) ∧ W.heap[g]? = some (.cells arr e fz) ∧ fz.2 ≤ xs.length * sz ∧ arr.size = (c + 1) * sz ∧
    xs.length ≤ c + 1 ∧ (∀ o, xs.length * sz ≤ o → ¬ I g o) ∧ (headByte xs = true → BT.is e)

structure Base where
  A : Nat → Prop
  W : World
  I : Nat → Nat → Prop
  m : List (Option Nat)
  D : List Nat := []
  n0 : Nat := m.length

/-- What has become of the world since the activation began: below, nothing but the blocks in A has changed. -/
structure Grow (B : Base) (W : World) (I : Nat → Nat → Prop) : Prop where
  os : W.os = B.W.os
  tape : W.tape = B.W.tape
  output : W.output = B.W.output
  size : B.W.heap.size ≤ W.heap.size
  same : ∀ g, g < B.W.heap.size → ¬ B.A g → W.heap[g]? = B.W.heap[g]?
  sub : ∀ g o, B.I g o → I g o
  fresh : ∀ g o, I g o → B.I g o ∨ B.W.heap.size ≤ g ∨ B.A g
  keep : KeepI B.I B.W W
  dfr : ∀ g, g ∈ B.D → W.heap[g]? = some (.deferred (some []))
  dnd : B.D.Nodup ∧ ∀ g, g ∈ B.D → B.W.heap.size ≤ g

def AliasOk (W : World) (m : List (Option Nat)) (tmps : Array Value) (t : Tmp) : Owner → Prop
  | .tmp u => t < tmps.size → tmps.getD t undef = tmps.getD u undef
  | .cell id off => t < tmps.size → ∃ g, m[id]? = some (some g) ∧ W.cell? ⟨g, off, none⟩ = some (tmps.getD t undef)
  | .base id off => t < tmps.size → ∃ g a n c p, m[id]? = some (some g) ∧ W.cell? ⟨g, off, none⟩ = some (.slice a n c) ∧ tmps.getD t undef = .pointer p ∧ (c ≠ 0 → p = a)

structure Sim (B : Base) (W : World) (I : Nat → Nat → Prop) (m : List (Option Nat)) (st : St) (tmps : Array Value) : Prop where
  grow : Grow B W I
  pre : B.m <+: m
  live : ∀ g o : Nat, I g o → ∃ v, W.cell? ⟨g, o, none⟩ = some v
  len : tmps.size = st.fr.length
  fr : ∀ (t : Nat) (x : V), st.fr[t]? = some x → Rel W I m x (tmps.getD t undef)
  mlen : m.length = st.hp.length
  inj : ∀ i j g : Nat, m[i]? = some (some g) → m[j]? = some (some g) → i = j
  blk : ∀ (id : Nat) (b : Blk), st.hp[id]? = some b → ∃ x : Option Nat, m[id]? = some x ∧ BlkOk W I m b x
  mA : ∀ g : Nat, some g ∈ m → B.A g ∨ B.W.heap.size ≤ g
  notI : ∀ g : Nat, some g ∈ m → ∀ o : Nat, ¬ I g o
  own : ∀ (l : Owner) (xs : List (List V)) (v : Value), Held W m st tmps l xs v → OwnRow W I xs v
  ownA : ∀ (l : Owner) (xs : List (List V)) (v : Value) (g : Nat), Held W m st tmps l xs v → claimOf v = some g → (B.A g ∨ B.W.heap.size ≤ g) ∧ some g ∉ m
  ownInj : ∀ (l l' : Owner) (xs xs' : List (List V)) (v v' : Value) (g : Nat), Held W m st tmps l xs v → Held W m st tmps l' xs' v' → claimOf v = some g → claimOf v' = some g → l = l'
  al : ∀ (t : Tmp) (o : Owner), (t, o) ∈ st.al → AliasOk W m tmps t o
  nb : B.n0 ≤ st.nb

def aput (tmps : Array Value) (d : Option Tmp) (v : Value) : Array Value :=
  match d with
  | none => tmps
  | some d => tmps.setIfInBounds d v

theorem put_tmps (a : Act) (d : Option Tmp) (v : Value) : (a.put d v).tmps = aput a.tmps d v := by cases d <;> rfl
theorem put_defers (a : Act) (d : Option Tmp) (v : Value) : (a.put d v).defers = a.defers := by cases d <;> rfl

theorem getD_set {a : Array Value} {d t : Nat} {v : Value} (hd : d < a.size) : (a.setIfInBounds d v).getD t undef = if t = d then v else a.getD t undef := by
  simp only [Array.getD_eq_getD_getElem?, Array.getElem?_setIfInBounds]
  by_cases h : t = d
  · subst h; simp [hd]
  · rw [if_neg (fun h' => h h'.symm), if_neg h]

theorem getD_of_get {α : Type} {l : List α} {t : Nat} {x d : α} (h : l[t]? = some x) : l.getD t d = x := by simp [List.getD_eq_getElem?_getD, h]

theorem cell_of_blk {W : World} {g o : Nat} {arr : Array Value} {t : TypeId} {fr : Nat × Nat} (h : W.heap[g]? = some (.cells arr t fr)) : W.cell? ⟨g, o, none⟩ = arr[o]? := by
  simp [World.cell?, h]
theorem lt_of_cell {W : World} {g o : Nat} {v : Value} (h : W.cell? ⟨g, o, none⟩ = some v) : g < W.heap.size := World.block_lt_of_cell? W ⟨g, o, none⟩ h
theorem cell_same {W W' : World} {g o : Nat} (h : W'.heap[g]? = W.heap[g]?) : W'.cell? ⟨g, o, none⟩ = W.cell? ⟨g, o, none⟩ := by simp [World.cell?, h]
theorem lt_of_heap {W : World} {g : Nat} {o : Obj} (h : W.heap[g]? = some o) : g < W.heap.size := (Array.getElem?_eq_some_iff.1 h).1

theorem BlkOk.heap {W : World} {I : Nat → Nat → Prop} {m : List (Option Nat)} {b : Blk} {g : Nat} (h : BlkOk W I m b (some g)) : g < W.heap.size := by
  cases h with
  | cells h => exact lt_of_heap h
  | loop h => exact lt_of_heap h
  | dead h => exact lt_of_heap h

/-- What a block is has nothing to do with deferred calls. -/
theorem BlkOk.notD {W : World} {I : Nat → Nat → Prop} {m : List (Option Nat)} {b : Blk} {g : Nat} (h : BlkOk W I m b (some g)) {x : Option (List Deferred)} : W.heap[g]? ≠ some (.deferred x) := by
  intro he
  cases h with
  | cells h => rw [h] at he; cases he
  | loop h => rw [h] at he; cases he
  | dead h hd => rw [h] at he; cases he; exact hd _ rfl

theorem BlkOk.mono {W W' : World} {I I' : Nat → Nat → Prop} {m m' : List (Option Nat)} {b : Blk} {x : Option Nat} (h : BlkOk W I m b x) (hI : ∀ g o, I g o → I' g o) (hk : KeepI I W W') (hm : MLe m m')
    (hs : ∀ g, x = some g → W'.heap[g]? = W.heap[g]?) : BlkOk W' I' m' b x := by
  cases h with
  | cells h hs' h1 hr => exact .cells ((hs _ rfl).trans h) hs' h1 fun j x hx => (hr j x hx).mono_le hI hk hm
  | loop h e1 e2 e4 e5 e6 hs' hr hg => exact .loop ((hs _ rfl).trans h) e1 e2 e4 e5 e6 hs' (fun j x hx => (hr j x hx).mono_le hI hk hm) hg
  | dead h hd => exact .dead ((hs _ rfl).trans h) hd
  | ahead => exact .ahead

theorem claim_lt {W : World} {I : Nat → Nat → Prop} {xs : List (List V)} {v : Value} (h : OwnRow W I xs v) {g : Nat} (hc : claimOf v = some g) : g < W.heap.size := by
  rcases h with ⟨a, rfl⟩ | ⟨g', c, arr, e, sz, fz, rfl, _, _, hh, _⟩
  · cases a <;> simp [claimOf] at hc
  · simp [claimOf] at hc; subst hc; exact lt_of_heap hh

theorem OwnRow.mono {W W' : World} {I I' : Nat → Nat → Prop} {xs : List (List V)} {v : Value} (h : OwnRow W I xs v) (hs : ∀ g, claimOf v = some g → W'.heap[g]? = W.heap[g]?)
    (hI : ∀ g o, claimOf v = some g → I' g o → I g o) : OwnRow W' I' xs v := by
  rcases h with h | ⟨g, c, arr, e, sz, fz, rfl, h1, h2, h3, h3', h4, h5, h6, h7⟩
  · exact .inl h
  · exact .inr ⟨g, c, arr, e, sz, fz, rfl, h1, h2, (hs g rfl).trans h3, h3', h4, h5, fun o ho hi => h6 o ho (hI g o rfl hi), h7⟩

/-- A set of blocks that stays as it was: all that lie in the world before. -/
theorem Held.world {W W' : World} {m : List (Option Nat)} {st : St} {tmps : Array Value} {l : Owner} {xs : List (List V)} {v : Value} (h : Held W' m st tmps l xs v)
    (hs : ∀ g, some g ∈ m → W'.heap[g]? = W.heap[g]?) : Held W m st tmps l xs v := by
  cases h with
  | tmp ho hx => exact .tmp ho hx
  | cell hb ho hx hg hv => exact .cell hb ho hx hg (by rw [← cell_same (hs _ (List.mem_of_getElem? hg))]; exact hv)

theorem Sim.mlt {B : Base} {W : World} {I : Nat → Nat → Prop} {m : List (Option Nat)} {st : St} {tmps : Array Value} (h : Sim B W I m st tmps) {g : Nat} (hg : some g ∈ m) : g < W.heap.size := by
  obtain ⟨id, hid⟩ := List.mem_iff_getElem?.1 hg
  have hlt : id < st.hp.length := by rw [← h.mlen]; exact (List.getElem?_eq_some_iff.1 hid).1
  obtain ⟨g', hg', hb⟩ := h.blk id _ (List.getElem?_eq_getElem hlt)
  rw [hid] at hg'; cases hg'
  exact hb.heap

theorem Sim.ilt {B : Base} {W : World} {I : Nat → Nat → Prop} {m : List (Option Nat)} {st : St} {tmps : Array Value} (h : Sim B W I m st tmps) {g o : Nat} (hg : I g o) : g < W.heap.size := by
  obtain ⟨v, hv⟩ := h.live g o hg
  exact lt_of_cell hv

/-- The world has changed: old blocks only in X, which nobody holds; new cells are never written again. -/
theorem Sim.worldX {B : Base} {W W' : World} {I I' : Nat → Nat → Prop} {m : List (Option Nat)} {st : St} {tmps : Array Value} (h : Sim B W I m st tmps) (X : Nat → Prop)
    (hos : W'.os = W.os) (htape : W'.tape = W.tape) (hout : W'.output = W.output) (hsize : W.heap.size ≤ W'.heap.size) (hsame : ∀ g, g < W.heap.size → ¬ X g → W'.heap[g]? = W.heap[g]?)
    (hXm : ∀ g, X g → some g ∉ m) (hXo : ∀ g l xs v, X g → Held W m st tmps l xs v → claimOf v ≠ some g) (hXA : ∀ g, X g → B.A g ∨ B.W.heap.size ≤ g) (hk : KeepI I W W')
    (hI : ∀ g o, I g o → I' g o) (hnew : ∀ g o, I' g o → I g o ∨ W.heap.size ≤ g ∨ X g) (hlive : ∀ g o, I' g o → ∃ v, W'.cell? ⟨g, o, none⟩ = some v)
    (hXd : ∀ g, X g → ∀ x, W.heap[g]? ≠ some (.deferred x) := by intro g h; exact h.elim) : Sim B W' I' m st tmps := by
  have hm : ∀ g, some g ∈ m → W'.heap[g]? = W.heap[g]? := fun g hg => hsame g (h.mlt hg) fun hx => hXm g hx hg
  have hheld : ∀ {l xs v}, Held W' m st tmps l xs v → Held W m st tmps l xs v := fun hh => hh.world hm
  refine ⟨⟨hos.trans h.grow.os, htape.trans h.grow.tape, hout.trans h.grow.output, Nat.le_trans h.grow.size hsize,
      fun g hg ha => (hsame g (Nat.lt_of_lt_of_le hg h.grow.size) fun hx => (hXA g hx).elim ha fun hle => by omega).trans (h.grow.same g hg ha),
      fun g o hi => hI g o (h.grow.sub g o hi), fun g o hi => ?_, fun g o hi => (hk g o (h.grow.sub g o hi)).trans (h.grow.keep g o hi), fun g hg => (hsame g (lt_of_heap (h.grow.dfr g hg)) fun hx => hXd g hx _ (h.grow.dfr g hg)).trans (h.grow.dfr g hg), h.grow.dnd⟩, h.pre, hlive, h.len, fun t x hx => (h.fr t x hx).mono hI hk (List.prefix_refl _),
    h.mlen, h.inj, fun id b hb => ?_, h.mA, fun g hg o hi => ?_, fun l xs v hh => ?_, fun l xs v g hh => h.ownA l xs v g (hheld hh), fun l l' xs xs' v v' g hh hh' => h.ownInj l l' xs xs' v v' g (hheld hh) (hheld hh'), fun t o ho => ?_, h.nb⟩
  · rcases hnew g o hi with hi | hi | hi
    · exact h.grow.fresh g o hi
    · exact .inr (.inl (Nat.le_trans h.grow.size hi))
    · exact .inr ((hXA g hi).symm)
  · obtain ⟨x, hx, hb'⟩ := h.blk id b hb
    exact ⟨x, hx, hb'.mono hI hk (MLe.refl _) fun g e => hm g (List.mem_of_getElem? (e ▸ hx))⟩
  · rcases hnew g o hi with hi | hi | hi
    · exact h.notI g hg o hi
    · exact absurd (h.mlt hg) (by omega)
    · exact hXm g hi hg
  · have ho := h.own l xs v (hheld hh)
    refine ho.mono (fun g hg => hsame g (claim_lt ho hg) fun hx => hXo g l xs v hx (hheld hh) hg) fun g o hg hi => ?_
    rcases hnew g o hi with hi | hi | hi
    · exact hi
    · exact absurd (claim_lt ho hg) (by omega)
    · exact absurd hg (hXo g l xs v hi (hheld hh))
  · have := h.al t o ho
    cases o with
    | tmp u => exact this
    | cell id off =>
      intro hlt
      obtain ⟨g, hg, hc⟩ := this hlt
      exact ⟨g, hg, by rw [cell_same (hm g (List.mem_of_getElem? hg))]; exact hc⟩
    | base id off =>
      intro hlt
      obtain ⟨g, a, n, c, p, hg, hc, hp⟩ := this hlt
      exact ⟨g, a, n, c, p, hg, by rw [cell_same (hm g (List.mem_of_getElem? hg))]; exact hc, hp⟩

/-- The world has grown: what was there is as it was; new cells, in new blocks, are never written again. -/
theorem Sim.world {B : Base} {W W' : World} {I I' : Nat → Nat → Prop} {m : List (Option Nat)} {st : St} {tmps : Array Value} (h : Sim B W I m st tmps)
    (hos : W'.os = W.os) (htape : W'.tape = W.tape) (hout : W'.output = W.output) (hsize : W.heap.size ≤ W'.heap.size) (hsame : ∀ g, g < W.heap.size → W'.heap[g]? = W.heap[g]?)
    (hI : ∀ g o, I g o → I' g o) (hnew : ∀ g o, I' g o → I g o ∨ W.heap.size ≤ g) (hlive : ∀ g o, I' g o → ∃ v, W'.cell? ⟨g, o, none⟩ = some v) : Sim B W' I' m st tmps :=
  h.worldX (fun _ => False) hos htape hout hsize (fun g hg _ => hsame g hg) (fun _ h => h.elim) (fun _ _ _ _ h => h.elim) (fun _ h => h.elim)
    (fun _ _ hi => cell_same (hsame _ (h.ilt hi))) hI (fun g o hi => (hnew g o hi).imp id .inl) hlive

/-- Only the count of draws has moved. -/
theorem Sim.drew {B : Base} {W : World} {I : Nat → Nat → Prop} {m : List (Option Nat)} {st : St} {tmps : Array Value} (h : Sim B W I m st tmps) (n : Nat) : Sim B { W with drawn := n } I m st tmps :=
  h.world rfl rfl rfl (Nat.le_refl _) (fun _ _ => rfl) (fun _ _ h => h) (fun _ _ h => .inl h) h.live

theorem held_put {W : World} {m : List (Option Nat)} {st : St} {tmps : Array Value} {d : Nat} {x : V} {w : Value} {l : Owner} {xs : List (List V)} {v : Value}
    (h : Held W m (st.put (some d) x) (aput tmps (some d) w) l xs v) : Held W m st tmps l xs v ∧ l ≠ .tmp d := by
  cases h with
  | @tmp t dd xs ho hx =>
    simp only [St.put, List.mem_filter, bne_iff_ne, ne_eq] at ho
    simp only [St.put] at hx
    rw [List.getElem?_set_ne (fun e => ho.2 e.symm)] at hx
    have htl : t < st.fr.length := (List.getElem?_eq_some_iff.1 hx).1
    have e : (aput tmps (some d) w).getD t undef = tmps.getD t undef := by
      simp only [aput, Array.getD_eq_getD_getElem?, Array.getElem?_setIfInBounds]
      rw [if_neg (fun e => ho.2 e.symm)]
    rw [e]
    exact ⟨.tmp ho.1 hx, fun e => ho.2 (by cases e; rfl)⟩
  | cell hb ho hx hg hv => exact ⟨.cell hb ho hx hg hv, by simp⟩

/-- A slot takes a value that the abstract one stands for; nobody owns it. -/
theorem Sim.put {B : Base} {W : World} {I : Nat → Nat → Prop} {m : List (Option Nat)} {st : St} {tmps : Array Value} (h : Sim B W I m st tmps) (d : Option Tmp) {x : V} {w : Value} (hr : Rel W I m x w) :
    Sim B W I m (st.put d x) (aput tmps d w) := by
  cases d with
  | none => exact h
  | some d =>
    refine ⟨h.grow, h.pre, h.live, by simp [aput, St.put, h.len], fun t y hy => ?_, h.mlen, h.inj, h.blk, h.mA, h.notI, fun l xs v hh => h.own l xs v (held_put hh).1,
      fun l xs v g hh => h.ownA l xs v g (held_put hh).1, fun l l' xs xs' v v' g hh hh' => h.ownInj l l' xs xs' v v' g (held_put hh).1 (held_put hh').1, fun t o ho => ?_, h.nb⟩
    · simp only [St.put] at hy
      rw [List.getElem?_set] at hy
      by_cases e : d = t
      · subst e
        rw [if_pos rfl] at hy
        split at hy
        · rename_i hlt
          cases hy
          rw [show (aput tmps (some d) w).getD d undef = w from by simp only [aput]; rw [getD_set (by rw [h.len]; exact hlt), if_pos rfl]]
          exact hr
        · cases hy
      · rw [if_neg e] at hy
        have : (aput tmps (some d) w).getD t undef = tmps.getD t undef := by
          simp only [aput, Array.getD_eq_getD_getElem?, Array.getElem?_setIfInBounds]; rw [if_neg e]
        rw [this]; exact h.fr t y hy
    · simp only [St.put, List.mem_filter, Bool.and_eq_true, bne_iff_ne, ne_eq] at ho
      have key : ∀ u, u ≠ d → (aput tmps (some d) w).getD u undef = tmps.getD u undef := fun u hu => by
        simp only [aput, Array.getD_eq_getD_getElem?, Array.getElem?_setIfInBounds]; rw [if_neg (fun e => hu e.symm)]
      have := h.al t o ho.1
      cases o with
      | tmp u => simp only [AliasOk] at this ⊢; intro hlt; rw [key t ho.2.1, key u (fun e => ho.2.2 (by rw [e]))]; exact this (by simpa [aput] using hlt)
      | cell id off => simp only [AliasOk] at this ⊢; intro hlt; rw [key t ho.2.1]; exact this (by simpa [aput] using hlt)
      | base id off => simp only [AliasOk] at this ⊢; intro hlt; rw [key t ho.2.1]; exact this (by simpa [aput] using hlt)

/-- Fewer owners, fewer aliases. -/
theorem Sim.less {B : Base} {W : World} {I : Nat → Nat → Prop} {m : List (Option Nat)} {st : St} {tmps : Array Value} (h : Sim B W I m st tmps) (own : List Nat) (al : List (Tmp × Owner))
    (ho : ∀ t, t ∈ own → t ∈ st.own) (ha : ∀ p, p ∈ al → p ∈ st.al) : Sim B W I m { st with own := own, al := al } tmps := by
  have hh : ∀ {l xs v}, Held W m { st with own := own, al := al } tmps l xs v → Held W m st tmps l xs v := fun hh => by
    cases hh with
    | tmp h1 h2 => exact .tmp (ho _ h1) h2
    | cell h1 h2 h3 h4 h5 => exact .cell h1 h2 h3 h4 h5
  exact ⟨h.grow, h.pre, h.live, h.len, h.fr, h.mlen, h.inj, h.blk, h.mA, h.notI, fun l xs v k => h.own l xs v (hh k), fun l xs v g k => h.ownA l xs v g (hh k),
    fun l l' xs xs' v v' g k k' => h.ownInj l l' xs xs' v v' g (hh k) (hh k'), fun t o k => h.al t o (ha _ k), h.nb⟩

/-- A slot becomes the owner of what it holds. -/
theorem Sim.owns {B : Base} {W : World} {I : Nat → Nat → Prop} {m : List (Option Nat)} {st : St} {tmps : Array Value} (h : Sim B W I m st tmps) (d : Nat) {dd : Bool} {xs : List (List V)}
    (hx : d < st.fr.length → st.fr[d]? = some (.sl dd xs)) (hrow : d < st.fr.length → OwnRow W I xs (tmps.getD d undef)) (hA : ∀ g, d < st.fr.length → claimOf (tmps.getD d undef) = some g → (B.A g ∨ B.W.heap.size ≤ g) ∧ some g ∉ m)
    (hinj : ∀ l xs' v' g, Held W m st tmps l xs' v' → claimOf v' = some g → d < st.fr.length → claimOf (tmps.getD d undef) = some g → l = .tmp d) :
    Sim B W I m (st.owns (some d) true) tmps := by
  have hh : ∀ {l xs' v}, Held W m (st.owns (some d) true) tmps l xs' v → Held W m st tmps l xs' v ∨ (l = .tmp d ∧ d < st.fr.length ∧ xs' = xs ∧ v = tmps.getD d undef) := fun hh => by
    cases hh with
    | @tmp t d' xs' h1 h2 =>
      simp only [St.owns, if_true, List.mem_cons] at h1 h2
      rcases h1 with rfl | h1
      · have hlt : t < st.fr.length := (List.getElem?_eq_some_iff.1 h2).1
        have := hx hlt; rw [h2] at this; cases this
        exact .inr ⟨rfl, hlt, rfl, rfl⟩
      · exact .inl (.tmp h1 h2)
    | cell h1 h2 h3 h4 h5 => exact .inl (.cell h1 h2 h3 h4 h5)
  refine ⟨h.grow, h.pre, h.live, h.len, h.fr, h.mlen, h.inj, h.blk, h.mA, h.notI, fun l xs' v k => ?_, fun l xs' v g k hc => ?_, fun l l' xs1 xs2 v v' g k k' hc hc' => ?_, h.al, by simpa [St.owns] using h.nb⟩
  · rcases hh k with k | ⟨rfl, hlt, rfl, rfl⟩
    · exact h.own l _ v k
    · exact hrow hlt
  · rcases hh k with k | ⟨rfl, hlt, rfl, rfl⟩
    · exact h.ownA l _ v g k hc
    · exact hA g hlt hc
  · rcases hh k with k | ⟨rfl, hlt, rfl, rfl⟩ <;> rcases hh k' with k' | ⟨rfl, hlt', rfl, rfl⟩
    · exact h.ownInj l l' _ _ v v' g k k' hc hc'
    · exact hinj l _ v g k hc hlt' hc'
    · exact (hinj l' _ v' g k' hc' hlt hc).symm
    · rfl

/-- A block that was laid nowhere is laid: at the end, or in a hole. -/
theorem Sim.lay {B : Base} {W : World} {I : Nat → Nat → Prop} {m m' : List (Option Nat)} {st : St} {hp' : List Blk} {tmps : Array Value} (h : Sim B W I m st tmps) (id : Nat) (ow : List Nat) (cs : List V) (arr : Array Value) (t : TypeId)
    (hs : arr.size = cs.length) (h1 : ∀ (j : Nat) (x : V), cs[j]? = some x → (arr.getD j undef).oneCell' = true) (hr : ∀ (j : Nat) (x : V), cs[j]? = some x → Rel W I m x (arr.getD j undef))
    (hz : ∀ (j : Nat) (d : Bool) (xs : List (List V)), j ∈ ow → cs[j]? = some (.sl d xs) → ∃ a, arr.getD j undef = .slice a xs.length 0)
    (hpre : B.m <+: m') (hlen : m'.length = hp'.length) (hm : ∀ j : Nat, m'[j]? = if j = id then some (some W.heap.size) else m[j]?) (hhp : ∀ j : Nat, hp'[j]? = if j = id then some (.cells t ow cs) else st.hp[j]?)
    (hfree : ∀ g, m[id]? ≠ some (some g)) :
    Sim B (W.alloc (.cells arr t)) I m' { st with hp := hp' } tmps := by
  have hnew : (W.alloc (.cells arr t)).heap[W.heap.size]? = some (.cells arr t (0, 0)) := heap_alloc_new W _
  have hold : ∀ g, g < W.heap.size → (W.alloc (.cells arr t)).heap[g]? = W.heap[g]? := fun g hg => by
    simp only [World.alloc, Array.getElem?_push]; rw [if_neg (by omega)]
  have hb : Sim B (W.alloc (.cells arr t)) I m st tmps := h.world rfl rfl rfl (by simp) hold (fun _ _ h => h) (fun _ _ h => .inl h) fun g o hi => by
    obtain ⟨v, hv⟩ := h.live g o hi
    exact ⟨v, (cell_same (hold g (lt_of_cell hv))).trans hv⟩
  have hk : KeepI I W (W.alloc (.cells arr t)) := fun g o hi => cell_same (hold g (h.ilt hi))
  have hle : MLe m m' := fun j g hg => by
    rw [hm j]
    split
    · rename_i e; subst e; exact absurd hg (hfree g)
    · exact hg
  have hnm : some W.heap.size ∉ m := fun hg => absurd (h.mlt hg) (by omega)
  have hmem : ∀ {g}, some g ∈ m' → some g ∈ m ∨ g = W.heap.size := fun {g} hg => by
    obtain ⟨j, hj⟩ := List.mem_iff_getElem?.1 hg
    rw [hm j] at hj
    split at hj
    · cases hj; exact .inr rfl
    · exact .inl (List.mem_of_getElem? hj)
  have hheld : ∀ {l xs v}, Held (W.alloc (.cells arr t)) m' { st with hp := hp' } tmps l xs v →
      Held (W.alloc (.cells arr t)) m st tmps l xs v ∨ ∃ a, v = .slice a xs.length 0 := fun hh => by
    cases hh with
    | tmp h1 h2 => exact .inl (.tmp h1 h2)
    | @cell j off ow' cs' d xs g v t' hbk ho hx hg hv =>
      simp only [hhp j] at hbk
      rw [hm j] at hg
      split at hbk
      · rename_i e
        rw [if_pos e] at hg
        cases hg
        cases hbk
        obtain ⟨a, ha⟩ := hz off d _ ho hx
        rw [cell_of_blk hnew] at hv
        rw [Array.getD_eq_getD_getElem?, hv] at ha
        exact .inr ⟨a, by simpa using ha⟩
      · rename_i e
        rw [if_neg e] at hg
        exact .inl (.cell hbk ho hx hg hv)
  have hz0 : ∀ {a : Option Addr} {n : Nat}, claimOf (.slice a n 0) = none := fun {a n} => by cases a <;> rfl
  refine ⟨hb.grow, hpre, hb.live, hb.len, fun t x hx => (hb.fr t x hx).mono_le (fun _ _ h => h) (fun _ _ _ => rfl) hle, hlen, fun i j g hi hj => ?_, fun j b hbk => ?_, fun g hg => ?_,
    fun g hg o hi => ?_, fun l xs v hh => ?_, fun l xs v g hh hc => ?_, fun l l' xs xs' v v' g hh hh' hc hc' => ?_, fun t o ho => ?_, h.nb⟩
  · rw [hm i] at hi
    rw [hm j] at hj
    split at hi <;> split at hj
    · rename_i e1 e2; rw [e1, e2]
    · cases hi; exact absurd (List.mem_of_getElem? hj) hnm
    · cases hj; exact absurd (List.mem_of_getElem? hi) hnm
    · exact h.inj i j g hi hj
  · simp only [hhp j] at hbk
    split at hbk
    · rename_i e
      cases hbk
      exact ⟨some W.heap.size, by rw [hm j, if_pos e], .cells hnew hs h1 fun j x hx => (hr j x hx).mono_le (fun _ _ h => h) hk hle⟩
    · rename_i e
      obtain ⟨x, hx, hb'⟩ := hb.blk j b hbk
      exact ⟨x, by rw [hm j, if_neg e]; exact hx, hb'.mono (fun _ _ h => h) (fun _ _ _ => rfl) hle fun _ _ => rfl⟩
  · rcases hmem hg with hg | rfl
    · exact h.mA g hg
    · exact .inr h.grow.size
  · rcases hmem hg with hg | rfl
    · exact h.notI g hg o hi
    · exact absurd (h.ilt hi) (by omega)
  · rcases hheld hh with hh | ⟨a, ha⟩
    · exact hb.own l xs v hh
    · exact .inl ⟨a, ha⟩
  · rcases hheld hh with hh | ⟨a, ha⟩
    · obtain ⟨k1, k2⟩ := hb.ownA l xs v g hh hc
      refine ⟨k1, fun hg => ?_⟩
      rcases hmem hg with hg | rfl
      · exact k2 hg
      · cases hh with
        | tmp q1 q2 => exact absurd (claim_lt (h.own _ _ _ (.tmp q1 q2)) hc) (by omega)
        | @cell id off ow' cs' d xs g2 v t2 q1 q2 q3 q4 q5 =>
          have q5' : W.cell? ⟨g2, off, none⟩ = some v := by
            rw [← q5]; exact (cell_same (hold g2 (h.mlt (List.mem_of_getElem? q4)))).symm
          exact absurd (claim_lt (h.own _ _ _ (.cell q1 q2 q3 q4 q5')) hc) (by omega)
    · subst ha; rw [hz0] at hc; cases hc
  · rcases hheld hh with hh | ⟨a, ha⟩
    · rcases hheld hh' with hh' | ⟨a, ha⟩
      · exact hb.ownInj l l' xs xs' v v' g hh hh' hc hc'
      · subst ha; rw [hz0] at hc'; cases hc'
    · subst ha; rw [hz0] at hc; cases hc
  · have := hb.al t o ho
    cases o with
    | tmp u => exact this
    | cell id off =>
      intro hlt
      obtain ⟨g, hg, hc⟩ := this hlt
      exact ⟨g, hle _ _ hg, hc⟩
    | base id off =>
      intro hlt
      obtain ⟨g, a, n, c, p, hg, hc⟩ := this hlt
      exact ⟨g, a, n, c, p, hle _ _ hg, hc⟩

/-- A block of its own. -/
theorem Sim.push {B : Base} {W : World} {I : Nat → Nat → Prop} {m : List (Option Nat)} {st : St} {tmps : Array Value} (h : Sim B W I m st tmps) (ow : List Nat) (cs : List V) (arr : Array Value) (t : TypeId)
    (hs : arr.size = cs.length) (h1 : ∀ (j : Nat) (x : V), cs[j]? = some x → (arr.getD j undef).oneCell' = true) (hr : ∀ (j : Nat) (x : V), cs[j]? = some x → Rel W I m x (arr.getD j undef))
    (hz : ∀ (j : Nat) (d : Bool) (xs : List (List V)), j ∈ ow → cs[j]? = some (.sl d xs) → ∃ a, arr.getD j undef = .slice a xs.length 0) :
    Sim B (W.alloc (.cells arr t)) I (m ++ [some W.heap.size]) { st with hp := st.hp ++ [.cells t ow cs] } tmps := by
  refine h.lay st.hp.length ow cs arr t hs h1 hr hz (List.IsPrefix.trans h.pre (List.prefix_append _ _)) (by simp [h.mlen]) (fun j => ?_) (fun j => ?_) fun g hg => ?_
  · rw [← h.mlen, List.getElem?_append]
    by_cases e : j < m.length
    · rw [if_pos e, if_neg (by omega)]
    · rw [if_neg e]
      by_cases e2 : j = m.length
      · subst e2; simp
      · rw [if_neg e2, List.getElem?_eq_none (by simp; omega), List.getElem?_eq_none (by omega)]
  · rw [List.getElem?_append]
    by_cases e : j < st.hp.length
    · rw [if_pos e, if_neg (by omega)]
    · rw [if_neg e]
      by_cases e2 : j = st.hp.length
      · subst e2; simp
      · rw [if_neg e2, List.getElem?_eq_none (by simp; omega), List.getElem?_eq_none (by omega)]
  · rw [← h.mlen, List.getElem?_eq_none (Nat.le_refl _)] at hg; cases hg

/-- Room for a block that is laid later. -/
theorem Sim.holes {B : Base} {W : World} {I : Nat → Nat → Prop} {m : List (Option Nat)} {st : St} {tmps : Array Value} (h : Sim B W I m st tmps) (bs : List Blk) :
    Sim B W I (m ++ List.replicate bs.length none) { st with hp := st.hp ++ bs } tmps := by
  generalize hk : bs.length = k
  have hle : MLe m (m ++ List.replicate k none) := MLe.pre (List.prefix_append _ _)
  have hback : ∀ {j g : Nat}, (m ++ List.replicate k none)[j]? = some (some g) → m[j]? = some (some g) := fun {j g} hj => by
    rw [List.getElem?_append] at hj
    split at hj
    · exact hj
    · rw [List.getElem?_replicate] at hj
      split at hj <;> cases hj
  have hmem : ∀ {g}, some g ∈ (m ++ List.replicate k none) → some g ∈ m := fun {g} hg => by
    obtain ⟨j, hj⟩ := List.mem_iff_getElem?.1 hg
    exact List.mem_of_getElem? (hback hj)
  have hbk : ∀ {j : Nat} {b : Blk}, (st.hp ++ bs)[j]? = some b → st.hp[j]? = some b ∨ (st.hp.length ≤ j ∧ j < st.hp.length + k) := fun {j b} hj => by
    have hlt := (List.getElem?_eq_some_iff.1 hj).1
    rw [List.length_append] at hlt
    rw [List.getElem?_append] at hj
    split at hj
    · exact .inl hj
    · exact .inr ⟨by omega, by omega⟩
  have hheld : ∀ {l xs v}, Held W (m ++ List.replicate k none) { st with hp := st.hp ++ bs } tmps l xs v → Held W m st tmps l xs v := fun hh => by
    cases hh with
    | tmp h1 h2 => exact .tmp h1 h2
    | cell h1 h2 h3 h4 h5 =>
      rcases hbk h1 with h1 | ⟨e, _⟩
      · exact .cell h1 h2 h3 (hback h4) h5
      · have := (List.getElem?_eq_some_iff.1 (hback h4)).1; rw [h.mlen] at this; omega
  refine ⟨h.grow, List.IsPrefix.trans h.pre (List.prefix_append _ _), h.live, h.len, fun t x hx => (h.fr t x hx).mono_le (fun _ _ h => h) (fun _ _ _ => rfl) hle, by simp [h.mlen, hk], fun i j g hi hj => h.inj i j g (hback hi) (hback hj), fun j b hj => ?_,
    fun g hg => h.mA g (hmem hg), fun g hg => h.notI g (hmem hg), fun l xs v k => h.own l xs v (hheld k), fun l xs v g k hc => ⟨(h.ownA l xs v g (hheld k) hc).1, fun hg => (h.ownA l xs v g (hheld k) hc).2 (hmem hg)⟩,
    fun l l' xs xs' v v' g k k' => h.ownInj l l' xs xs' v v' g (hheld k) (hheld k'), fun t o ho => ?_, h.nb⟩
  · rcases hbk hj with hj | ⟨h1, h2⟩
    · obtain ⟨x, hx, hb'⟩ := h.blk j b hj
      exact ⟨x, pre_get (List.prefix_append _ _) hx, hb'.mono (fun _ _ h => h) (fun _ _ _ => rfl) hle fun _ _ => rfl⟩
    · refine ⟨none, ?_, .ahead⟩
      rw [← h.mlen] at h1 h2
      rw [List.getElem?_append_right h1, List.getElem?_replicate, if_pos (by omega)]
  · have := h.al t o ho
    cases o with
    | tmp u => exact this
    | cell id off =>
      intro hlt
      obtain ⟨g, hg, hc⟩ := this hlt
      exact ⟨g, hle _ _ hg, hc⟩
    | base id off =>
      intro hlt
      obtain ⟨g, a, n, c, p, hg, hc⟩ := this hlt
      exact ⟨g, a, n, c, p, hle _ _ hg, hc⟩

end Go.Abs
