/- Ranges over functions: the records, the marks, what is forgotten at a loop's head. -/
import Derived.Test.YtpjolollnhfciaaAbsDraw4
import Derived.RangeFuncRecord
set_option linter.all false
namespace Go.Abs
open Go.Lib
variable [BT] {F : Fence} {n : Nat} {P : Program} {cfg : Cfg} {B : Base} {W : World} {I : Nat → Nat → Prop} {m : List (Option Nat)} {st st' : St} {a : Act} {o : Oper} {tmps : Array Value} {orc : Orc}

theorem Sim.gc (h : Sim B W I m st tmps) (hB : B.n0 = B.m.length) : ∃ m', Sim B W I m' st.gc tmps := by
  unfold St.gc
  simp only
  generalize upTo st.hp (st.hp.length - max st.nb (topIds st.fr)) (max st.nb (topIds st.fr)) = n
  split
  · rename_i hc
    simp only [Bool.and_eq_true, Nat.ble_eq] at hc
    obtain ⟨⟨hn, hfr⟩, hb⟩ := hc
    refine ⟨m.take n, ?_⟩
    have hpre : B.m <+: m.take n := by
      obtain ⟨r, hr⟩ := h.pre
      have hle : B.m.length ≤ n := by rw [← hB]; exact Nat.le_trans h.nb hn
      refine ⟨r.take (n - B.m.length), ?_⟩
      rw [← hr, List.take_append, List.take_of_length_le hle]
    have hget : ∀ {j : Nat} {b : Blk}, (st.hp.take n)[j]? = some b → j < n ∧ st.hp[j]? = some b := fun {j b} hj => by
      rw [List.getElem?_take] at hj
      split at hj
      · exact ⟨by assumption, hj⟩
      · cases hj
    have hmg : ∀ {j : Nat} {x : Option Nat}, (m.take n)[j]? = some x → m[j]? = some x := fun {j x} hj => by
      rw [List.getElem?_take] at hj
      split at hj
      · exact hj
      · cases hj
    have hsub : ∀ {g}, some g ∈ m.take n → some g ∈ m := fun hg => List.mem_of_mem_take hg
    have hh : ∀ {l xs u}, Held W (m.take n) { st with hp := st.hp.take n, al := [] } tmps l xs u → Held W m st tmps l xs u := fun hh => by
      cases hh with
      | tmp h1 h2 => exact .tmp h1 h2
      | cell h1 h2 h3 h4 h5 => exact .cell (hget h1).2 h2 h3 (hmg h4) h5
    refine ⟨h.grow, hpre, h.live, h.len, fun t x hx => (h.fr t x hx).restrict (alll_get hfr hx), by simp [h.mlen], fun i j g hi hj => h.inj i j g (hmg hi) (hmg hj), fun j b hj => ?_, fun g hg => h.mA g (hsub hg), fun g hg => h.notI g (hsub hg),
      fun l xs u k => h.own _ _ _ (hh k), fun l xs u g k hc => ⟨(h.ownA _ _ _ _ (hh k) hc).1, fun hg => (h.ownA _ _ _ _ (hh k) hc).2 (hsub hg)⟩,
      fun l l' xs xs' u u' g k k' => h.ownInj l l' xs xs' u u' g (hh k) (hh k'), fun t o k => (by cases k), h.nb⟩
    obtain ⟨hlt, hj'⟩ := hget hj
    obtain ⟨x, hx, hb'⟩ := h.blk j b hj'
    exact ⟨x, by rw [List.getElem?_take, if_pos hlt]; exact hx, hb'.on (List.all_eq_true.1 hb b (List.mem_of_getElem? hj))⟩
  · exact ⟨m, h⟩

theorem heap_old (W : World) (ob : Obj) {g : Nat} (hg : g < W.heap.size) : (W.alloc ob).heap[g]? = W.heap[g]? := by
  simp only [World.alloc, Array.getElem?_push]; rw [if_neg (by omega)]

/-- The world has grown by one object. -/
theorem Sim.grown (h : Sim B W I m st tmps) (ob : Obj) : Sim B (W.alloc ob) I m st tmps :=
  h.world rfl rfl rfl (by simp) (fun g hg => heap_old W ob hg) (fun _ _ h => h) (fun _ _ h => .inl h) fun g o hi => by
    obtain ⟨v, hv⟩ := h.live g o hi
    exact ⟨v, (cell_same (heap_old W ob (lt_of_cell hv))).trans hv⟩

/-- A block that is no row of cells. -/
theorem Sim.pushObj (h : Sim B W I m st tmps) (b : Blk) (ob : Obj) (hnc : ∀ t ow cs, b ≠ .cells t ow cs) (hb : ∀ m', MLe m m' → BlkOk (W.alloc ob) I m' b (some W.heap.size)) :
    Sim B (W.alloc ob) I (m ++ [some W.heap.size]) { st with hp := st.hp ++ [b] } tmps := by
  have k := h.grown ob
  have hle : MLe m (m ++ [some W.heap.size]) := MLe.pre (List.prefix_append _ _)
  have hnm : some W.heap.size ∉ m := fun hg => absurd (h.mlt hg) (by omega)
  have hm : ∀ {j g : Nat}, (m ++ [some W.heap.size])[j]? = some (some g) → m[j]? = some (some g) ∨ (j = m.length ∧ g = W.heap.size) := fun {j g} hj => by
    rw [List.getElem?_append] at hj
    split at hj
    · exact .inl hj
    · have hlt := (List.getElem?_eq_some_iff.1 hj).1
      simp at hlt
      have e : j - m.length = 0 := by omega
      rw [e] at hj
      simp at hj
      exact .inr ⟨by omega, hj.symm⟩
  have hmem : ∀ {g}, some g ∈ (m ++ [some W.heap.size]) → some g ∈ m ∨ g = W.heap.size := fun {g} hg => by
    rcases List.mem_append.1 hg with hg | hg
    · exact .inl hg
    · simp at hg; exact .inr hg
  have hbk : ∀ {j : Nat} {c : Blk}, (st.hp ++ [b])[j]? = some c → st.hp[j]? = some c ∨ (j = st.hp.length ∧ c = b) := fun {j c} hj => by
    rw [List.getElem?_append] at hj
    split at hj
    · exact .inl hj
    · have hlt := (List.getElem?_eq_some_iff.1 hj).1
      simp at hlt
      have e : j - st.hp.length = 0 := by omega
      rw [e] at hj
      simp at hj
      exact .inr ⟨by omega, hj.symm⟩
  have hheld : ∀ {l xs v}, Held (W.alloc ob) (m ++ [some W.heap.size]) { st with hp := st.hp ++ [b] } tmps l xs v → Held (W.alloc ob) m st tmps l xs v := fun hh => by
    cases hh with
    | tmp h1 h2 => exact .tmp h1 h2
    | cell h1 h2 h3 h4 h5 =>
      rcases hbk h1 with h1 | ⟨_, e⟩
      · rcases hm h4 with h4 | ⟨e, _⟩
        · exact .cell h1 h2 h3 h4 h5
        · have := (List.getElem?_eq_some_iff.1 h1).1
          rw [e, h.mlen] at this; omega
      · exact absurd e.symm (hnc _ _ _)
  refine ⟨k.grow, List.IsPrefix.trans k.pre (List.prefix_append _ _), k.live, k.len, fun t x hx => (k.fr t x hx).mono_le (fun _ _ h => h) (fun _ _ _ => rfl) hle, by simp [h.mlen], fun i j g hi hj => ?_, fun j c hj => ?_, fun g hg => ?_, fun g hg o hi => ?_,
    fun l xs v hh => k.own l xs v (hheld hh), fun l xs v g hh hc => ⟨(k.ownA l xs v g (hheld hh) hc).1, fun hg => ?_⟩, fun l l' xs xs' v v' g hh hh' => k.ownInj l l' xs xs' v v' g (hheld hh) (hheld hh'), fun t o ho => ?_, k.nb⟩
  · rcases hm hi with hi | ⟨hi, e⟩ <;> rcases hm hj with hj | ⟨hj, e'⟩
    · exact h.inj i j g hi hj
    · subst e'; exact absurd (List.mem_of_getElem? hi) hnm
    · subst e; exact absurd (List.mem_of_getElem? hj) hnm
    · omega
  · rcases hbk hj with hj | ⟨rfl, rfl⟩
    · obtain ⟨x, hx, hb'⟩ := k.blk j c hj
      exact ⟨x, pre_get (List.prefix_append _ _) hx, hb'.mono (fun _ _ h => h) (fun _ _ _ => rfl) hle fun _ _ => rfl⟩
    · exact ⟨some W.heap.size, by rw [← h.mlen]; simp, hb _ hle⟩
  · rcases hmem hg with hg | rfl
    · exact k.mA g hg
    · exact .inr h.grow.size
  · rcases hmem hg with hg | rfl
    · exact k.notI g hg o hi
    · exact absurd (h.ilt hi) (by omega)
  · rcases hmem hg with hg | rfl
    · exact (k.ownA l xs v g (hheld hh) hc).2 hg
    · have hh2 := (hheld hh).world (W := W) fun g hg => heap_old W ob (h.mlt hg)
      exact absurd (claim_lt (h.own _ _ _ hh2) hc) (by omega)
  · have := k.al t o ho
    cases o with
    | tmp u => exact this
    | cell id off =>
      intro hlt
      obtain ⟨g, hg, hc⟩ := this hlt
      exact ⟨g, hle _ _ hg, hc⟩
    | base id off =>
      intro hlt
      obtain ⟨g, a, n, c, p, hg, hc⟩ := this hlt
      exact ⟨g, a, n, c, p, hle _ _ hg, hc⟩

/-- A block that is no row of cells turns. -/
theorem Sim.setObj (h : Sim B W I m st tmps) {id g : Nat} {b0 : Blk} (hb0 : st.hp[id]? = some b0) (hg : m[id]? = some (some g)) (b : Blk) (ob : Obj) (hnc : ∀ t ow cs, b ≠ .cells t ow cs) (hb : KeepI I W (W.putObj g ob) → BlkOk (W.putObj g ob) I m b (some g)) :
    Sim B (W.putObj g ob) I m { st with hp := st.hp.set id b, al := [] } tmps := by
  have hgm : some g ∈ m := List.mem_of_getElem? hg
  have hother : ∀ g', g' ≠ g → (W.putObj g ob).heap[g']? = W.heap[g']? := fun g' hne => World.putObj_heap_other hne
  have hk : KeepI I W (W.putObj g ob) := fun g' o hi => cell_same (hother g' fun e => h.notI g hgm o (e ▸ hi))
  have hlt : id < st.hp.length := (List.getElem?_eq_some_iff.1 hb0).1
  have hget : ∀ (j : Nat) (c : Blk), (st.hp.set id b)[j]? = some c → (j = id ∧ c = b) ∨ (j ≠ id ∧ st.hp[j]? = some c) := fun j c hj => by
    rw [List.getElem?_set] at hj
    by_cases e : id = j
    · subst e; rw [if_pos rfl, if_pos hlt] at hj; exact .inl ⟨rfl, by simpa using hj.symm⟩
    · rw [if_neg e] at hj; exact .inr ⟨fun e' => e e'.symm, hj⟩
  have hmne : ∀ {j g'}, j ≠ id → m[j]? = some (some g') → g' ≠ g := fun {j g'} hne hj e => by
    subst e
    exact hne (h.inj _ _ _ hj hg)
  have hheld : ∀ {l xs v}, Held (W.putObj g ob) m { st with hp := st.hp.set id b, al := [] } tmps l xs v → Held W m st tmps l xs v := fun hh => by
    cases hh with
    | tmp h1 h2 => exact .tmp h1 h2
    | cell h1 h2 h3 h4 h5 =>
      rcases hget _ _ h1 with ⟨_, e⟩ | ⟨hne, h1⟩
      · exact absurd e.symm (hnc _ _ _)
      · exact .cell h1 h2 h3 h4 ((cell_same (hother _ (hmne hne h4))).symm.trans h5)
  refine ⟨⟨h.grow.os, h.grow.tape, h.grow.output, by simpa using h.grow.size, fun g' hg' ha => (hother g' fun e => ?_).trans (h.grow.same g' hg' ha), h.grow.sub, h.grow.fresh,
      fun g' o hi => (hk g' o (h.grow.sub g' o hi)).trans (h.grow.keep g' o hi), fun g' hg' => (hother g' fun e => h.memD hgm (e ▸ h.grow.dfr g' hg')).trans (h.grow.dfr g' hg'), h.grow.dnd⟩, h.pre, fun g' o hi => ?_, h.len, fun t x hx => (h.fr t x hx).mono (fun _ _ h => h) hk (List.prefix_refl _), by simp [h.mlen], h.inj, fun j c hj => ?_, h.mA, h.notI,
    fun l xs v hh => ?_, fun l xs v g' hh => h.ownA l xs v g' (hheld hh), fun l l' xs xs' v v' g' hh hh' => h.ownInj l l' xs xs' v v' g' (hheld hh) (hheld hh'), fun t o k => (by cases k), h.nb⟩
  · subst e
    rcases h.mA _ hgm with k | k
    · exact ha k
    · omega
  · obtain ⟨v, hv⟩ := h.live g' o hi
    exact ⟨v, (hk g' o hi).trans hv⟩
  · rcases hget j c hj with ⟨rfl, rfl⟩ | ⟨hne, hj⟩
    · exact ⟨_, hg, hb hk⟩
    · obtain ⟨x, hx, hb'⟩ := h.blk j c hj
      exact ⟨x, hx, hb'.mono (fun _ _ h => h) hk (MLe.refl _) fun g' e => hother g' (hmne hne (e ▸ hx))⟩
  · refine (h.own l xs v (hheld hh)).mono (fun g' hc => hother g' fun e => ?_) fun _ _ _ h => h
    subst e
    exact (h.ownA l xs v _ (hheld hh) hc).2 hgm

/-! ### Marks -/
def mark (g : Nat) : Deferred := { target := .collected g, args := #[] }

/-- A mark's block. -/
theorem Sim.marked (h : Sim B W I m st tmps) : Sim { B with D := W.heap.size :: B.D } (W.alloc (.deferred (some []))) I m st tmps := by
  have k := h.grown (.deferred (some []))
  refine ⟨⟨k.grow.os, k.grow.tape, k.grow.output, k.grow.size, k.grow.same, k.grow.sub, k.grow.fresh, k.grow.keep, fun g hg => ?_, ?_, fun g hg => ?_⟩, k.pre, k.live, k.len, k.fr, k.mlen, k.inj, k.blk, k.mA, k.notI, k.own, k.ownA, k.ownInj, k.al, k.nb⟩
  · rcases List.mem_cons.1 hg with rfl | hg
    · exact World.alloc_heap_new W _
    · exact k.grow.dfr g hg
  · exact List.nodup_cons.2 ⟨fun hg => absurd (lt_of_heap (h.grow.dfr _ hg)) (by omega), h.grow.dnd.1⟩
  · rcases List.mem_cons.1 hg with rfl | hg
    · exact h.grow.size
    · exact h.grow.dnd.2 g hg

/-- A mark is taken. -/
theorem Sim.taken {g : Nat} {D : List Nat} (h : Sim { B with D := g :: D } W I m st tmps) : Sim { B with D := D } (W.putObj g (.deferred none)) I m st tmps := by
  have hd : W.heap[g]? = some (.deferred (some [])) := h.grow.dfr g (by simp)
  have hge : B.W.heap.size ≤ g := h.grow.dnd.2 g (by simp)
  have hother : ∀ g', g' ≠ g → (W.putObj g (.deferred none)).heap[g']? = W.heap[g']? := fun g' hne => World.putObj_heap_other hne
  have hgm : ∀ g', some g' ∈ m → g' ≠ g := fun g' hg' e => h.memD hg' (e ▸ hd)
  have hk : KeepI I W (W.putObj g (.deferred none)) := fun g' o hi => cell_same (hother g' fun e => by
    obtain ⟨v, hv⟩ := h.live g' o hi
    subst e
    simp [World.cell?, hd] at hv)
  have hheld : ∀ {l xs v}, Held (W.putObj g (.deferred none)) m st tmps l xs v → Held W m st tmps l xs v := fun hh => hh.world fun g' hg' => hother g' (hgm g' hg')
  have hnd := List.nodup_cons.1 h.grow.dnd.1
  refine ⟨⟨h.grow.os, h.grow.tape, h.grow.output, by simpa using h.grow.size, fun g' hg' ha => (hother g' fun e => ?_).trans (h.grow.same g' hg' ha), h.grow.sub, h.grow.fresh,
      fun g' o hi => (hk g' o (h.grow.sub g' o hi)).trans (h.grow.keep g' o hi), fun g' hg' => (hother g' fun e => hnd.1 (e ▸ hg')).trans (h.grow.dfr g' (List.mem_cons_of_mem _ hg')), hnd.2, fun g' hg' => h.grow.dnd.2 g' (List.mem_cons_of_mem _ hg')⟩, h.pre, fun g' o hi => ?_, h.len, fun t x hx => (h.fr t x hx).mono (fun _ _ h => h) hk (List.prefix_refl _), h.mlen, h.inj, fun j c hj => ?_, h.mA, h.notI,
    fun l xs v hh => ?_, fun l xs v g' hh => h.ownA l xs v g' (hheld hh), fun l l' xs xs' v v' g' hh hh' => h.ownInj l l' xs xs' v v' g' (hheld hh) (hheld hh'), fun t o k => ?_, h.nb⟩
  · simp only at hg'; omega
  · obtain ⟨v, hv⟩ := h.live g' o hi
    exact ⟨v, (hk g' o hi).trans hv⟩
  · obtain ⟨x, hx, hb'⟩ := h.blk j c hj
    exact ⟨x, hx, hb'.mono (fun _ _ h => h) hk (MLe.refl _) fun g' e => hother g' (hgm g' (List.mem_of_getElem? (e ▸ hx)))⟩
  · exact (h.own l xs v (hheld hh)).mono (fun g' hc => hother g' fun e => h.heldD (hheld hh) hc (e ▸ hd)) fun _ _ _ h => h
  · have := h.al t o k
    cases o with
    | tmp u => exact this
    | cell id off =>
      intro hlt
      obtain ⟨g', hg', hc⟩ := this hlt
      exact ⟨g', hg', (cell_same (hother _ (hgm _ (List.mem_of_getElem? hg')))).trans hc⟩
    | base id off =>
      intro hlt
      obtain ⟨g', a, n, c, p, hg', hc, hp⟩ := this hlt
      exact ⟨g', a, n, c, p, hg', (cell_same (hother _ (hgm _ (List.mem_of_getElem? hg')))).trans hc, hp⟩

/-- Fewer marks. -/
theorem Sim.lessD {D : List Nat} (h : Sim { B with D := D ++ B.D } W I m st tmps) : Sim B W I m st tmps :=
  ⟨⟨h.grow.os, h.grow.tape, h.grow.output, h.grow.size, h.grow.same, h.grow.sub, h.grow.fresh, h.grow.keep, fun g hg => h.grow.dfr g (List.mem_append.2 (.inr hg)), (List.nodup_append.1 h.grow.dnd.1).2.1, fun g hg => h.grow.dnd.2 g (List.mem_append.2 (.inr hg))⟩,
    h.pre, h.live, h.len, h.fr, h.mlen, h.inj, h.blk, h.mA, h.notI, h.own, h.ownA, h.ownInj, h.al, h.nb⟩

/-- All marks are taken on the way out. -/
theorem leaves_marks (hF : FOk F) {fn : Func} {R : Ending → World → Prop} : ∀ (D : List Nat) {W : World} {st : St}, Sim { B with D := D } W I m st tmps →
    (∀ W', Sim { B with D := [] } W' I m st tmps → LeavesIn F n P fn tmps R [] .returning W') → LeavesInM F n P fn tmps R (D.map mark) .returning W
  | [], W, st, h, k => k W h
  | g :: D, W, st, h, k => by
    refine ⟨by simp, .inl ⟨g, _, rfl, run_takeDeferred (h.grow.dfr g (by simp)), ?_⟩⟩
    exact leaves_marks hF D h.taken k

end Go.Abs
