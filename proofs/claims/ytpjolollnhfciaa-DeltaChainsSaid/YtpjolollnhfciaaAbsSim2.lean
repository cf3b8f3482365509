/- The state's further steps: owners given up, what is forgotten, a store, entering a call and coming back. -/
import Derived.Test.YtpjolollnhfciaaAbsSim
set_option linter.all false
namespace Go.Abs
variable [BT] {B : Base} {W : World} {I : Nat → Nat → Prop} {m : List (Option Nat)} {st : St} {tmps : Array Value}

theorem Sim.dropOwn (h : Sim B W I m st tmps) (o : Owner) :
    Sim B W I m (dropOwn st o) tmps ∧ ∀ l xs v, Held W m (dropOwn st o) tmps l xs v → Held W m st tmps l xs v ∧ l ≠ o := by
  cases o with
  | tmp t =>
    refine ⟨h.less _ st.al (fun u hu => (List.mem_filter.1 hu).1) fun _ h => h, fun l xs v hh => ?_⟩
    cases hh with
    | tmp h1 h2 =>
      simp only [Abs.dropOwn, List.mem_filter, bne_iff_ne, ne_eq] at h1
      exact ⟨.tmp h1.1 h2, fun e => h1.2 (by cases e; rfl)⟩
    | cell h1 h2 h3 h4 h5 => exact ⟨.cell h1 h2 h3 h4 h5, by simp⟩
  | cell id off =>
    simp only [Abs.dropOwn]
    split
    · rename_i ty ow cs hb
      have hlt : id < st.hp.length := (List.getElem?_eq_some_iff.1 hb).1
      have hget : ∀ (j : Nat) (b : Blk), (st.hp.set id (.cells ty (ow.filter (· != off)) cs))[j]? = some b → (j = id ∧ b = .cells ty (ow.filter (· != off)) cs) ∨ (j ≠ id ∧ st.hp[j]? = some b) := fun j b hj => by
        rw [List.getElem?_set] at hj
        by_cases e : id = j
        · subst e; rw [if_pos rfl, if_pos hlt] at hj; exact .inl ⟨rfl, by simpa using hj.symm⟩
        · rw [if_neg e] at hj; exact .inr ⟨fun e' => e e'.symm, hj⟩
      have hh : ∀ {l xs v}, Held W m { st with hp := st.hp.set id (.cells ty (ow.filter (· != off)) cs) } tmps l xs v → Held W m st tmps l xs v ∧ l ≠ .cell id off := fun hh => by
        cases hh with
        | tmp h1 h2 => exact ⟨.tmp h1 h2, by simp⟩
        | cell h1 h2 h3 h4 h5 =>
          rcases hget _ _ h1 with ⟨rfl, e⟩ | ⟨hne, hb'⟩
          · cases e
            simp only [List.mem_filter, bne_iff_ne, ne_eq] at h2
            exact ⟨.cell hb h2.1 h3 h4 h5, fun e => h2.2 (by cases e; rfl)⟩
          · exact ⟨.cell hb' h2 h3 h4 h5, fun e => hne (by cases e; rfl)⟩
      refine ⟨⟨h.grow, h.pre, h.live, h.len, h.fr, by simp [h.mlen], h.inj, fun j b hj => ?_, h.mA, h.notI, fun l xs v k => h.own l xs v (hh k).1, fun l xs v g k => h.ownA l xs v g (hh k).1,
        fun l l' xs xs' v v' g k k' => h.ownInj l l' xs xs' v v' g (hh k).1 (hh k').1, h.al, h.nb⟩, fun l xs v k => hh k⟩
      · rcases hget j b hj with ⟨rfl, rfl⟩ | ⟨_, hj⟩
        · obtain ⟨g, hg, hb'⟩ := h.blk _ _ hb
          cases hb' with
          | cells q1 q2 q3 q4 => exact ⟨_, hg, .cells q1 q2 q3 q4⟩
          | ahead => exact ⟨_, hg, .ahead⟩
        · exact h.blk j b hj
    · rename_i hne
      refine ⟨h, fun l xs v hh => ⟨hh, ?_⟩⟩
      cases hh with
      | tmp h1 h2 => simp
      | cell h1 h2 h3 h4 h5 => exact fun e => by cases e; exact hne _ _ _ h1
  | base id off =>
    refine ⟨h, fun l xs v hh => ⟨hh, ?_⟩⟩
    cases hh <;> simp

theorem Sim.aliasIn (h : Sim B W I m st tmps) (d : Option Tmp) (o : Option Owner) (ha : ∀ t o', d = some t → o = some o' → AliasOk W m tmps t o') : Sim B W I m (st.alias d o) tmps := by
  unfold St.alias
  split
  · rename_i d o
    refine ⟨h.grow, h.pre, h.live, h.len, h.fr, h.mlen, h.inj, h.blk, h.mA, h.notI, fun l xs v k => h.own l xs v ?_, fun l xs v g k => h.ownA l xs v g ?_,
      fun l l' xs xs' v v' g k k' => h.ownInj l l' xs xs' v v' g ?_ ?_, fun t o' k => ?_, h.nb⟩
    rotate_right 1
    · rcases List.mem_cons.1 k with k | k
      · cases k; exact ha _ _ rfl rfl
      · exact h.al t o' k
    all_goals first | (cases k with | tmp h1 h2 => exact .tmp h1 h2 | cell h1 h2 h3 h4 h5 => exact .cell h1 h2 h3 h4 h5) | (cases k' with | tmp h1 h2 => exact .tmp h1 h2 | cell h1 h2 h3 h4 h5 => exact .cell h1 h2 h3 h4 h5)
  · exact h

/-- Some slots are forgotten. -/
theorem Sim.forget (h : Sim B W I m st tmps) (fr : List V) (own : List Nat) (hl : fr.length = st.fr.length) (hf : ∀ (t : Nat) (x : V), fr[t]? = some x → x = .any ∨ st.fr[t]? = some x) (ho : ∀ t, t ∈ own → t ∈ st.own) :
    Sim B W I m { st with fr := fr, own := own, al := [] } tmps := by
  have hh : ∀ {l xs v}, Held W m { st with fr := fr, own := own, al := [] } tmps l xs v → Held W m st tmps l xs v := fun hh => by
    cases hh with
    | @tmp t _ _ h1 h2 =>
      rcases hf t _ h2 with e | e
      · cases e
      · exact .tmp (ho _ h1) e
    | cell h1 h2 h3 h4 h5 => exact .cell h1 h2 h3 h4 h5
  exact ⟨h.grow, h.pre, h.live, by rw [h.len]; exact hl.symm, fun t x hx => (hf t x hx).elim (fun e => e ▸ .any) (h.fr t x), h.mlen, h.inj, h.blk, h.mA, h.notI, fun l xs v k => h.own l xs v (hh k), fun l xs v g k => h.ownA l xs v g (hh k),
    fun l l' xs xs' v v' g k k' => h.ownInj l l' xs xs' v v' g (hh k) (hh k'), fun t o k => (by cases k), h.nb⟩

theorem killAll_length (l : List Nat) : ∀ fr : List V, (killAll fr l).length = fr.length := by
  induction l with
  | nil => exact fun _ => rfl
  | cons t r ih => exact fun fr => by simp [killAll, ih]
theorem killAll_get (l : List Nat) : ∀ (fr : List V) (t : Nat) (x : V), (killAll fr l)[t]? = some x → x = .any ∨ fr[t]? = some x := by
  induction l with
  | nil => exact fun _ _ _ h => .inr h
  | cons u r ih =>
    intro fr t x h
    rcases ih _ t x h with h | h
    · exact .inl h
    · rw [List.getElem?_set] at h
      split at h
      · split at h
        · cases h; exact .inl rfl
        · cases h
      · exact .inr h

theorem Sim.kill (h : Sim B W I m st tmps) (l : List Nat) : Sim B W I m (st.kill l) tmps :=
  h.forget _ _ (killAll_length l _) (killAll_get l _) fun _ ht => (List.mem_filter.1 ht).1

theorem Sim.noAl (h : Sim B W I m st tmps) : Sim B W I m { st with al := [] } tmps := h.less st.own [] (fun _ h => h) (fun _ h => by cases h)

/-- A block of the heap is written. -/
theorem Sim.setBlk (h : Sim B W I m st tmps) {W' : World} {id g off0 : Nat} {ow ow' : List Nat} {cs cs' : List V} {arr arr' : Array Value} {t : TypeId} {own' : List Nat}
    (hb : st.hp[id]? = some (.cells t ow cs)) (hg : m[id]? = some (some g)) (hw : W.heap[g]? = some (.cells arr t (0, 0)))
    (hw' : W'.heap[g]? = some (.cells arr' t (0, 0))) (hother : ∀ g', g' ≠ g → W'.heap[g']? = W.heap[g']?) (hsize : W'.heap.size = W.heap.size) (hos : W'.os = W.os) (htape : W'.tape = W.tape) (hout : W'.output = W.output)
    (hs : arr'.size = cs'.length) (h1 : ∀ (j : Nat) (x : V), cs'[j]? = some x → (arr'.getD j undef).oneCell' = true) (hr : ∀ (j : Nat) (x : V), cs'[j]? = some x → Rel W I m x (arr'.getD j undef))
    (hown : ∀ t, t ∈ own' → t ∈ st.own)
    (hheld : ∀ (off : Nat) (d : Bool) (xs : List (List V)), off ∈ ow' → cs'[off]? = some (.sl d xs) →
      (∃ a, arr'.getD off undef = .slice a xs.length 0) ∨ (∃ dd, off ∈ ow ∧ off ≠ off0 ∧ cs[off]? = some (.sl dd xs) ∧ arr.getD off undef = arr'.getD off undef) ∨
      (off = off0 ∧ ∃ u dd, u ∈ st.own ∧ u ∉ own' ∧ st.fr[u]? = some (.sl dd xs) ∧ tmps.getD u undef = arr'.getD off undef)) :
    Sim B W' I m { st with own := own', hp := st.hp.set id (.cells t ow' cs'), al := [] } tmps := by
  have hgm : some g ∈ m := List.mem_of_getElem? hg
  have hk : KeepI I W W' := fun g' o hi => cell_same (hother g' fun e => h.notI g hgm o (e ▸ hi))
  have hlt : id < st.hp.length := (List.getElem?_eq_some_iff.1 hb).1
  have hget : ∀ (j : Nat) (b : Blk), (st.hp.set id (.cells t ow' cs'))[j]? = some b → (j = id ∧ b = .cells t ow' cs') ∨ (j ≠ id ∧ st.hp[j]? = some b) := fun j b hj => by
    rw [List.getElem?_set] at hj
    by_cases e : id = j
    · subst e; rw [if_pos rfl, if_pos hlt] at hj; exact .inl ⟨rfl, by simpa using hj.symm⟩
    · rw [if_neg e] at hj; exact .inr ⟨fun e' => e e'.symm, hj⟩
  have hmne : ∀ {j g'}, j ≠ id → m[j]? = some (some g') → g' ≠ g := fun {j g'} hne hj e => by
    subst e
    exact hne (h.inj _ _ _ hj hg)
  -- where what is held came from
  have horig : ∀ {l xs v}, Held W' m { st with own := own', hp := st.hp.set id (.cells t ow' cs'), al := [] } tmps l xs v →
      (∃ a, v = .slice a xs.length 0) ∨ ∃ l0, Held W m st tmps l0 xs v ∧ ((l = l0 ∧ (∀ u, l0 = .tmp u → u ∈ own') ∧ l0 ≠ .cell id off0) ∨ (l = .cell id off0 ∧ ∃ u, l0 = .tmp u ∧ u ∉ own')) := fun {l xs v} hh => by
    cases hh with
    | tmp h1 h2 => exact .inr ⟨_, .tmp (hown _ h1) h2, .inl ⟨rfl, fun u e => (by cases e; exact h1), by simp⟩⟩
    | @cell j off ow2 cs2 d _ g' _ t2 q1 q2 q3 q4 q5 =>
      rcases hget _ _ q1 with ⟨rfl, e⟩ | ⟨hne, hb'⟩
      · cases e
        rw [hg] at q4; cases q4
        have hv : arr'.getD off undef = v := by rw [cell_of_blk hw'] at q5; rw [Array.getD_eq_getD_getElem?, q5]; rfl
        rcases hheld off d _ q2 q3 with ⟨a, ha⟩ | ⟨dd, p1, p2, p3, p4⟩ | ⟨rfl, u, dd, p1, p2, p3, p4⟩
        · exact .inl ⟨a, hv ▸ ha⟩
        · refine .inr ⟨.cell j off, .cell hb p1 p3 hg ?_, .inl ⟨rfl, fun u e => (by cases e), fun e => p2 (by cases e; rfl)⟩⟩
          rw [cell_of_blk hw, ← hv, ← p4]
          have hlt' : off < arr.size := by
            obtain ⟨g2, hg2, hb2⟩ := h.blk j _ hb
            rw [hg] at hg2; cases hg2
            cases hb2 with
            | cells k1 k2 k3 k4 =>
              rw [hw] at k1; cases k1
              rw [k2]; exact (List.getElem?_eq_some_iff.1 p3).1
          simp [Array.getD_eq_getD_getElem?, Array.getElem?_eq_getElem hlt']
        · refine .inr ⟨.tmp u, ?_, .inr ⟨rfl, u, rfl, p2⟩⟩
          rw [← hv, ← p4]
          exact .tmp p1 p3
      · exact .inr ⟨_, .cell hb' q2 q3 q4 ((cell_same (hother g' (hmne hne q4))).symm.trans q5), .inl ⟨rfl, fun u e => (by cases e), fun e => hne (by cases e; rfl)⟩⟩
  have hz0 : ∀ {a : Option Addr} {n : Nat}, claimOf (.slice a n 0) = none := fun {a n} => by cases a <;> rfl
  refine ⟨⟨hos.trans h.grow.os, htape.trans h.grow.tape, hout.trans h.grow.output, by rw [hsize]; exact h.grow.size, fun g' hg' ha => (hother g' fun e => ?_).trans (h.grow.same g' hg' ha), h.grow.sub, h.grow.fresh,
      fun g' o hi => (hk g' o (h.grow.sub g' o hi)).trans (h.grow.keep g' o hi), fun g' hg' => (hother g' fun e => ?_).trans (h.grow.dfr g' hg'), h.grow.dnd⟩, h.pre, fun g' o hi => ?_, h.len, fun t x hx => (h.fr t x hx).mono (fun _ _ h => h) hk (List.prefix_refl _), by simp [h.mlen], h.inj, fun j b hj => ?_, h.mA, h.notI,
    fun l xs v hh => ?_, fun l xs v g' hh hc => ?_, fun l l' xs xs' v v' g' hh hh' hc hc' => ?_, fun t o k => (by cases k), h.nb⟩
  · subst e
    rcases h.mA _ hgm with k | k
    · exact ha k
    · omega
  · subst e
    have := h.grow.dfr _ hg'
    rw [hw] at this; cases this
  · obtain ⟨v, hv⟩ := h.live g' o hi
    exact ⟨v, (hk g' o hi).trans hv⟩
  · rcases hget j b hj with ⟨rfl, rfl⟩ | ⟨hne, hj⟩
    · exact ⟨_, hg, .cells hw' hs h1 fun i x hx => (hr i x hx).mono (fun _ _ h => h) hk (List.prefix_refl _)⟩
    · obtain ⟨x, hx, hb'⟩ := h.blk j b hj
      exact ⟨x, hx, hb'.mono (fun _ _ h => h) hk (MLe.refl _) fun g' e => hother g' (hmne hne (e ▸ hx))⟩
  · rcases horig hh with ⟨a, ha⟩ | ⟨l0, hh0, _⟩
    · exact .inl ⟨a, ha⟩
    · have ho := h.own l0 xs v hh0
      refine ho.mono (fun g' hc => hother g' fun e => ?_) fun _ _ _ h => h
      subst e
      exact (h.ownA l0 xs v _ hh0 hc).2 hgm
  · rcases horig hh with ⟨a, ha⟩ | ⟨l0, hh0, _⟩
    · subst ha; rw [hz0] at hc; cases hc
    · exact h.ownA l0 xs v g' hh0 hc
  · rcases horig hh with ⟨a, ha⟩ | ⟨l0, hh0, p⟩
    · subst ha; rw [hz0] at hc; cases hc
    · rcases horig hh' with ⟨a, ha⟩ | ⟨l0', hh0', p'⟩
      · subst ha; rw [hz0] at hc'; cases hc'
      · have e := h.ownInj l0 l0' xs xs' v v' g' hh0 hh0' hc hc'
        subst e
        rcases p with ⟨rfl, p1, p2⟩ | ⟨rfl, u, rfl, p1⟩ <;> rcases p' with ⟨rfl, q1, q2⟩ | ⟨rfl, u', e, q1⟩
        · rfl
        · exact absurd (p1 u' e) q1
        · exact absurd (q1 u rfl) p1
        · rfl

theorem Sim.memD (h : Sim B W I m st tmps) {g : Nat} (hg : some g ∈ m) {x : Option (List Deferred)} : W.heap[g]? ≠ some (.deferred x) := by
  obtain ⟨id, hid⟩ := List.mem_iff_getElem?.1 hg
  have hlt : id < st.hp.length := by rw [← h.mlen]; exact (List.getElem?_eq_some_iff.1 hid).1
  obtain ⟨g', hg', hb⟩ := h.blk id _ (List.getElem?_eq_getElem hlt)
  rw [hid] at hg'; cases hg'
  exact hb.notD

theorem OwnRow.notD {xs : List (List V)} {v : Value} (h : OwnRow W I xs v) {g : Nat} (hc : claimOf v = some g) {x : Option (List Deferred)} : W.heap[g]? ≠ some (.deferred x) := by
  intro hd
  rcases h with ⟨a, rfl⟩ | ⟨g1, c, arr, e, sz, fz, rfl, _, _, hh, _⟩
  · cases a <;> simp [claimOf] at hc
  · simp only [claimOf, Option.some.injEq] at hc
    subst hc
    rw [hh] at hd; cases hd

theorem Sim.heldD (h : Sim B W I m st tmps) {l : Owner} {xs : List (List V)} {v : Value} (hh : Held W m st tmps l xs v) {g : Nat} (hc : claimOf v = some g) {x : Option (List Deferred)} : W.heap[g]? ≠ some (.deferred x) :=
  (h.own _ _ _ hh).notD hc

/-! ### Calls -/
/-- Rows of the same lengths. -/
def Alike (xs ys : List (List V)) : Prop := ys.length = xs.length ∧ (∀ (i : Nat) (row : List V), ys[i]? = some row → ∃ row0 : List V, xs[i]? = some row0 ∧ row.length = row0.length) ∧ (headByte ys = true → headByte xs = true)

theorem Alike.refl (xs : List (List V)) : Alike xs xs := ⟨rfl, fun i row h => ⟨row, h, rfl⟩, id⟩
theorem Alike.ren {f : Nat → Nat} (d : Bool) (xs : List (List V)) : Alike xs (if d then xs else V.renll f xs) := by
  cases d with
  | true => exact .refl _
  | false =>
    refine ⟨by simp, fun i row hi => ?_, fun h => ?_⟩
    · obtain ⟨y, hy, rfl⟩ := renll_get (by simpa using hi)
      exact ⟨y, hy, by simp⟩
    · rcases xs with _ | ⟨r, xs⟩
      · simp [V.renll, headByte] at h
      · rcases r with _ | ⟨v, _ | ⟨v2, r⟩⟩
        · simp [V.renll, V.renl, headByte] at h
        · cases v <;> simp [V.renll, V.renl, V.ren, headByte] at h ⊢
          rename_i k n
          cases k <;> simp [headByte] at h ⊢
        · simp [V.renll, V.renl, headByte] at h

theorem OwnRow.alike {xs ys : List (List V)} {v : Value} (h : OwnRow W I xs v) (e : Alike xs ys) : OwnRow W I ys v := by
  obtain ⟨e1, e2, e3⟩ := e
  rcases h with ⟨a, rfl⟩ | ⟨g, c, arr, t, sz, fz, rfl, h1, h2, h3, h4, h5, h6, h7, h8⟩
  · exact .inl ⟨a, by rw [e1]⟩
  · refine .inr ⟨g, c, arr, t, sz, fz, by rw [e1], fun h => h1 (List.eq_nil_of_length_eq_zero (by rw [← e1, h]; rfl)), fun row hrow => ?_, h3, by rw [e1]; exact h4, h5, by rw [e1]; exact h6, fun o ho => h7 o (by rw [← e1]; exact ho), fun hb => h8 (e3 hb)⟩
    obtain ⟨i, hi⟩ := List.mem_iff_getElem?.1 hrow
    obtain ⟨r0, p1, p2⟩ := e2 i row hi
    rw [p2]
    exact h2 r0 (List.mem_of_getElem? p1)

theorem Rel.ren_all {m' : List (Option Nat)} {f : Nat → Nat} {v : V} {w : Value} (h : Rel W I m v w) (hf : ∀ (id g : Nat), m[id]? = some (some g) → m'[f id]? = some (some g)) : Rel W I m' (v.ren f) w :=
  h.ren (p := fun _ => true) (fun id g _ hg => hf id g hg) (h.all fun _ _ _ => rfl)

theorem BlkOk.ren {p : Nat → Bool} {f : Nat → Nat} {m' : List (Option Nat)} {b : Blk} {x : Option Nat} (h : BlkOk W I m b x) (hf : ∀ (id g : Nat), p id = true → m[id]? = some (some g) → m'[f id]? = some (some g)) (hp : b.all p = true) : BlkOk W I m' (b.ren f) x := by
  cases h with
  | cells h hs h1 hr =>
    simp only [Blk.all] at hp
    refine .cells h (by simpa using hs) (fun j x hx => ?_) fun j x hx => ?_
    · obtain ⟨y, hy, rfl⟩ := renl_get hx; exact h1 j y hy
    · obtain ⟨y, hy, rfl⟩ := renl_get hx; exact (hr j y hy).ren hf (alll_get hp hy)
  | loop h e1 e2 e4 e5 e6 hs hr hg =>
    simp only [Blk.all] at hp
    refine .loop h e1 e2 e4 e5 e6 (by simpa using hs) (fun j x hx => ?_) hg
    obtain ⟨y, hy, rfl⟩ := renl_get hx; exact (hr j y hy).ren hf (alll_get hp hy)
  | dead h hd => exact .dead h hd
  | ahead => exact .ahead

theorem BlkOk.ren_all {f : Nat → Nat} {m' : List (Option Nat)} {b : Blk} {x : Option Nat} (h : BlkOk W I m b x) (hf : ∀ (id g : Nat), m[id]? = some (some g) → m'[f id]? = some (some g)) : BlkOk W I m' (b.ren f) x := by
  cases h with
  | cells h hs h1 hr =>
    refine .cells h (by simpa using hs) (fun j x hx => ?_) fun j x hx => ?_
    · obtain ⟨y, hy, rfl⟩ := renl_get hx; exact h1 j y hy
    · obtain ⟨y, hy, rfl⟩ := renl_get hx; exact (hr j y hy).ren_all hf
  | loop h e1 e2 e4 e5 e6 hs hr hg =>
    refine .loop h e1 e2 e4 e5 e6 (by simpa using hs) (fun j x hx => ?_) hg
    obtain ⟨y, hy, rfl⟩ := renl_get hx; exact (hr j y hy).ren_all hf
  | dead h hd => exact .dead h hd
  | ahead => exact .ahead

/-- A block's cells, renamed, hold what they held. -/
theorem ren_cells {f : Nat → Nat} {b : Blk} {t : TypeId} {ow : List Nat} {cs : List V} {off : Nat} {d : Bool} {xs : List (List V)} (h : b.ren f = .cells t ow cs) (hx : cs[off]? = some (.sl d xs)) :
    ∃ (cs0 : List V) (xs0 : List (List V)), b = .cells t ow cs0 ∧ cs0[off]? = some (.sl d xs0) ∧ Alike xs0 xs := by
  cases b with
  | cells t' ow' cs0 =>
    simp only [Blk.ren, Blk.cells.injEq] at h
    obtain ⟨rfl, rfl, rfl⟩ := h
    obtain ⟨y, hy, e⟩ := renl_get hx
    cases y <;> simp only [V.ren] at e <;> try (cases e; done)
    rename_i d0 xs0
    simp only [V.sl.injEq] at e
    obtain ⟨rfl, rfl⟩ := e
    exact ⟨cs0, xs0, rfl, hy, .ren _ _⟩
  | _ => simp [Blk.ren] at h

def subM (m : List (Option Nat)) (R : List Nat) : List (Option Nat) := R.map fun r => m.getD r none

/-- The activation of a call that sees the blocks R. -/
def Sim.base (W : World) (I : Nat → Nat → Prop) (m : List (Option Nat)) (st : St) (tmps : Array Value) (R : List Nat) : Base :=
  { A := fun g => some g ∈ subM m R ∨ ∃ r off xs v, r ∈ R ∧ Held W m st tmps (.cell r off) xs v ∧ claimOf v = some g, W := W, I := I, m := subM m R }
/-- The activation of a call that is handed no pointer. -/
def pureBase (W : World) (I : Nat → Nat → Prop) : Base := { A := fun _ => False, W := W, I := I, m := [] }

theorem Grow.refl (B : Base) (hD : B.D = [] := by rfl) : Grow B B.W B.I := ⟨rfl, rfl, rfl, Nat.le_refl _, fun _ _ _ => rfl, fun _ _ h => h, fun _ _ h => .inl h, fun _ _ _ => rfl, fun g hg => (by rw [hD] at hg; cases hg), by rw [hD]; exact ⟨List.nodup_nil, fun g hg => by cases hg⟩⟩

/-- Blocks that a call may see. -/
structure Sees (st : St) (R : List Nat) : Prop where
  nodup : R.Nodup
  blk : ∀ r ∈ R, ∃ b : Blk, st.hp[r]? = some b ∧ b.all (fun i => R.contains i) = true

theorem subM_get {R : List Nat} {i : Nat} {x : Option Nat} (hx : (subM m R)[i]? = some x) : ∃ r : Nat, R[i]? = some r ∧ x = m.getD r none := by
  simp only [subM, List.getElem?_map, Option.map_eq_some_iff] at hx
  obtain ⟨r, h1, h2⟩ := hx
  exact ⟨r, h1, h2.symm⟩

theorem getD_some {r g : Nat} (h : m.getD r none = some g) : m[r]? = some (some g) := by
  rw [List.getD_eq_getElem?_getD] at h
  rcases hm : m[r]? with _ | x
  · rw [hm] at h; cases h
  · rw [hm] at h; simp at h; rw [h]

theorem idx_get {R : List Nat} {r : Nat} (h : r ∈ R) : R[R.idxOf r]? = some r := by
  rw [List.getElem?_eq_getElem (List.idxOf_lt_length_of_mem h), List.getElem_idxOf]

theorem get_idx {R : List Nat} (hn : R.Nodup) {i r : Nat} (h : R[i]? = some r) : R.idxOf r = i := by
  have hm := List.mem_of_getElem? h
  have h2 := idx_get hm
  obtain ⟨l1, e1⟩ := List.getElem?_eq_some_iff.1 h
  obtain ⟨l2, e2⟩ := List.getElem?_eq_some_iff.1 h2
  exact (List.getElem_inj hn).1 (e2.trans e1.symm)

theorem sub_ren {R : List Nat} (id g : Nat) (hid : R.contains id = true) (hg : m[id]? = some (some g)) : (subM m R)[R.idxOf id]? = some (some g) := by
  have := idx_get (by simpa using hid : id ∈ R)
  simp only [subM, List.getElem?_map, this, Option.map_some, List.getD_eq_getElem?_getD, hg, Option.getD_some]

/-- The call's arguments, as it names them. -/
theorem Rel.sub {R : List Nat} {v : V} {w : Value} (h : Rel W I m v w) (hv : V.all (fun i => R.contains i) v = true) : Rel W I (subM m R) (v.ren fun i => R.idxOf i) w :=
  h.ren sub_ren hv

theorem held_sub {R : List Nat} (hR : Sees st R) {fr : List V} {args : Array Value} {l : Owner} {xs : List (List V)} {v : Value} {nb : Nat} (h : Held W (subM m R) { fr := fr, own := [], hp := subHp st.hp R, al := [], nb := nb } args l xs v) :
    ∃ (i off r : Nat) (xs0 : List (List V)), l = .cell i off ∧ R[i]? = some r ∧ Held W m st tmps (.cell r off) xs0 v ∧ Alike xs0 xs := by
  cases h with
  | tmp h1 h2 => cases h1
  | cell h1 h2 h3 h4 h5 =>
    simp only [subHp, List.getElem?_map, Option.map_eq_some_iff] at h1
    obtain ⟨r, p1, p2⟩ := h1
    obtain ⟨r', q1, q2⟩ := subM_get h4
    rw [p1] at q1; cases q1
    obtain ⟨b, hb, _⟩ := hR.blk r (List.mem_of_getElem? p1)
    rw [getD_of_get hb] at p2
    obtain ⟨cs0, xs0, rfl, e2, e3⟩ := ren_cells p2 h3
    exact ⟨_, _, r, xs0, rfl, p1, .cell hb h2 e2 (getD_some q2.symm) h5, e3⟩

theorem Sim.enter (h : Sim B W I m st tmps) {R : List Nat} (hR : Sees st R) (fr : List V) (args : Array Value) (hl : args.size = fr.length) (hr : ∀ (t : Nat) (x : V), fr[t]? = some x → Rel W I (subM m R) x (args.getD t undef)) :
    Sim (Sim.base W I m st tmps R) W I (subM m R) { fr := fr, own := [], hp := subHp st.hp R, al := [], nb := (subHp st.hp R).length } args := by
  have hmem : ∀ {g}, some g ∈ subM m R → some g ∈ m := fun {g} hg => by
    obtain ⟨i, hi⟩ := List.mem_iff_getElem?.1 hg
    obtain ⟨r, _, e⟩ := subM_get hi
    exact List.mem_of_getElem? (getD_some e.symm)
  refine ⟨Grow.refl _, List.prefix_refl _, h.live, hl, hr, by simp [subM, subHp], fun i j g hi hj => ?_, fun i b hb => ?_, fun g hg => .inl (.inl hg), fun g hg => h.notI g (hmem hg), fun l xs v k => ?_, fun l xs v g k hc => ?_,
    fun l l' xs xs' v v' g k k' hc hc' => ?_, fun t o k => (by cases k), by simp [Sim.base, subM, subHp]⟩
  · obtain ⟨r, p1, p2⟩ := subM_get hi
    obtain ⟨r', q1, q2⟩ := subM_get hj
    have := h.inj r r' g (getD_some p2.symm) (getD_some q2.symm)
    subst this
    rw [← get_idx hR.nodup p1, get_idx hR.nodup q1]
  · simp only [subHp, List.getElem?_map, Option.map_eq_some_iff] at hb
    obtain ⟨r, p1, p2⟩ := hb
    obtain ⟨b0, hb0, hall⟩ := hR.blk r (List.mem_of_getElem? p1)
    rw [getD_of_get hb0] at p2
    obtain ⟨x, hx, hbx⟩ := h.blk r b0 hb0
    refine ⟨x, ?_, p2 ▸ hbx.ren sub_ren hall⟩
    simp [subM, p1, hx]
  · obtain ⟨i, off, r, xs0, _, _, p3, p4⟩ := held_sub (tmps := tmps) hR k
    exact (h.own _ _ _ p3).alike p4
  · obtain ⟨i, off, r, xs0, _, p2, p3, p4⟩ := held_sub (tmps := tmps) hR k
    exact ⟨.inl (.inr ⟨r, off, xs0, v, List.mem_of_getElem? p2, p3, hc⟩), fun hg => (h.ownA _ _ _ _ p3 hc).2 (hmem hg)⟩
  · obtain ⟨i, off, r, xs0, rfl, p2, p3, p4⟩ := held_sub (tmps := tmps) hR k
    obtain ⟨i', off', r', xs0', rfl, q2, q3, q4⟩ := held_sub (tmps := tmps) hR k'
    have := h.ownInj _ _ _ _ _ _ _ p3 q3 hc hc'
    cases this
    have e : i = i' := by rw [← get_idx hR.nodup p2, get_idx hR.nodup q2]
    rw [e]

/-- What a call hands back: its result, in a frame of one slot, and the heap. -/
def ret (v : V) (own : Bool) (hp : List Blk) : St := { fr := [v], own := if own then [0] else [], hp := hp, al := [], nb := hp.length }

theorem putBack_length : ∀ (R : List Nat) (bs : List Blk) (hp : List Blk), (putBack hp R bs).length = hp.length
  | [], bs, hp => by simp [putBack]
  | r :: R, [], hp => by simp [putBack]
  | r :: R, b :: bs, hp => by simp only [putBack]; rw [putBack_length R bs]; simp

theorem putBack_other : ∀ (R : List Nat) (bs : List Blk) (hp : List Blk) (j : Nat), j ∉ R → (putBack hp R bs)[j]? = hp[j]?
  | [], bs, hp, j, _ => by simp [putBack]
  | r :: R, [], hp, j, _ => by simp [putBack]
  | r :: R, b :: bs, hp, j, h => by
    simp only [List.mem_cons, not_or] at h
    simp only [putBack]
    rw [putBack_other R bs _ j h.2, List.getElem?_set_ne (fun e => h.1 e.symm)]

theorem putBack_at : ∀ (R : List Nat) (bs : List Blk) (hp : List Blk) (i r : Nat) (b : Blk), R.Nodup → R[i]? = some r → bs[i]? = some b → r < hp.length → (putBack hp R bs)[r]? = some b
  | [], bs, hp, i, r, b, _, h, _, _ => by simp at h
  | r0 :: R, [], hp, i, r, b, _, _, h, _ => by simp at h
  | r0 :: R, b0 :: bs, hp, 0, r, b, hn, h1, h2, hl => by
    simp only [List.getElem?_cons_zero, Option.some.injEq] at h1 h2
    subst h1; subst h2
    simp only [putBack]
    rw [putBack_other R bs _ r0 (List.nodup_cons.1 hn).1, List.getElem?_set_self hl]
  | r0 :: R, b0 :: bs, hp, i + 1, r, b, hn, h1, h2, hl => by
    simp only [List.getElem?_cons_succ] at h1 h2
    simp only [putBack]
    exact putBack_at R bs _ i r b (List.nodup_cons.1 hn).2 h1 h2 (by simpa using hl)

theorem pre_take {m0 m : List (Option Nat)} (h : m0 <+: m) : m.take m0.length = m0 := by
  obtain ⟨r, rfl⟩ := h
  simp

/-- The caller's blocks behind a call. -/
def backM (m : List (Option Nat)) (R : List Nat) (m' : List (Option Nat)) : List (Option Nat) := m ++ m'.drop R.length

section
variable {R : List Nat} {m' : List (Option Nat)} {hp' : List Blk}

theorem backM_get (hR : ∀ r ∈ R, r < m.length) (hpre : subM m R <+: m') {i : Nat} {x : Option Nat} (hx : m'[i]? = some x) : (backM m R m')[backId R m.length i]? = some x := by
  unfold backId backM
  have hl : (subM m R).length = R.length := by simp [subM]
  split
  · rename_i r hr
    have hlt := hR r (List.mem_of_getElem? hr)
    rw [List.getElem?_append_left hlt]
    have h1 : (subM m R)[i]? = some (m.getD r none) := by simp [subM, hr]
    have h2 := pre_get hpre h1
    rw [hx] at h2
    cases h2
    rw [List.getD_eq_getElem?_getD, List.getElem?_eq_getElem hlt]
    rfl
  · rename_i hr
    have hge : R.length ≤ i := List.getElem?_eq_none_iff.1 hr
    rw [List.getElem?_append_right (by omega), List.getElem?_drop]
    rw [show R.length + (m.length + (i - R.length) - m.length) = i by omega]
    exact hx

/-- Where the caller's blocks come from. -/
theorem back_cases (hR : Sees st R) (hml : m.length = st.hp.length) (hpre : subM m R <+: m') (hmp : m'.length = hp'.length) {j : Nat} {b : Blk} (hb : (backHp st.hp R hp')[j]? = some b) :
    (j ∉ R ∧ st.hp[j]? = some b ∧ (backM m R m')[j]? = m[j]?) ∨ ∃ (i : Nat) (b0 : Blk), j = backId R m.length i ∧ hp'[i]? = some b0 ∧ b = b0.ren (backId R m.length) ∧ (backM m R m')[j]? = m'[i]? ∧ (j < m.length → R[i]? = some j) ∧ (m.length ≤ j → R.length ≤ i) := by
  have hlt : ∀ r ∈ R, r < m.length := fun r hr => by
    obtain ⟨b, hb, _⟩ := hR.blk r hr
    rw [hml]; exact (List.getElem?_eq_some_iff.1 hb).1
  have hle : R.length ≤ hp'.length := by
    have := hpre.length_le
    rw [hmp] at this
    simpa [subM] using this
  unfold backHp at hb
  simp only [← hml] at hb
  by_cases hj : j < m.length
  · rw [List.getElem?_append_left (by rw [putBack_length, ← hml]; exact hj)] at hb
    by_cases hjR : j ∈ R
    · have hi := idx_get hjR
      have hil : R.idxOf j < R.length := List.idxOf_lt_length_of_mem hjR
      have hget := List.getElem?_eq_getElem (show R.idxOf j < hp'.length by omega)
      rw [putBack_at R _ st.hp (R.idxOf j) j ((hp'[R.idxOf j]'(by omega)).ren (backId R m.length)) hR.nodup hi (by simp [hget]) (by rw [← hml]; exact hj)] at hb
      cases hb
      have hbid : backId R m.length (R.idxOf j) = j := by unfold backId; rw [hi]
      refine .inr ⟨R.idxOf j, _, hbid.symm, hget, rfl, ?_, fun _ => hi, fun h => absurd hj (by omega)⟩
      have hx := List.getElem?_eq_getElem (show R.idxOf j < m'.length by omega)
      have := backM_get hlt hpre hx
      rw [hbid] at this
      rw [this, hx]
    · rw [putBack_other R _ _ j hjR] at hb
      exact .inl ⟨hjR, hb, by unfold backM; rw [List.getElem?_append_left hj]⟩
  · rw [List.getElem?_append_right (by rw [putBack_length, ← hml]; omega), putBack_length, ← hml, List.getElem?_drop] at hb
    simp only [List.getElem?_map, Option.map_eq_some_iff] at hb
    obtain ⟨b0, h1, h2⟩ := hb
    have hbid : backId R m.length (R.length + (j - m.length)) = j := by
      unfold backId
      rw [List.getElem?_eq_none (by omega)]
      simp only
      omega
    refine .inr ⟨R.length + (j - m.length), b0, hbid.symm, h1, h2.symm, ?_, fun h => absurd h hj, fun _ => by omega⟩
    have hx := List.getElem?_eq_getElem (show R.length + (j - m.length) < m'.length by rw [hmp]; exact (List.getElem?_eq_some_iff.1 h1).1)
    have := backM_get hlt hpre hx
    rw [hbid] at this
    rw [this, hx]

/-- Back in the caller. -/
theorem Sim.back (h : Sim B W I m st tmps) (hR : Sees st R) {W' : World} {I' : Nat → Nat → Prop} {v : V} {own : Bool} {w : Value}
    (k : Sim (Sim.base W I m st tmps R) W' I' m' (ret v own hp') #[w]) (d : Option Tmp) (hsl : own = true → ∃ dd xs, v = .sl dd xs) :
    Sim B W' I' (backM m R m') ({ st with hp := backHp st.hp R hp', al := [] }.putOwn d (v.ren (backId R st.hp.length)) own) (aput tmps d w) := by
  have hsize : W.heap.size ≤ W'.heap.size := k.grow.size
  have hpre : subM m R <+: m' := k.pre
  have hml := h.mlen
  have hmp : m'.length = hp'.length := k.mlen
  have hlt : ∀ r ∈ R, r < m.length := fun r hr => by
    obtain ⟨b, hb, _⟩ := hR.blk r hr
    rw [hml]; exact (List.getElem?_eq_some_iff.1 hb).1
  have hbm : ∀ (id g : Nat), m'[id]? = some (some g) → (backM m R m')[backId R m.length id]? = some (some g) := fun id g hg => backM_get hlt hpre hg
  have hlen : (backM m R m').length = (backHp st.hp R hp').length := by
    simp only [backM, backHp, List.length_append, List.length_drop, putBack_length, List.length_map]
    omega
  have hmle : MLe m (backM m R m') := MLe.pre (List.prefix_append _ _)
  have hsub : ∀ {g}, some g ∈ subM m R → some g ∈ m := fun {g} hg => by
    obtain ⟨i, hi⟩ := List.mem_iff_getElem?.1 hg
    obtain ⟨r, _, e⟩ := subM_get hi
    exact List.mem_of_getElem? (getD_some e.symm)
  have hA : ∀ g, (Sim.base W I m st tmps R).A g → B.A g ∨ B.W.heap.size ≤ g := fun g hg => by
    rcases hg with hg | ⟨id, off, xs, v, _, hh, hc⟩
    · exact h.mA g (hsub hg)
    · exact (h.ownA _ _ _ _ hh hc).1
  have hA' : ∀ g, (Sim.base W I m st tmps R).A g ∨ (Sim.base W I m st tmps R).W.heap.size ≤ g → B.A g ∨ B.W.heap.size ≤ g := fun g hg => by
    rcases hg with hg | hg
    · exact hA g hg
    · exact .inr (Nat.le_trans h.grow.size hg)
  -- a block that the call did not see
  have hblk : ∀ {j g : Nat}, j ∉ R → m[j]? = some (some g) → ¬ (Sim.base W I m st tmps R).A g ∧ g < W.heap.size := fun {j g} hj hg => by
    refine ⟨fun ha => ?_, h.mlt (List.mem_of_getElem? hg)⟩
    rcases ha with ha | ⟨id, off, xs, v, _, hh, hc⟩
    · obtain ⟨i, hi⟩ := List.mem_iff_getElem?.1 ha
      obtain ⟨r, h1, e⟩ := subM_get hi
      have := h.inj _ _ _ (getD_some e.symm) hg
      exact hj (this ▸ List.mem_of_getElem? h1)
    · exact (h.ownA _ _ _ _ hh hc).2 (List.mem_of_getElem? hg)
  -- what a slot of the caller's, or a block that the call did not see, owned is as it was
  have hslot : ∀ l xs v g, (∀ r off, l = .cell r off → r ∉ R) → Held W m st tmps l xs v → claimOf v = some g → ¬ (Sim.base W I m st tmps R).A g ∧ g < W.heap.size := fun l xs v g hl hh hc => by
    refine ⟨fun hg => ?_, claim_lt (h.own _ _ _ hh) hc⟩
    rcases hg with hg | ⟨id, off, xs', v', hid, hh', hc'⟩
    · exact (h.ownA _ _ _ _ hh hc).2 (hsub hg)
    · have := h.ownInj _ _ _ _ _ _ _ hh hh' hc hc'
      exact hl _ _ this hid
  have hheld : ∀ {l xs u}, Held W' (backM m R m') { st with hp := backHp st.hp R hp', al := [] } tmps l xs u →
      ((∀ r off, l = .cell r off → r ∉ R) ∧ Held W m st tmps l xs u) ∨ (∃ i off xs0, l = .cell (backId R m.length i) off ∧ Alike xs0 xs ∧ Held W' m' (ret v own hp') #[w] (.cell i off) xs0 u) := fun {l xs u} hh => by
    cases hh with
    | tmp h1 h2 => exact .inl ⟨fun r off e => (by cases e), .tmp h1 h2⟩
    | @cell id off ow cs dd _ g _ t h1 h2 h3 h4 h5 =>
      rcases back_cases hR hml hpre hmp h1 with ⟨p1, p2, p3⟩ | ⟨i, b0, p1, p2, p3, p4, p5, p6⟩
      · rw [p3] at h4
        refine .inl ⟨fun r off e => (by cases e; exact p1), .cell p2 h2 h3 h4 ?_⟩
        rw [← h5]
        exact (cell_same (k.grow.same g (hblk p1 h4).2 (hblk p1 h4).1)).symm
      · rw [p4] at h4
        obtain ⟨cs0, xs0, rfl, e2, e3⟩ := ren_cells p3.symm h3
        exact .inr ⟨i, off, xs0, by rw [p1], e3, .cell p2 h2 e2 h4 h5⟩
  -- no block is met twice
  have hold : ∀ {j g : Nat}, m[j]? = some (some g) → ∀ {i : Nat}, m'[i]? = some (some g) → R[i]? = some j := fun {j g} hj {i} hi => by
    by_cases hjR : j ∈ R
    · have h1 := sub_ren (R := R) j g (by simpa using hjR) hj
      have := k.inj _ _ _ (pre_get hpre h1) hi
      rw [← this]
      exact idx_get hjR
    · obtain ⟨q1, q2⟩ := hblk hjR hj
      rcases k.mA g (List.mem_of_getElem? hi) with ha | ha
      · exact absurd ha q1
      · exact absurd q2 (by simpa [Sim.base] using ha)
  have hnew : ∀ {j g : Nat}, (backM m R m')[j]? = some (some g) → m[j]? = some (some g) ∨ (m.length ≤ j ∧ m'[R.length + (j - m.length)]? = some (some g)) := fun {j g} hj => by
    unfold backM at hj
    rw [List.getElem?_append] at hj
    split at hj
    · exact .inl hj
    · rw [List.getElem?_drop] at hj
      exact .inr ⟨by omega, hj⟩
  have hinR : ∀ {i j : Nat}, R.length ≤ i → R[i]? = some j → False := fun {i j} hi hj => by
    have := (List.getElem?_eq_some_iff.1 hj).1
    omega
  have hmid : Sim B W' I' (backM m R m') { st with hp := backHp st.hp R hp', al := [] } tmps := by
    refine ⟨⟨k.grow.os.trans h.grow.os, k.grow.tape.trans h.grow.tape, k.grow.output.trans h.grow.output, Nat.le_trans h.grow.size hsize, fun g hg ha => ?_, fun g o hi => k.grow.sub g o (h.grow.sub g o hi), fun g o hi => ?_,
        fun g o hi => (k.grow.keep g o (h.grow.sub g o hi)).trans (h.grow.keep g o hi), fun g hg => (k.grow.same g (lt_of_heap (h.grow.dfr g hg)) fun ha => ?_).trans (h.grow.dfr g hg), h.grow.dnd⟩, List.IsPrefix.trans h.pre (List.prefix_append _ _), k.live, h.len, fun t x hx => (h.fr t x hx).mono_le k.grow.sub k.grow.keep hmle, hlen,
      fun i j g hi hj => ?_, fun j b hb => ?_, fun g hg => ?_, fun g hg => ?_,
      fun l xs v hh => ?_, fun l xs v g hh hc => ?_, fun l l' xs xs' v v' g hh hh' hc hc' => ?_, fun t o k => (by cases k), h.nb⟩
    · have hna : ¬ (Sim.base W I m st tmps R).A g := fun hg' => (hA g hg').elim ha fun hle => by omega
      exact (k.grow.same g (Nat.lt_of_lt_of_le hg h.grow.size) hna).trans (h.grow.same g hg ha)
    · rcases k.grow.fresh g o hi with hi | hi | hi
      · exact h.grow.fresh g o hi
      · exact .inr (.inl (Nat.le_trans h.grow.size hi))
      · exact .inr (hA g hi).symm
    · have hd := h.grow.dfr g hg
      rcases ha with ha | ⟨id, off, xs, v, _, hh, hc⟩
      · exact h.memD (hsub ha) hd
      · exact h.heldD hh hc hd
    · rcases hnew hi with hi | ⟨i1, hi⟩ <;> rcases hnew hj with hj | ⟨j1, hj⟩
      · exact h.inj _ _ _ hi hj
      · exact (hinR (by omega) (hold hi hj)).elim
      · exact (hinR (by omega) (hold hj hi)).elim
      · have := k.inj _ _ _ hi hj
        omega
    · rcases back_cases hR hml hpre hmp hb with ⟨p1, p2, p3⟩ | ⟨i, b0, p1, p2, p3, p4, p5, p6⟩
      · obtain ⟨x, hx, hbx⟩ := h.blk j b p2
        refine ⟨x, by rw [p3]; exact hx, hbx.mono k.grow.sub k.grow.keep hmle fun g e => ?_⟩
        obtain ⟨q1, q2⟩ := hblk p1 (e ▸ hx)
        exact k.grow.same g q2 q1
      · obtain ⟨x, hx, hbx⟩ := k.blk i b0 p2
        exact ⟨x, by rw [p4]; exact hx, p3 ▸ hbx.ren_all hbm⟩
    · obtain ⟨j, hj⟩ := List.mem_iff_getElem?.1 hg
      rcases hnew hj with hj | ⟨_, hj⟩
      · exact h.mA g (List.mem_of_getElem? hj)
      · exact hA' g (k.mA g (List.mem_of_getElem? hj))
    · obtain ⟨j, hj⟩ := List.mem_iff_getElem?.1 hg
      by_cases hjR : j ∈ R
      · have hj' : m[j]? = some (some g) := by
          rcases hnew hj with hj | ⟨h1, _⟩
          · exact hj
          · exact absurd (hlt j hjR) (by omega)
        exact k.notI g (hpre.subset (List.mem_of_getElem? (sub_ren (R := R) j g (by simpa using hjR) hj')))
      · rcases hnew hj with hj | ⟨_, hj⟩
        · intro o hi
          obtain ⟨q1, q2⟩ := hblk hjR hj
          rcases k.grow.fresh g o hi with hi | hi | hi
          · exact h.notI g (List.mem_of_getElem? hj) o hi
          · exact absurd q2 (by simpa [Sim.base] using hi)
          · exact q1 hi
        · exact k.notI g (List.mem_of_getElem? hj)
    · rcases hheld hh with ⟨hl, kk⟩ | ⟨i, off, xs0, rfl, e, kk⟩
      · have ho := h.own _ _ _ kk
        refine ho.mono (fun g hc => k.grow.same g (hslot l xs v g hl kk hc).2 (hslot l xs v g hl kk hc).1) fun g o hc hi => ?_
        rcases k.grow.fresh g o hi with hi | hi | hi
        · exact hi
        · exact absurd (hslot l xs v g hl kk hc).2 (by simpa [Sim.base] using hi)
        · exact absurd hi (hslot l xs v g hl kk hc).1
      · exact (k.own _ _ _ kk).alike e
    · rcases hheld hh with ⟨hl, kk⟩ | ⟨i, off, xs0, rfl, e, kk⟩
      · refine ⟨(h.ownA _ _ _ _ kk hc).1, fun hg => ?_⟩
        obtain ⟨j, hj⟩ := List.mem_iff_getElem?.1 hg
        rcases hnew hj with hj | ⟨_, hj⟩
        · exact (h.ownA _ _ _ _ kk hc).2 (List.mem_of_getElem? hj)
        · rcases k.mA g (List.mem_of_getElem? hj) with hg | hg
          · exact (hslot l xs v g hl kk hc).1 hg
          · exact absurd (hslot l xs v g hl kk hc).2 (by simpa [Sim.base] using hg)
      · refine ⟨hA' g (k.ownA _ _ _ _ kk hc).1, fun hg => ?_⟩
        obtain ⟨j, hj⟩ := List.mem_iff_getElem?.1 hg
        rcases hnew hj with hj | ⟨_, hj⟩
        · by_cases hjR : j ∈ R
          · exact (k.ownA _ _ _ _ kk hc).2 (hpre.subset (List.mem_of_getElem? (sub_ren (R := R) j g (by simpa using hjR) hj)))
          · obtain ⟨q1, q2⟩ := hblk hjR hj
            rcases (k.ownA _ _ _ _ kk hc).1 with ha | ha
            · exact q1 ha
            · exact absurd q2 (by simpa [Sim.base] using ha)
        · exact (k.ownA _ _ _ _ kk hc).2 (List.mem_of_getElem? hj)
    · rcases hheld hh with ⟨hl, kk⟩ | ⟨i, off, xs0, rfl, e, kk⟩ <;> rcases hheld hh' with ⟨hl', kk'⟩ | ⟨i', off', xs0', rfl, e', kk'⟩
      · exact h.ownInj _ _ _ _ _ _ _ kk kk' hc hc'
      · rcases (k.ownA _ _ _ _ kk' hc').1 with hg | hg
        · exact absurd hg (hslot _ xs v g hl kk hc).1
        · exact absurd (hslot _ xs v g hl kk hc).2 (by simpa [Sim.base] using hg)
      · rcases (k.ownA _ _ _ _ kk hc).1 with hg | hg
        · exact absurd hg (hslot _ xs' v' g hl' kk' hc').1
        · exact absurd (hslot _ xs' v' g hl' kk' hc').2 (by simpa [Sim.base] using hg)
      · have := k.ownInj _ _ _ _ _ _ _ kk kk' hc hc'
        cases this
        rfl
  rw [← hml]
  have hrel : Rel W' I' (backM m R m') (v.ren (backId R m.length)) w := (by simpa using k.fr 0 v rfl : Rel W' I' m' v w).ren_all hbm
  cases own with
  | false =>
    cases d with
    | none => exact hmid
    | some d => exact hmid.put (some d) hrel
  | true =>
    obtain ⟨dd, xs, rfl⟩ := hsl rfl
    cases d with
    | none => exact hmid
    | some d =>
      have hres : Held W' m' (ret (.sl dd xs) true hp') #[w] (.tmp 0) xs w := by
        have : (#[w] : Array Value).getD 0 undef = w := rfl
        rw [← this]; exact .tmp (by simp [ret]) rfl
      obtain ⟨xs', hxs'⟩ : ∃ xs', xs' = (if dd then xs else V.renll (backId R m.length) xs) := ⟨_, rfl⟩
      have hren : V.ren (backId R m.length) (.sl dd xs) = .sl dd xs' := by rw [hxs']; rfl
      have halike : Alike xs xs' := by rw [hxs']; exact .ren _ _
      rw [hren] at hrel ⊢
      have hget : d < (St.put { st with hp := backHp st.hp R hp', al := [] } (some d) (.sl dd xs')).fr.length → (aput tmps (some d) w).getD d undef = w := fun hd => by
        simp only [aput]; rw [getD_set (by rw [h.len]; simpa [St.put] using hd), if_pos rfl]
      refine Sim.owns (hmid.put (some d) hrel) d (dd := dd) (xs := xs') (fun hd => by simp only [St.put] at hd ⊢; rw [List.getElem?_set]; simp at hd; simp [hd]) (fun hd => by rw [hget hd]; exact (k.own _ _ _ hres).alike halike)
        (fun g hd hc => ?_) fun l xs' v' g hh hc hd hc' => ?_
      · rw [hget hd] at hc
        refine ⟨hA' g (k.ownA _ _ _ _ hres hc).1, fun hg => ?_⟩
        obtain ⟨j, hj⟩ := List.mem_iff_getElem?.1 hg
        rcases hnew hj with hj | ⟨_, hj⟩
        · by_cases hjR : j ∈ R
          · exact (k.ownA _ _ _ _ hres hc).2 (hpre.subset (List.mem_of_getElem? (sub_ren (R := R) j g (by simpa using hjR) hj)))
          · obtain ⟨q1, q2⟩ := hblk hjR hj
            rcases (k.ownA _ _ _ _ hres hc).1 with ha | ha
            · exact q1 ha
            · exact absurd q2 (by simpa [Sim.base] using ha)
        · exact (k.ownA _ _ _ _ hres hc).2 (List.mem_of_getElem? hj)
      · rw [hget hd] at hc'
        obtain ⟨hh, hne⟩ := held_put hh
        rcases hheld hh with ⟨hl, kk⟩ | ⟨i, off, xs0, rfl, e, kk⟩
        · rcases (k.ownA _ _ _ _ hres hc').1 with hg | hg
          · exact absurd hg (hslot _ _ v' g hl kk hc).1
          · exact absurd (hslot _ _ v' g hl kk hc).2 (by simpa [Sim.base] using hg)
        · have := k.ownInj _ _ _ _ _ _ _ kk hres hc hc'; cases this
end

/-- The callee's last state, as what it hands back. -/
theorem Sim.toRet (h : Sim B W I m st tmps) (hB : B.n0 = B.m.length) {v : V} {w : Value} (own : Bool) (hr : Rel W I m v w)
    (ho : own = true → ∃ t, t ∈ st.own ∧ (st.fr[t]? = some v) ∧ tmps.getD t undef = w) : Sim B W I m (ret v own st.hp) #[w] := by
  have hh : ∀ {l xs u}, Held W m (ret v own st.hp) #[w] l xs u → (∃ t d, own = true ∧ v = .sl d xs ∧ w = u ∧ l = .tmp 0 ∧ Held W m st tmps (.tmp t) xs u) ∨ (∃ id off, l = .cell id off ∧ Held W m st tmps l xs u) := fun {l xs u} hh => by
    cases hh with
    | @tmp t d xs h1 h2 =>
      cases own with
      | false => simp [ret] at h1
      | true =>
        simp only [ret, if_true, List.mem_singleton] at h1
        subst h1
        simp only [ret, List.getElem?_cons_zero, Option.some.injEq] at h2
        subst h2
        obtain ⟨t, k1, k2, k3⟩ := ho rfl
        refine .inl ⟨t, d, rfl, rfl, rfl, rfl, ?_⟩
        have : (#[w] : Array Value).getD 0 undef = tmps.getD t undef := k3.symm
        rw [this]
        exact .tmp k1 k2
    | cell h1 h2 h3 h4 h5 => exact .inr ⟨_, _, rfl, .cell h1 h2 h3 h4 h5⟩
  refine ⟨h.grow, h.pre, h.live, rfl, fun t x hx => ?_, h.mlen, h.inj, h.blk, h.mA, h.notI, fun l xs u k => ?_, fun l xs u g k hc => ?_, fun l l' xs xs' u u' g k k' hc hc' => ?_, fun t o k => (by cases k), by
    simp only [ret]; rw [← h.mlen, hB]; exact h.pre.length_le⟩
  · cases t with
    | zero => simp [ret] at hx; subst hx; exact hr
    | succ t => simp [ret] at hx
  · rcases hh k with ⟨t, d, _, _, _, _, k⟩ | ⟨id, off, _, k⟩ <;> exact h.own _ _ _ k
  · rcases hh k with ⟨t, d, _, _, _, _, k⟩ | ⟨id, off, _, k⟩ <;> exact h.ownA _ _ _ _ k hc
  · rcases hh k with ⟨t, d, _, _, _, rfl, q⟩ | ⟨id, off, rfl, q⟩ <;> rcases hh k' with ⟨t', d', _, _, _, rfl, q'⟩ | ⟨id', off', rfl, q'⟩
    · rfl
    · have := h.ownInj _ _ _ _ _ _ _ q q' hc hc'; cases this
    · have := h.ownInj _ _ _ _ _ _ _ q q' hc hc'; cases this
    · exact h.ownInj _ _ _ _ _ _ _ q q' hc hc'

theorem BlkOk.on {n : Nat} {b : Blk} {x : Option Nat} (h : BlkOk W I m b x) (hb : b.all (fun i => Nat.blt i n) = true) : BlkOk W I (m.take n) b x := by
  cases h with
  | cells h hs h1 hr =>
    simp only [Blk.all] at hb
    exact .cells h hs h1 fun j x hx => (hr j x hx).restrict (alll_get hb hx)
  | loop h e1 e2 e4 e5 e6 hs hr hg =>
    simp only [Blk.all] at hb
    exact .loop h e1 e2 e4 e5 e6 hs (fun j x hx => (hr j x hx).restrict (alll_get hb hx)) hg
  | dead h hd => exact .dead h hd
  | ahead => exact .ahead

/-- The blocks that the callee made, and that nothing names any more, are let go. -/
theorem Sim.trunc (hB : B.n0 = B.m.length) {v : V} {own : Bool} {hp : List Blk} {w : Value} (h : Sim B W I m (ret v own hp) #[w]) (hv : V.lt B.m.length v = true) (hb : (hp.take B.m.length).all (Blk.all fun i => Nat.blt i B.m.length) = true) :
    Sim B W I B.m (ret v own (hp.take B.m.length)) #[w] := by
  have hm := pre_take h.pre
  have hml : B.m.length ≤ hp.length := by rw [← (by simpa [ret] using h.mlen : m.length = hp.length)]; exact h.pre.length_le
  have hget : ∀ {j : Nat} {b : Blk}, (hp.take B.m.length)[j]? = some b → j < B.m.length ∧ hp[j]? = some b := fun {j b} hj => by
    rw [List.getElem?_take] at hj
    split at hj
    · exact ⟨by assumption, hj⟩
    · cases hj
  have hmg : ∀ {j : Nat} {x : Option Nat}, B.m[j]? = some x → m[j]? = some x := fun hj => pre_get h.pre hj
  have hres : ∀ {x : V} {u : Value}, Rel W I m x u → V.lt B.m.length x = true → Rel W I B.m x u := fun hr hl => by have := hr.restrict hl; rwa [hm] at this
  have hh : ∀ {l xs u}, Held W B.m (ret v own (hp.take B.m.length)) #[w] l xs u → Held W m (ret v own hp) #[w] l xs u := fun hh => by
    cases hh with
    | tmp h1 h2 => exact .tmp h1 h2
    | cell h1 h2 h3 h4 h5 => exact .cell (hget h1).2 h2 h3 (hmg h4) h5
  have hsub : ∀ {g}, some g ∈ B.m → some g ∈ m := fun hg => h.pre.subset hg
  refine ⟨h.grow, List.prefix_refl _, h.live, rfl, fun t x hx => ?_, by simp [ret, Nat.min_eq_left hml], fun i j g hi hj => h.inj i j g (hmg hi) (hmg hj), fun j b hj => ?_, fun g hg => h.mA g (hsub hg), fun g hg => h.notI g (hsub hg),
    fun l xs u k => h.own _ _ _ (hh k), fun l xs u g k hc => ⟨(h.ownA _ _ _ _ (hh k) hc).1, fun hg => (h.ownA _ _ _ _ (hh k) hc).2 (hsub hg)⟩,
    fun l l' xs xs' u u' g k k' => h.ownInj l l' xs xs' u u' g (hh k) (hh k'), fun t o k => (by cases k), by simp [ret, Nat.min_eq_left hml, hB]⟩
  · cases t with
    | zero => simp [ret] at hx; subst hx; exact hres (by simpa using h.fr 0 v rfl) hv
    | succ t => simp [ret] at hx
  · obtain ⟨hlt, hj'⟩ := hget hj
    obtain ⟨x, hx, hb'⟩ := h.blk j b hj'
    refine ⟨x, by rw [← hm, List.getElem?_take, if_pos hlt]; exact hx, ?_⟩
    have := hb'.on (n := B.m.length) (List.all_eq_true.1 hb b (List.mem_of_getElem? hj))
    rwa [hm] at this

end Go.Abs
