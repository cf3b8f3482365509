/- A region that draws its order: whatever is drawn, it comes to what the text's order comes to. -/
import Derived.Test.YtpjolollnhfciaaAbsDraw3
set_option linter.all false
namespace Go.Abs
open Go.Lib
variable [BT] {F : Fence} {n : Nat} {P : Program} {cfg : Cfg} {B : Base} {W : World} {I : Nat → Nat → Prop} {m : List (Option Nat)} {st st' : St} {a : Act} {o : Oper} {orc : Orc} {info : List (Bool × List Nat)} {n0 : Nat}

theorem wanted_sim (h : Sim B W I m st a.tmps) {ops : Array Oper} {b : Bool} (hw : wantedV ops.toList st.fr o = some b) : Region.wanted o (yielded ops a.tmps) = b := by
  unfold wantedV at hw
  unfold Region.wanted
  split at hw
  · rename_i hg
    cases hw
    simp [hg]
  · rename_i j want hg
    simp only [hg]
    split at hw
    · rename_i d hd
      split at hw
      · rename_i b' hb'
        cases hw
        have hfr := fr_get (st := st) (u := d) (x := .bool b') (by simp) (by simp only [ev]; exact hb')
        have hrel := rel_bool_inv (h.fr d _ hfr)
        have hlt : d < a.tmps.size := by rw [h.len]; exact (List.getElem?_eq_some_iff.1 hfr).1
        have hget : a.tmps[d]? = some (.bool b') := by rw [get_of_lt hlt, hrel]
        have hd' : (ops[j]?).bind (·.dst) = some d := by rw [← hd, Array.getElem?_toList]
        have hy : yielded ops a.tmps j = some b' := by unfold yielded; rw [hd']; simp only [Option.bind_some, hget]
        rw [hy]
        cases b' <;> cases want <;> rfl
      · rename_i hu
        cases hw
        have hfr := fr_get (st := st) (u := d) (x := .tup []) (by simp) (by simp only [ev]; exact hu)
        have hrel := h.fr d _ hfr
        have hlt : d < a.tmps.size := by rw [h.len]; exact (List.getElem?_eq_some_iff.1 hfr).1
        have hd' : (ops[j]?).bind (·.dst) = some d := by rw [← hd, Array.getElem?_toList]
        have hy : yielded ops a.tmps j = none := by
          unfold yielded
          rw [hd']
          generalize hg : a.tmps.getD d undef = x at hrel
          have hget : a.tmps[d]? = some x := by rw [get_of_lt hlt, hg]
          cases hrel
          simp only [Option.bind_some, hget]
        rw [hy]
        cases want <;> rfl
      · cases hw
    · cases hw

theorem Sim.rebase {tmps : Array Value} (h : Sim B W I m st tmps) : Sim { B with m := m } W I m st tmps :=
  ⟨⟨h.grow.os, h.grow.tape, h.grow.output, h.grow.size, h.grow.same, h.grow.sub, h.grow.fresh, h.grow.keep, h.grow.dfr, h.grow.dnd⟩, List.prefix_refl _, h.live, h.len, h.fr, h.mlen, h.inj, h.blk, h.mA, h.notI, h.own, h.ownA, h.ownInj, h.al, h.nb⟩

theorem Sim.unbase {tmps : Array Value} {m0 : List (Option Nat)} (h : Sim { B with m := m0 } W I m st tmps) (hp : B.m <+: m0) : Sim B W I m st tmps :=
  ⟨⟨h.grow.os, h.grow.tape, h.grow.output, h.grow.size, h.grow.same, h.grow.sub, h.grow.fresh, h.grow.keep, h.grow.dfr, h.grow.dnd⟩, List.IsPrefix.trans hp h.pre, h.live, h.len, h.fr, h.mlen, h.inj, h.blk, h.mA, h.notI, h.own, h.ownA, h.ownInj, h.al, h.nb⟩

theorem pre_set {m0 : List (Option Nat)} {k : Nat} {x : Option Nat} (h : m0 <+: m) (hk : m0.length ≤ k) : m0 <+: m.set k x := by
  obtain ⟨r, rfl⟩ := h
  exact ⟨r.set (k - m0.length) x, by rw [List.set_append_right _ _ hk]⟩

theorem beqN {x y : List Nat} (h : (x == y) = true) : x = y := by simpa using h

/-- A light operation. -/
theorem lim_sim (hok : cfg.Ok P) (hF : FOk F) (hcall : CallOk P orc) {hole : Nat} {v : V} (hev : limV cfg orc hole o st.fr st.hp = some v) (h : Sim B W I m st a.tmps) (hh : B.m.length ≤ hole) (hm : isAlloc o = true → m[hole]? = some none)
    {next : Act → World → Prop} {Q : Exit → Act → World → Prop}
    (k : ∀ a' W' I' m', a'.defers = a.defers → Sim B W' I' m' (st.put o.dst v) a'.tmps → (∀ j : Nat, m[j]? = some none → (isAlloc o = true → j ≠ hole) → m'[j]? = some none) → next a' W') : o.wpIn F n P a W next Q := by
  by_cases hal : isAlloc o = true
  · have hm1 := hm hal
    clear hm
    have hm := hm1
    obtain ⟨dst, op, ty, pos, after, guard⟩ := o
    cases op <;> simp only [isAlloc, Bool.false_eq_true] at hal
    rename_i t
    simp only [limV] at hev
    split at hev
    · rename_i ti t' ow cs hti hb
      split at hev
      · rename_i hc
        cases hev
        simp only [Bool.and_eq_true] at hc
        obtain ⟨⟨ht, how⟩, hcs⟩ := hc
        have ht := Nat.eq_of_beq_eq_true ht
        have how := beqN how
        have hcs := beqL_eq hcs
        subst ht; subst how; subst hcs
        obtain ⟨i, d, z, T⟩ := hok.ty _ _ hti
        have hz : (zeroValue t).run P W = .ok z W := by simp [zeroValue, typeInfo, T.info, T.zero]
        have hr := rowRel_zero (W := W) (I := I) (m := m) T
        have hlt : hole < m.length := (List.getElem?_eq_some_iff.1 hm).1
        have hS := h.lay (m' := m.set hole (some W.heap.size)) (hp' := st.hp) hole (nilOffs 0 ti.zero) ti.zero z.cells t hr.1 hr.2.1 hr.2.2 (fun j d xs hj hx => by
            rw [T.zeq] at hx
            simp only [List.getElem?_map, Option.map_eq_some_iff, Array.getElem?_toList] at hx
            obtain ⟨w, h1, h2⟩ := hx
            obtain ⟨rfl, rfl⟩ := ofConst_sl h2
            exact ⟨none, getD_arr h1⟩) (pre_set h.pre hh) (by simp [h.mlen]) (fun j => by
            rw [List.getElem?_set]
            by_cases e : hole = j
            · subst e; simp [hlt]
            · rw [if_neg e, if_neg (fun e' => e e'.symm)]) (fun j => by
            split
            · rename_i e; subst e; exact hb
            · rfl) fun g hg => by rw [hm] at hg; cases hg
        have hrel : Rel (W.alloc (.cells z.cells t)) I (m.set hole (some W.heap.size)) (.ptr hole 0) (.pointer (some ⟨W.heap.size, 0, none⟩)) := .ptr (by rw [List.getElem?_set_self hlt])
        refine wp_value hF (by simp) (w := .pointer (some ⟨W.heap.size, 0, none⟩)) (W' := W.alloc (.cells z.cells t)) ?_ ?_
        · simp only [execOp, Instr.alloc, Sem.run_bind, hz, Result.andThen_ok, newVar, Go.newRow, run_newObj, Sem.run_pure]
          rfl
        · have h2 := hS.put dst hrel
          refine k _ _ I _ (put_defers _ _ _) (by rw [put_tmps]; exact h2) fun j hj hne => ?_
          rw [List.getElem?_set_ne (fun e => hne rfl e.symm)]; exact hj
      · cases hev
    · cases hev
  · have hna : ∀ t, o.op ≠ .alloc t := fun t e => hal (by simp [isAlloc, e])
    have hev' : evOp cfg orc true o st = some (st.put o.dst v) := by rw [evOp_lim hole hna, hev]; rfl
    refine evOp_sim hok hF hcall hev' h.rebase fun a' W' ⟨hd, I', m', hS⟩ => ?_
    exact k a' W' I' m' hd (hS.unbase h.pre) fun j hj _ => pre_get hS.pre hj

/-- One operation of a region that draws. -/
theorem evD_sim (hok : cfg.Ok P) (hF : FOk F) (hcall : CallOk P orc) {ops : Array Oper} {i : Nat} {s s1 : DS} (hev : evD cfg orc n0 ops.toList info i s = some s1) (h : Sim B W I m s.st a.tmps) (hn0 : B.m.length ≤ n0)
    (hm : ∀ o c, ops[i]? = some o → info[i]? = some (true, c) → isAlloc o = true → m[n0 + rank ops.toList info i]? = some none)
    {K : Act → World → Prop} {Q : Exit → Act → World → Prop}
    (k : ∀ a' W' I' m', a'.defers = a.defers → Sim B W' I' m' s1.st a'.tmps →
      (∀ j : Nat, m[j]? = some none → (∀ o c, ops[i]? = some o → info[i]? = some (true, c) → isAlloc o = true → j ≠ n0 + rank ops.toList info i) → m'[j]? = some none) → K a' W') : wpOpIn F n P ops Q i K a W := by
  unfold evD at hev
  unfold wpOpIn
  rw [Array.getElem?_toList] at hev
  split at hev
  · rename_i o lim cont ho hi
    rw [ho]
    simp only
    split at hev
    · cases hev
    · rename_i hw
      cases hev
      rw [if_neg (by rw [wanted_sim h hw]; simp)]
      exact ⟨fun f _ => hF.fn f, k _ _ I m (put_defers _ _ _) (by rw [put_tmps]; exact h.put o.dst rel_und) fun j hj _ => hj⟩
    · rename_i hw
      rw [if_pos (wanted_sim h hw)]
      split at hev
      · rename_i hl
        subst hl
        split at hev
        · cases hev
        · rename_i v hv
          obtain ⟨gh, _, rfl⟩ := Option.map_eq_some_iff.1 hev
          exact lim_sim hok hF hcall hv h (Nat.le_trans hn0 (Nat.le_add_right _ _)) (hm o cont ho hi) fun a' W' I' m' hd hS hmm => k a' W' I' m' hd hS fun j hj hne => hmm j hj fun hal => hne o cont ho hi hal
      · split at hev
        · cases hev
        · rename_i st1 hop
          obtain ⟨gh, _, rfl⟩ := Option.map_eq_some_iff.1 hev
          refine evOp_sim hok hF hcall hop h.rebase fun a' W' ⟨hd, I', m', hS⟩ => ?_
          exact k a' W' I' m' hd (hS.unbase h.pre) fun j hj _ => pre_get hS.pre hj
  · cases hev

/-! ### Moved to the front -/
def Srcs (ops : List Oper) (info : List (Bool × List Nat)) (t : Tmp) : Prop := ∃ (k : Nat) (y : Oper) (c : List Nat), ops[k]? = some y ∧ info[k]? = some (false, c) ∧ y.op = .move (.tmp t)

def Indep (ops : List Oper) (info : List (Bool × List Nat)) (i j : Nat) : Prop := ∃ x y cx ly cy, Apart ops info (Srcs ops info) i j x y cx ly cy

theorem evD_inv {ops : List Oper} {i : Nat} {s s' : DS} (h : evD cfg orc n0 ops info i s = some s') :
    s'.gh.length = s.gh.length ∧ (∀ k, i ≠ k → s'.gh.getD k [] = s.gh.getD k []) ∧ (AlIn (Srcs ops info) s.st → AlIn (Srcs ops info) s'.st) := by
  unfold evD at h
  split at h
  · rename_i o lim cont ho hi
    split at h
    · cases h
    · cases h; exact ⟨rfl, fun _ _ => rfl, fun ha => ha.put _ _⟩
    · split at h
      · split at h
        · cases h
        · obtain ⟨gh, ht, rfl⟩ := Option.map_eq_some_iff.1 h
          obtain ⟨h1, h2⟩ := touched_other ht
          exact ⟨h1, h2, fun ha => ha.put _ _⟩
      · rename_i hl
        split at h
        · cases h
        · rename_i st1 hop
          obtain ⟨gh, ht, rfl⟩ := Option.map_eq_some_iff.1 h
          obtain ⟨h1, h2⟩ := touched_other ht
          have hl : lim = false := by simpa using hl
          subst hl
          exact ⟨h1, h2, (evOp_frame hop fun t he => ⟨i, o, cont, ho, hi, he⟩).2.2⟩
  · cases h

theorem front {ops : List Oper} {i : Nat} {post : List Nat} : ∀ (pre : List Nat) {s s' : DS}, s.gh.length = ops.length → AlIn (Srcs ops info) s.st → s.gh.getD i [] = [] → (∀ b ∈ pre, s.gh.getD b [] = []) → pre.Nodup → i ∉ pre →
    (∀ b ∈ pre, Indep ops info b i ∨ Indep ops info i b) → evDs cfg orc n0 ops info (pre ++ i :: post) s = some s' → evDs cfg orc n0 ops info (i :: (pre ++ post)) s = some s'
  | [], s, s', _, _, _, _, _, _, _, h => h
  | b :: pre, s, s', hl, hal, hi, hb, hnd, hni, hin, h => by
    simp only [List.cons_append, evDs] at h
    rcases h1 : evD cfg orc n0 ops info b s with _ | s1
    · rw [h1] at h; cases h
    · rw [h1] at h
      simp only at h
      simp only [List.mem_cons, not_or] at hni
      obtain ⟨q1, q2, q3⟩ := evD_inv h1
      have hbn := (List.nodup_cons.1 hnd).1
      have := front pre (s := s1) (s' := s') (by rw [q1, hl]) (q3 hal) (by rw [q2 i fun e => hni.1 e.symm]; exact hi) (fun c hc => by rw [q2 c fun e => hbn (e ▸ hc)]; exact hb c (List.mem_cons_of_mem _ hc)) (List.nodup_cons.1 hnd).2 hni.2
        (fun c hc => hin c (List.mem_cons_of_mem _ hc)) h
      simp only [evDs] at this
      rcases h2 : evD cfg orc n0 ops info i s1 with _ | s2
      · rw [h2] at this; cases this
      · rw [h2] at this
        simp only at this
        have hsw : ∃ s1', evD cfg orc n0 ops info i s = some s1' ∧ evD cfg orc n0 ops info b s1' = some s2 := by
          rcases hin b List.mem_cons_self with ⟨x, y, cx, ly, cy, A⟩ | ⟨x, y, cx, ly, cy, A⟩
          · exact swap1 A hl (hb b List.mem_cons_self) hi hal h1 h2
          · exact swap2 A hl hi (hb b List.mem_cons_self) hal h1 h2
        obtain ⟨s1', h3, h4⟩ := hsw
        simp only [List.cons_append, evDs, h3, h4]
        exact this

/-! ### What was checked -/
structure Preds (ops : List Oper) (pr : List (List Nat)) : Prop where
  lt : ∀ i p, p ∈ pr.getD i [] → i < ops.length → p < i
  edge : ∀ i o, ops[i]? = some o → ∀ e ∈ o.after, Region.binds .any e = true → e.on < i ∧ e.on ∈ pr.getD i []
  back : ∀ i o, ops[i]? = some o → ∀ p ∈ pr.getD i [], ∃ e ∈ o.after, Region.binds .any e = true ∧ (e.on = p ∨ p ∈ pr.getD e.on [])

theorem preds_of {ops : List Oper} {pr : List (List Nat)} (h : predsOk ops pr = true) : Preds ops pr := by
  simp only [predsOk, List.all_eq_true, List.mem_range] at h
  have key : ∀ i o, ops[i]? = some o → _ := fun i o ho => by
    have := h i (List.getElem?_eq_some_iff.1 ho).1
    rw [ho] at this
    exact this
  refine ⟨fun i p hp hi => ?_, fun i o ho e he hb => ?_, fun i o ho p hp => ?_⟩
  · have := key i _ (List.getElem?_eq_getElem hi)
    simp only [Bool.and_eq_true, List.all_eq_true] at this
    simpa using this.1.1 p hp
  · have := key i o ho
    simp only [Bool.and_eq_true, List.all_eq_true] at this
    have := this.1.2 e (by simpa using he)
    simp only [hb, Bool.not_true, Bool.false_or, Bool.and_eq_true, List.contains_iff_mem] at this
    exact ⟨by simpa using this.1.1, this.1.2⟩
  · have := key i o ho
    simp only [Bool.and_eq_true, List.all_eq_true] at this
    have := this.2 p hp
    simp only [List.any_eq_true, Bool.and_eq_true, Bool.or_eq_true] at this
    obtain ⟨e, he, hb, hc⟩ := this
    exact ⟨e, by simpa using he, hb, hc.imp (fun h => Nat.eq_of_beq_eq_true h) fun h => by simpa using h⟩

theorem isSource_of {o : Oper} {t : Tmp} (h : o.op = .move (.tmp t)) : isSource o (some t) = true := by
  simp [isSource, h]

theorem indep_of {ops : List Oper} (hd : drawsOk ops info = true) {i j : Nat} (hij : i ≠ j) (h : isLim info i = true ∧ apartOk ops info i j = true) : Indep ops info i j := by
  obtain ⟨h1, h2⟩ := h
  unfold apartOk at h2
  split at h2
  · rename_i x y lx cx ly cy hx hy hix hiy
    simp only [Bool.and_eq_true, Bool.or_eq_true, Bool.not_eq_true'] at h2
    obtain ⟨⟨h3, h4⟩, h5⟩ := h2
    have hl : lx = true := by simpa [isLim, hix] using h1
    subst hl
    obtain ⟨d1, d2, d3⟩ := Oper.apart_spec h3
    refine ⟨x, y, cx, ly, cy, hij, hx, hy, hix, hiy, d1, d2, d3, by simpa using h4, fun hly hlx hwy => ?_, fun d hxd ⟨k, z, c, hz, hk, he⟩ => ?_, fun hly t ht => ⟨j, y, cy, hy, by rw [hiy, hly], ht⟩⟩
    · rcases h5 with (h5 | h5) | h5
      · rw [hly] at h5; cases h5
      · rw [hlx, hwy] at h5; cases h5
      · exact h5
    · simp only [drawsOk, Bool.and_eq_true] at hd
      have := List.all_eq_true.1 hd.1.2 i (List.mem_range.2 (List.getElem?_eq_some_iff.1 hx).1)
      simp only [h1, Bool.not_true, Bool.false_or, List.all_eq_true, List.mem_range] at this
      have := this k (List.getElem?_eq_some_iff.1 hz).1
      have hkl : isLim info k = false := by simp [isLim, hk]
      rw [hkl, hx, hz] at this
      simp only [Bool.false_or, Bool.not_eq_true'] at this
      rw [hxd, isSource_of he] at this
      cases this
  · cases h2

theorem drawn_of {ops : List Oper} (hd : drawsOk ops info = true) {i j : Nat} (hij : i < j) (hj : j < ops.length) : i ∈ (preds ops 0 []).getD j [] ∨ Indep ops info i j ∨ Indep ops info j i := by
  have hd0 := hd
  simp only [drawsOk, Bool.and_eq_true] at hd
  have := List.all_eq_true.1 hd.1.1.2 j (List.mem_range.2 hj)
  have := List.all_eq_true.1 this i (List.mem_range.2 hij)
  simp only [Bool.or_eq_true, Bool.and_eq_true, List.contains_iff_mem] at this
  rcases this with (h | h) | h
  · exact .inl h
  · exact .inr (.inl (indep_of hd0 (by omega) h))
  · exact .inr (.inr (indep_of hd0 (by omega) h))

/-! ### Any order -/
def rem (n : Nat) (listed : Array Bool) : List Nat := (List.range n).filter fun i => !listed.getD i true

theorem mem_rem {k n : Nat} {listed : Array Bool} : k ∈ rem n listed ↔ k < n ∧ listed.getD k true = false := by simp [rem]

theorem rem_sorted {n : Nat} {listed : Array Bool} : (rem n listed).Pairwise (· < ·) := List.Pairwise.filter _ List.pairwise_lt_range

theorem rem_set {n i : Nat} {listed : Array Bool} {pre post : List Nat} (hs : listed.size = n) (h : rem n listed = pre ++ i :: post) : rem n (listed.setIfInBounds i true) = pre ++ post := by
  have hsort := rem_sorted (n := n) (listed := listed)
  rw [h] at hsort
  have hi : i < n := (mem_rem.1 (by rw [h]; simp : i ∈ rem n listed)).1
  have e : rem n (listed.setIfInBounds i true) = (rem n listed).filter fun k => k != i := by
    unfold rem
    rw [List.filter_filter]
    apply List.filter_congr
    intro k hk
    rw [List.mem_range] at hk
    by_cases hki : i = k
    · subst hki; simp [hs, hi]
    · rw [getD_set_ne true hki]
      have : (k != i) = true := by simpa using fun e => hki e.symm
      rw [this, Bool.true_and]
  rw [e, h, List.filter_append, List.filter_cons_of_neg (by simp)]
  simp only [List.pairwise_append, List.pairwise_cons] at hsort
  congr 1
  · rw [List.filter_eq_self]
    intro k hk
    have := hsort.2.2 k hk i List.mem_cons_self
    simp; omega
  · rw [List.filter_eq_self]
    intro k hk
    have := hsort.2.1.1 k hk
    simp; omega

theorem listed_conv {listed : Array Bool} {i : Nat} (h : i < listed.size) : listed.getD i true = listed.getD i false := by simp [h]

theorem rank_lt {ops : List Oper} : ∀ {info : List (Bool × List Nat)} {i j : Nat}, i < j → ∀ {o : Oper} {c : List Nat}, ops[i]? = some o → info[i]? = some (true, c) → isAlloc o = true → rank ops info i < rank ops info j := by
  induction ops with
  | nil => intro info i j _ o c h; simp at h
  | cons o0 ops ih =>
    intro info i j hij o c ho hi hal
    cases info with
    | nil => simp at hi
    | cons x info =>
      obtain ⟨l, c0⟩ := x
      cases j with
      | zero => omega
      | succ j =>
        cases i with
        | zero =>
          simp only [List.getElem?_cons_zero, Option.some.injEq, Prod.mk.injEq] at ho hi
          obtain ⟨rfl, rfl⟩ := hi
          subst ho
          simp [rank, hal]
          omega
        | succ i =>
          simp only [List.getElem?_cons_succ] at ho hi
          have := ih (by omega : i < j) ho hi hal
          simp only [rank]
          omega

section
variable {ops : Array Oper} {Q : Exit → Act → World → Prop} {s' : DS}

theorem draw_any (hok : cfg.Ok P) (hF : FOk F) (hcall : CallOk P orc) (hd : drawsOk ops.toList info = true) (hn0 : B.m.length ≤ n0) : ∀ (fuel : Nat) (listed : Array Bool) {s : DS} {a : Act} {W : World} {I : Nat → Nat → Prop} {m : List (Option Nat)},
    listed.size = ops.size → (rem ops.size listed).length ≤ fuel → (∀ i, listed.getD i false = true → ∀ p ∈ (preds ops.toList 0 []).getD i [], listed.getD p false = true) →
    s.gh.length = ops.size → (∀ k ∈ rem ops.size listed, s.gh.getD k [] = []) → AlIn (Srcs ops.toList info) s.st →
    (∀ k ∈ rem ops.size listed, ∀ o c, ops[k]? = some o → info[k]? = some (true, c) → isAlloc o = true → m[n0 + rank ops.toList info k]? = some none) →
    Sim B W I m s.st a.tmps → evDs cfg orc n0 ops.toList info (rem ops.size listed) s = some s' → (∀ a' W', After B s'.st a.defers a' W' → Q .normal a' W') → wpAnyIn F n P .any ops Q fuel listed a W := by
  have hpo : Preds ops.toList (preds ops.toList 0 []) := preds_of (by
    simp only [drawsOk, Bool.and_eq_true] at hd
    exact hd.1.1.1.2)
  have ready_rem : ∀ {listed : Array Bool} {i : Nat}, i ∈ Region.ready .any ops listed → i ∈ rem ops.size listed := fun {listed i} hi => by
    obtain ⟨h0, o, ho, _⟩ := mem_ready.1 hi
    exact mem_rem.2 ⟨(Array.getElem?_eq_some_iff.1 ho).1, h0⟩
  have rem_ready : ∀ {listed : Array Bool}, listed.size = ops.size → Region.ready .any ops listed = [] → rem ops.size listed = [] := fun {listed} hs hr => by
    rcases h : rem ops.size listed with _ | ⟨i, r⟩
    · rfl
    · exfalso
      have hsort := rem_sorted (n := ops.size) (listed := listed)
      rw [h] at hsort
      have hi := mem_rem.1 (by rw [h]; simp : i ∈ rem ops.size listed)
      have : i ∈ Region.ready .any ops listed := by
        refine mem_ready.2 ⟨hi.2, ops[i], Array.getElem?_eq_getElem hi.1, fun e he hb => ?_⟩
        obtain ⟨hlt, _⟩ := hpo.edge i ops[i] (by rw [Array.getElem?_toList]; exact Array.getElem?_eq_getElem hi.1) e he hb
        rw [← listed_conv (by omega)]
        cases hc : listed.getD e.on true with
        | true => rfl
        | false =>
          have hm : e.on ∈ rem ops.size listed := mem_rem.2 ⟨by omega, hc⟩
          rw [h] at hm
          rcases List.mem_cons.1 hm with e1 | hm
          · omega
          · have := (List.pairwise_cons.1 hsort).1 _ hm
            omega
      rw [hr] at this
      cases this
  intro fuel
  induction fuel with
  | zero =>
    intro listed s a W I m hs hl hcl hgl hg hal hm h hev k
    have h0 : rem ops.size listed = [] := List.eq_nil_of_length_eq_zero (by omega)
    rw [h0] at hev
    simp only [evDs, Option.some.injEq] at hev
    subst hev
    refine ⟨?_, k _ _ ⟨rfl, I, m, h⟩⟩
    rcases hr : Region.ready .any ops listed with _ | ⟨i, r⟩
    · rfl
    · have : i ∈ rem ops.size listed := ready_rem (by rw [hr]; simp)
      rw [h0] at this
      cases this
  | succ fuel ih =>
    intro listed s a W I m hs hl hcl hgl hg hal hm h hev k
    refine ⟨fun hr => ?_, fun i hi => ?_⟩
    · rw [rem_ready hs hr] at hev
      simp only [evDs, Option.some.injEq] at hev
      subst hev
      exact k _ _ ⟨rfl, I, m, h⟩
    · obtain ⟨h0, o, ho, hall⟩ := mem_ready.1 hi
      have him := ready_rem hi
      obtain ⟨pre, post, hsplit⟩ := List.append_of_mem him
      have hsort := rem_sorted (n := ops.size) (listed := listed)
      rw [hsplit] at hsort hev
      have hnd : (pre ++ i :: post).Nodup := hsort.imp fun h => by omega
      simp only [List.nodup_append, List.nodup_cons] at hnd
      simp only [List.pairwise_append, List.pairwise_cons] at hsort
      have hip : i ∉ pre := fun hip => hnd.2.2 i hip i List.mem_cons_self rfl
      have hrem : ∀ b ∈ pre, b ∈ rem ops.size listed := fun b hb => by rw [hsplit]; simp [hb]
      -- what comes before it is listed
      have hpre : ∀ p ∈ (preds ops.toList 0 []).getD i [], listed.getD p false = true := fun p hp => by
        obtain ⟨e, he, hb, hc⟩ := hpo.back i o (by rw [Array.getElem?_toList]; exact ho) p hp
        rcases hc with rfl | hc
        · exact hall e he hb
        · exact hcl _ (hall e he hb) p hc
      have hind : ∀ b ∈ pre, Indep ops.toList info b i ∨ Indep ops.toList info i b := fun b hb => by
        have hlt := hsort.2.2 b hb i List.mem_cons_self
        rcases drawn_of hd hlt (by rw [Array.length_toList]; exact (Array.getElem?_eq_some_iff.1 ho).1) with hp | hp | hp
        · have h1 := hpre b hp
          obtain ⟨h2, h3⟩ := mem_rem.1 (hrem b hb)
          rw [listed_conv (by omega), h1] at h3
          cases h3
        · exact .inl hp
        · exact .inr hp
      have hfr := front (cfg := cfg) (orc := orc) (n0 := n0) (info := info) pre (by rw [hgl, Array.length_toList]) hal (hg i him) (fun b hb => hg b (hrem b hb)) hnd.1 hip hind hev
      simp only [evDs] at hfr
      rcases h1 : evD cfg orc n0 ops.toList info i s with _ | s1
      · rw [h1] at hfr; cases hfr
      · rw [h1] at hfr
        simp only at hfr
        obtain ⟨q1, q2, q3⟩ := evD_inv h1
        have hrs := rem_set hs hsplit
        refine evD_sim hok hF hcall h1 h hn0 (hm i him) fun a' W' I' m' hde hS hmm => ?_
        refine ih (listed.setIfInBounds i true) (s := s1) (by simp [hs]) (by rw [hrs]; rw [hsplit] at hl; simp at hl ⊢; omega) (fun j hj p hp => ?_) (by rw [q1, hgl]) (fun b hb => ?_) (q3 hal) (fun b hb o' c' hob hib hab => ?_) hS (by rw [hrs]; exact hfr)
          (by rw [hde]; exact k)
        · by_cases hij : i = j
          · subst hij; exact getD_set_true (hpre p hp)
          · rw [getD_set_ne false hij] at hj
            exact getD_set_true (hcl j hj p hp)
        · rw [hrs] at hb
          have hne : i ≠ b := fun e => by
            subst e
            rcases List.mem_append.1 hb with hb | hb
            · exact hip hb
            · exact hnd.2.1.1 hb
          rw [q2 b hne]
          exact hg b (by rw [hsplit]; simp at hb ⊢; rcases hb with hb | hb <;> simp [hb])
        · rw [hrs] at hb
          have hne : i ≠ b := fun e => by
            subst e
            rcases List.mem_append.1 hb with hb | hb
            · exact hip hb
            · exact hnd.2.1.1 hb
          refine hmm _ (hm b (by rw [hsplit]; simp at hb ⊢; rcases hb with hb | hb <;> simp [hb]) o' c' hob hib hab) fun oi ci hoi hii hai he => ?_
          have he : rank ops.toList info b = rank ops.toList info i := by omega
          rcases Nat.lt_or_ge b i with hlt | hge
          · have := rank_lt (ops := ops.toList) hlt (by rw [Array.getElem?_toList]; exact hob) hib hab
            omega
          · have := rank_lt (ops := ops.toList) (show i < b by omega) (by rw [Array.getElem?_toList]; exact hoi) hii hai
            omega
end

theorem laid_length {ops : List Oper} : ∀ {info : List (Bool × List Nat)}, (laidAhead cfg ops info).length = rank ops info ops.length := by
  induction ops with
  | nil => intro info; cases info <;> rfl
  | cons o ops ih =>
    intro info
    cases info with
    | nil => rfl
    | cons x info =>
      obtain ⟨l, c⟩ := x
      simp only [List.length_cons, rank, ← ih]
      cases l with
      | false => simp [laidAhead]
      | true =>
        simp only [laidAhead]
        cases ho : o.op <;> simp [isAlloc, ho]
        omega

/-- A region that draws its order. -/
theorem evDraw_sim (hok : cfg.Ok P) (hF : FOk F) (hcall : CallOk P orc) (hmix : P.follows .mixedOrders = true) {ops : Array Oper} (hd : drawsOk ops.toList info = true) {id : Nat} (hev : evDraw cfg orc ops.toList info st = some st') (h : Sim B W I m st a.tmps)
    {Q : Exit → Act → World → Prop} (k : ∀ a' W', After B st' a.defers a' W' → Q .normal a' W') : (Code.region id ops true).wpIn F n P Q a W := by
  obtain ⟨s', hs', rfl⟩ := Option.map_eq_some_iff.1 hev
  have hlen : m.length = st.hp.length := h.mlen
  have h0 := ((h.noAl).holes (laidAhead cfg ops.toList info)).drew (W.drawn + 1)
  have hrem : rem ops.size (Array.replicate ops.size false) = List.range ops.size := by
    unfold rem
    rw [List.filter_eq_self]
    intro i hi
    rw [List.mem_range] at hi
    simp [hi]
  refine wpIn_region_any hmix (draw_any (n0 := st.hp.length) (s := { st := { st with hp := st.hp ++ laidAhead cfg ops.toList info, al := [] }, gh := List.replicate ops.toList.length [] }) hok hF hcall hd (by have := h.pre.length_le; omega) ops.size _
    (by simp) (by rw [hrem]; simp) (fun i hi => ?_) (by simp) (fun j hj => ?_) (fun p hp => by cases hp) (fun j hj o c ho hi hal => ?_) h0 (by rw [hrem]; simpa using hs') k)
  · simp [Array.getElem?_replicate] at hi
    split at hi <;> simp at hi
  · simp [List.getD_eq_getElem?_getD, List.getElem?_replicate]
    split <;> rfl
  · obtain ⟨hjl, _⟩ := mem_rem.1 hj
    have := rank_lt (ops := ops.toList) (info := info) (j := ops.toList.length) (by simpa using hjl) (by rw [Array.getElem?_toList]; exact ho) hi hal
    rw [List.getElem?_append_right (by omega), List.getElem?_replicate, if_pos]
    rw [laid_length]
    omega

end Go.Abs
