/- Every operation at once. -/
import Derived.Test.YtpjolollnhfciaaAbsText
import Derived.RangeFuncRecord
set_option linter.all false
namespace Go.Abs
open Go.Lib
variable [BT] {F : Fence} {n : Nat} {P : Program} {cfg : Cfg} {B : Base} {W : World} {I : Nat → Nat → Prop} {m : List (Option Nat)} {st st' : St} {a : Act} {o : Oper} {tmps : Array Value} {orc : Orc}

theorem ren_pure {f : Nat → Nat} : ∀ v : V, V.lt 0 v = true → v.ren f = v := by
  intro v
  refine V.rec (motive_1 := fun v => V.lt 0 v = true → V.ren f v = v) (motive_2 := fun l => V.ltl 0 l = true → V.renl f l = l)
    (motive_3 := fun l => V.allll (fun i => Nat.blt i 0) l = true → V.renll f l = l) ?_ ?_ ?_ ?_ ?_ ?_ ?_ ?_ ?_ ?_ ?_ ?_ ?_ ?_ ?_ ?_ ?_ ?_ ?_ ?_ v <;> intros <;> simp_all [V.lt, V.ltl, V.all, V.alll, V.allll, V.ren, V.renl, V.renll]
  · rename_i d _ _ h
    cases d <;> simp_all
  · rename_i d _ _ h
    cases d <;> simp_all

theorem renl_pure {f : Nat → Nat} : ∀ l : List V, V.ltl 0 l = true → V.renl f l = l
  | [], _ => rfl
  | v :: r, h => by
    simp only [V.ltl, V.alll, Bool.and_eq_true] at h
    simp only [V.renl]
    rw [ren_pure v h.1, renl_pure r h.2]

theorem reach_nodup (hp : List Blk) (args : List V) : (reach hp args).Nodup := List.Sublist.nodup List.filter_sublist List.nodup_range

theorem closed_sees {args : List V} (h : closedIn st.hp (reach st.hp args) args = true) : Sees st (reach st.hp args) ∧ V.alll (fun i => (reach st.hp args).contains i) args = true := by
  simp only [closedIn, Bool.and_eq_true, List.all_eq_true] at h
  refine ⟨⟨reach_nodup _ _, fun r hr => ?_⟩, h.1⟩
  have := h.2 r hr
  split at this
  · rename_i b hb
    simp only [Bool.and_eq_true] at this
    exact ⟨b, hb, this.2⟩
  · cases this

theorem sees_nil : Sees st [] := ⟨List.nodup_nil, fun r hr => by cases hr⟩

/-- A call of a function, the heap being what it reaches. -/
theorem call_sim (hcall : CallOk P orc) (hF : FOk F) (h : Sim B W I m st tmps) {f : FuncId} {R : List Nat} (hR : Sees st R) {args : List V} (hargs : V.alll (fun i => R.contains i) args = true) {v : V} {own : Bool} {hp : List Blk}
    (hev : orc.call f (V.renl (fun i => R.idxOf i) args) (subHp st.hp R) = some (v, own, hp))
    {vargs : Array Value} (hl : vargs.size = args.length) (hr : ∀ (j : Nat) (x : V), args[j]? = some x → Rel W I m x (vargs.getD j undef)) :
    CallsIn F n P f vargs W fun e W' => ∃ w I' m', e = .returned w ∧ Sim (Sim.base W I m st tmps R) W' I' m' (ret v own hp) #[w] := by
  obtain ⟨_, hc⟩ := hcall.call _ _ _ _ _ _ hev
  refine hc F n (Sim.base W I m st tmps R) I vargs hF rfl rfl (h.enter hR _ vargs (by simpa using hl) fun t x hx => ?_)
  obtain ⟨y, hy, rfl⟩ := renl_get hx
  exact (hr t y hy).sub (alll_get hargs hy)

/-- A call of yield. -/
theorem round_sim (hcall : CallOk P orc) (hF : FOk F) (h : Sim B W I m st tmps) {id : Nat} {R : List Nat} (hR : Sees st R) {args : List V} (hargs : V.alll (fun i => R.contains i) (.yld id :: args) = true) {b : Bool} {hp : List Blk}
    (hev : orc.round (R.idxOf id) (V.renl (fun i => R.idxOf i) args) (subHp st.hp R) = some (b, hp))
    {vargs : Array Value} {g : Nat} (hg : Rel W I m (.yld id) (.func (.yield g) #[] #[])) (hl : vargs.size = args.length) (hr : ∀ (j : Nat) (x : V), args[j]? = some x → Rel W I m x (vargs.getD j undef)) :
    ∃ r, W.heap[g]? = some (.loop r) ∧ vargs.size = r.params.size ∧
      RoundIn F n P g r.fn ((r.params.zip vargs).foldl (fun tmps (t, a) => tmps.setIfInBounds t a) r.tmps) r.assign r.body W fun e W' => ∃ I' m', e = .returned (.bool b) ∧ Sim (Sim.base W I m st tmps R) W' I' m' (ret (.bool b) false hp) #[.bool b] := by
  refine hcall.round _ _ _ _ _ hev F n (Sim.base W I m st tmps R) I vargs g hF rfl rfl (h.enter hR (V.renl (fun i => R.idxOf i) (.yld id :: args)) _ (by simp [hl, V.renl]; omega) fun t x hx => ?_)
  obtain ⟨y, hy, rfl⟩ := renl_get hx
  have hy' := alll_get hargs hy
  refine Rel.sub ?_ hy'
  cases t with
  | zero =>
    simp at hy; subst hy
    have e : (#[Value.func (.yield g) #[] #[]] ++ vargs).getD 0 undef = .func (.yield g) #[] #[] := by
      simp only [Array.getD_eq_getD_getElem?]
      rw [Array.getElem?_append_left (by simp)]
      rfl
    rw [e]; exact hg
  | succ t =>
    have := hr t y (by simpa using hy)
    have e : (#[Value.func (.yield g) #[] #[]] ++ vargs).getD (t + 1) undef = vargs.getD t undef := by
      simp only [Array.getD_eq_getD_getElem?]
      rw [Array.getElem?_append_right (by simp)]
      simp
    rw [e]; exact this

/-- A call that is handed no pointer. -/
theorem pureCall_sim (hcall : CallOk P orc) (hF : FOk F) (h : Sim B W I m st tmps) {f : FuncId} {args : List V} {v : V} {own : Bool} {hp : List Blk} (hev : orc.call f args [] = some (v, own, hp)) (hpure : V.ltl 0 args = true)
    {vargs : Array Value} (hl : vargs.size = args.length) (hr : ∀ (j : Nat) (x : V), args[j]? = some x → Rel W I m x (vargs.getD j undef)) :
    CallsIn F n P f vargs W fun e W' => ∃ w I' m', e = .returned w ∧ Sim (Sim.base W I m st tmps []) W' I' m' (ret v own hp) #[w] := by
  refine call_sim hcall hF h sees_nil (R := []) (args := args) ?_ ?_ hl hr
  · rw [alll_iff]
    intro x hx
    have := alll_iff.1 hpure x hx
    exact (show (fun i => Nat.blt i 0) = (fun i => ([] : List Nat).contains i) from funext fun i => by rw [List.contains_nil]; cases i <;> rfl) ▸ this
  · rw [renl_pure args hpure]; exact hev

/-- A call that is handed no pointer, and made no block. -/
theorem limCall_sim (h : Sim B W I m st tmps) {W' : World} {I' : Nat → Nat → Prop} {m' : List (Option Nat)} {v : V} {own : Bool} {w : Value} (hS : Sim (Sim.base W I m st tmps []) W' I' m' (ret v own []) #[w]) :
    Sim B W' I' m st tmps ∧ Rel W' I' m v w ∧ V.lt 0 v = true := by
  have hna : ∀ g, ¬ (Sim.base W I m st tmps []).A g := fun g hg => by
    rcases hg with hg | ⟨r, _, _, _, hr, _⟩
    · simp [subM] at hg
    · cases hr
  have hm' : m' = [] := List.eq_nil_of_length_eq_zero (by simpa [ret] using hS.mlen)
  subst hm'
  have hrel : Rel W' I' [] v w := by simpa using hS.fr 0 v rfl
  refine ⟨h.world hS.grow.os hS.grow.tape hS.grow.output hS.grow.size (fun g hg => hS.grow.same g hg (hna g)) hS.grow.sub (fun g o hi => ?_) hS.live, hrel.mono (fun _ _ h => h) (fun _ _ _ => rfl) List.nil_prefix, hrel.lt⟩
  rcases hS.grow.fresh g o hi with hi | hi | hi
  · exact .inl hi
  · exact .inr hi
  · exact (hna g hi).elim

theorem args_rel (h : Sim B W I m st a.tmps) (args : Array Operand) {cap : List V} {arr : Array Value} (hl : arr.size = cap.length) (hr : ∀ (j : Nat) (x : V), cap[j]? = some x → Rel W I m x (arr.getD j undef)) :
    (args.map a.eval ++ arr).size = (args.toList.map (ev st.fr) ++ cap).length ∧ ∀ (j : Nat) (x : V), (args.toList.map (ev st.fr) ++ cap)[j]? = some x → Rel W I m x ((args.map a.eval ++ arr).getD j undef) := by
  refine ⟨by simp [hl], fun j x hx => ?_⟩
  by_cases hj : j < args.size
  · rw [List.getElem?_append_left (by simpa using hj)] at hx
    simp only [List.getElem?_map, Option.map_eq_some_iff, Array.getElem?_toList] at hx
    obtain ⟨p, hp, rfl⟩ := hx
    rw [getD_arr (show (args.map a.eval ++ arr)[j]? = some (a.eval p) by rw [Array.getElem?_append_left (by simpa using hj)]; simp [hp])]
    exact rel_ev h p
  · rw [List.getElem?_append_right (by simpa using hj)] at hx
    have hlt := (List.getElem?_eq_some_iff.1 hx).1
    simp only [List.length_map, Array.length_toList] at hx hlt
    have e : (args.map a.eval ++ arr).getD j undef = arr.getD (j - args.size) undef := by
      simp only [Array.getD_eq_getD_getElem?]
      rw [Array.getElem?_append_right (by simpa using hj)]
      simp
    rw [e]
    exact hr _ x hx

theorem ret_less {v : V} {own own' : Bool} {hp : List Blk} {w : Value} (h : Sim B W I m (ret v own hp) #[w]) (ho : own' = true → own = true) : Sim B W I m (ret v own' hp) #[w] := by
  refine h.less _ _ (fun t ht => ?_) fun _ h => h
  cases own' with
  | false => simp at ht
  | true => rw [ho rfl]; exact ht

theorem isSl_inv {v : V} (h : isSl v = true) : ∃ d xs, v = .sl d xs := by
  cases v <;> simp [isSl] at h
  exact ⟨_, _, rfl⟩

theorem evOp_sim (hok : cfg.Ok P) (hF : FOk F) (hcall : CallOk P orc) {lim : Bool} (hev : evOp cfg orc lim o st = some st') (h : Sim B W I m st a.tmps) {next : Act → World → Prop} {Q : Exit → Act → World → Prop}
    (k : ∀ a' W', After B st' a.defers a' W' → next a' W') : o.wpIn F n P a W next Q := by
  obtain ⟨dst, op, ty, pos, after, guard⟩ := o
  have give : ∀ {w : Value} {W' : World} {I' : Nat → Nat → Prop} {m' : List (Option Nat)}, (∀ c, op ≠ .defer c) → (execOp a.eval { dst := dst, op := op, type := ty, pos := pos, after := after, guard := guard }).run P W = .ok (.value w) W' → Sim B W' I' m' st' (aput a.tmps dst w) →
      Oper.wpIn F n P { dst := dst, op := op, type := ty, pos := pos, after := after, guard := guard } a W next Q := fun hnd hrun hS => wp_of_gives hF hnd ⟨_, _, _, _, hrun, hS⟩ k
  -- an operation that gives a value and leaves the world alone
  have val : ∀ {s : Sem Value} {x : Option V}, (∀ c, op ≠ .defer c) → execOp a.eval { dst := dst, op := op, type := ty, pos := pos, after := after, guard := guard } = (do pure (.value (← s)) : Sem Next) → (x.map fun v => st.put dst v) = some st' →
      (∀ v, x = some v → ∃ w, s.run P W = .ok w W ∧ Rel W I m v w) → Oper.wpIn F n P { dst := dst, op := op, type := ty, pos := pos, after := after, guard := guard } a W next Q := fun hnd he hx hr => by
    obtain ⟨v, hv, rfl⟩ := map_put hx
    obtain ⟨w, hrun, hrel⟩ := hr v hv
    exact give hnd (by rw [he]; simp only [Sem.run_bind, hrun, Result.andThen_ok, Sem.run_pure]) (h.put dst hrel)
  have memv : ∀ {s : Sem Value} {x : Option V}, (∀ c, op ≠ .defer c) → execOp a.eval { dst := dst, op := op, type := ty, pos := pos, after := after, guard := guard } = (do pure (.value (← s)) : Sem Next) → (x.map fun v => st.put dst v) = some st' →
      (∀ v, x = some v → ∃ w W' I', s.run P W = .ok w W' ∧ Sim B W' I' m st a.tmps ∧ Rel W' I' m v w) → Oper.wpIn F n P { dst := dst, op := op, type := ty, pos := pos, after := after, guard := guard } a W next Q := fun hnd he hx hr => by
    obtain ⟨v, hv, rfl⟩ := map_put hx
    obtain ⟨w, W', I', hrun, hS, hrel⟩ := hr v hv
    exact give hnd (by rw [he]; simp only [Sem.run_bind, hrun, Result.andThen_ok, Sem.run_pure]) (hS.put dst hrel)
  cases op <;> simp only [evOp] at hev <;> try (cases hev; done)
  · -- move
    exact give (by simp) rfl (move_sim h hev)
  · -- assign
    exact give (by simp) rfl (assign_sim h hev)
  · -- pick
    rename_i c x y
    have hc := rel_ev h c
    split at hev
    · rename_i hcv
      cases hev
      rw [hcv] at hc
      exact give (by simp) (by simp [execOp, rel_bool_inv hc, asBool]) (h.put dst (rel_ev h x))
    · rename_i hcv
      cases hev
      rw [hcv] at hc
      exact give (by simp) (by simp [execOp, rel_bool_inv hc, asBool]) (h.put dst (rel_ev h y))
    · cases hev
  · -- alloc
    rename_i t
    split at hev
    · cases hev
    · split at hev
      · rename_i ti hti
        cases hev
        obtain ⟨w, W', I', m', hrun, hS⟩ := alloc_sim (o := { dst := dst, op := .alloc t, type := ty, pos := pos, after := after, guard := guard }) hok h hti
        exact give (by simp) (by simp only [execOp, Sem.run_bind, hrun, Result.andThen_ok, Sem.run_pure]) hS
      · cases hev
  · -- box
    rename_i t x
    split at hev
    · cases hev
    · split at hev
      · rename_i cs hcs
        cases hev
        obtain ⟨w, W', I', m', hrun, hS⟩ := box_sim (P := P) (t := t) (o := { dst := dst, op := .box t x, type := ty, pos := pos, after := after, guard := guard }) h hcs
        exact give (by simp) (by simp only [execOp, Sem.run_bind, hrun, Result.andThen_ok, Sem.run_pure]) hS
      · cases hev
  · -- build
    rename_i t parts
    split at hev
    · rename_i hk
      exact val (by simp) rfl hev fun v hv => run_buildV hok h hv hk
    · cases hev
  · -- buildSlice
    exact memv (by simp) rfl hev fun v hv => run_buildSliceV hok h hv
  · -- load
    obtain ⟨w, hrun, hS⟩ := load_sim hok h hev
    exact give (by simp) (by simp only [execOp, Sem.run_bind, hrun, Result.andThen_ok, Sem.run_pure]) hS
  · -- store
    split at hev
    · cases hev
    · rename_i hc
      simp only [Bool.or_eq_true, not_or, Bool.not_eq_true, Option.isSome_eq_false_iff, Option.isNone_iff_eq_none] at hc
      obtain ⟨_, rfl⟩ := hc
      obtain ⟨W', hrun, hS⟩ := store_sim hok h hev
      exact wp_skip hF (by simp) (by simp only [execOp, Sem.run_bind, hrun, Result.andThen_ok, Sem.run_pure]) (k _ _ ⟨rfl, I, m, hS⟩)
  · -- nilCheck
    rename_i x
    have hx := rel_ev h x
    split at hev <;> rename_i hxv <;> first
      | (cases hev; done)
      | (cases hev
         rw [hxv] at hx
         have hx' := hx
         generalize hvx : a.eval x = vx at hx hx'
         cases hx <;> exact give (by simp) (by simp [execOp, hvx]) (h.put dst hx'))
  · -- binOp
    rename_i op t x y t2
    exact val (by simp) rfl hev fun v hv => run_binOpV hok hv (rel_ev h x) (rel_ev h y)
  · -- unOp
    rename_i op t x
    exact val (by simp) rfl hev fun v hv => run_unOpV hv (rel_ev h x)
  · -- convert
    rename_i src d x
    split at hev
    · rename_i v hv
      cases hev
      split at hv
      · cases hv
      · obtain ⟨w, hrun, hrel⟩ := run_convPV hok h hv (rel_ev h x)
        exact give (by simp) (w := w) (by simp only [execOp, Sem.run_bind, hrun, Result.andThen_ok, Sem.run_pure]) (h.put dst hrel)
    · exact memv (by simp) rfl hev fun v hv => run_convV hok h hv (rel_ev h x)
  · -- makeFunc
    rename_i fn first cap
    cases fn <;> simp only at hev <;> try (cases hev; done)
    rename_i f
    split at hev
    · rename_i hfirst
      cases hev
      have hf : first = #[] := by simpa using hfirst
      subst hf
      refine give (by simp) (w := .func (.func f) #[] (cap.map a.eval)) (by simp [execOp, Instr.makeFunc]) (h.put dst (.fn (by simp) fun j x hx => ?_))
      simp only [List.getElem?_map, Option.map_eq_some_iff, Array.getElem?_toList] at hx
      obtain ⟨p, hp, rfl⟩ := hx
      rw [getD_arr (show (cap.map a.eval)[j]? = some (a.eval p) by simp [hp])]
      exact rel_ev h p
    · cases hev
  · -- slice
    obtain ⟨w, hrun, hS⟩ := slice_sim hok h hev
    exact give (by simp) (by simp only [execOp, Sem.run_bind, hrun, Result.andThen_ok, Sem.run_pure]) hS
  · -- fieldAddr
    rename_i t x i
    exact val (by simp) rfl hev fun v hv => run_fieldV hok hv (rel_ev h x)
  · -- field
    rename_i t x i
    exact val (by simp) rfl hev fun v hv => run_partV hok hv (rel_ev h x)
  · -- indexAddr
    rename_i t x i
    exact val (by simp) rfl hev fun v hv => run_indexAddrV hok hv (rel_ev h x) (rel_ev h i)
  · -- index
    rename_i t x i
    exact val (by simp) rfl hev fun v hv => run_indexV hok hv (rel_ev h x) (rel_ev h i)
  · -- extract
    rename_i x i
    have hx := rel_ev h x
    split at hev
    · rename_i vs hxv
      split at hev
      · rename_i v hv
        cases hev
        rw [hxv] at hx
        generalize hvx : a.eval x = vx at hx
        cases hx with
        | @tup _ _ arr hl hr =>
          have hlt : i < arr.size := by rw [hl]; exact (List.getElem?_eq_some_iff.1 hv).1
          exact give (by simp) (w := arr.getD i undef) (by simp only [execOp, hvx, Instr.extract]; rw [get_of_lt hlt]; rfl) (h.put dst (hr i v hv))
      · cases hev
    · cases hev
  · -- call
    rename_i c
    obtain ⟨callee, args, types⟩ := c
    cases callee with
    | invoke r nm => simp only at hev; cases hev
    | builtin b =>
      simp only at hev
      split at hev
      · cases hev
      · have hexec : ∀ ts' : List TypeId, types.toList = ts' → execOp a.eval { dst := dst, op := .call { callee := .builtin b, args := args, argTypes := types }, type := ty, pos := pos, after := after, guard := guard } =
            (do let d ← (pure { target := .builtin b types ty (args.map fun | .const _ => true | _ => false), args := args.map a.eval } : Sem Deferred); invoke d.target d.args) := fun _ _ => rfl
        unfold builtinOp at hev
        split at hev
        · rename_i s x t tx hargs htypes hb
          obtain ⟨w, W', I', hrun, hS⟩ := appendOp_sim (ty := ty) hok h hev
          have e1 : args.map a.eval = #[a.eval s, a.eval x] := by
            have : args = #[s, x] := by apply Array.ext'; simpa using hargs
            rw [this]; simp
          have e2 : types = #[t, tx] := by apply Array.ext'; simpa using htypes
          refine give (by simp) (w := w) ?_ hS
          rw [hexec _ rfl]
          simp only [Sem.run_bind, Sem.run_pure, Result.andThen_ok, invoke, builtin, e1, e2, hrun]
        · rename_i x t tys hargs htypes hb
          have e1 : args.map a.eval = #[a.eval x] := by
            have : args = #[x] := by apply Array.ext'; simpa using hargs
            rw [this]; simp
          have e2 : types[0]? = some t := by rw [← Array.getElem?_toList, htypes]; rfl
          obtain ⟨v, hv, rfl⟩ := map_put hev
          obtain ⟨w, hrun, hrel⟩ := run_lenV (ty := ty) hok hv (rel_ev h x) e2
          refine give (by simp) (w := w) ?_ (h.put dst hrel)
          rw [hexec _ rfl]
          simp only [Sem.run_bind, Sem.run_pure, Result.andThen_ok, invoke, builtin, e1, hrun]
        · rename_i tys
          obtain ⟨v, hv, rfl⟩ := map_put hev
          obtain ⟨w0, r, w, e, hrun, hrel⟩ := minmax_sim (P := P) (W := W) (I := I) (m := m) false _ (args.map a.eval).toList v hv (by simp) fun j x w hx hw => by
            simp only [List.getElem?_map, Option.map_eq_some_iff, Array.toList_map] at hx hw
            obtain ⟨p, hp, rfl⟩ := hx
            obtain ⟨q, hq, rfl⟩ := hw
            rw [hp] at hq; cases hq
            exact rel_ev h p
          refine give (by simp) (w := w) ?_ (h.put dst hrel)
          rw [hexec _ rfl]
          simp only [Sem.run_bind, Sem.run_pure, Result.andThen_ok, invoke, builtin, Builtin.min_, e]
          simp only [Bool.false_eq_true, if_false] at hrun
          rw [hrun]
          rfl
        · rename_i tys
          obtain ⟨v, hv, rfl⟩ := map_put hev
          obtain ⟨w0, r, w, e, hrun, hrel⟩ := minmax_sim (P := P) (W := W) (I := I) (m := m) true _ (args.map a.eval).toList v hv (by simp) fun j x w hx hw => by
            simp only [List.getElem?_map, Option.map_eq_some_iff, Array.toList_map] at hx hw
            obtain ⟨p, hp, rfl⟩ := hx
            obtain ⟨q, hq, rfl⟩ := hw
            rw [hp] at hq; cases hq
            exact rel_ev h p
          refine give (by simp) (w := w) ?_ (h.put dst hrel)
          rw [hexec _ rfl]
          simp only [Sem.run_bind, Sem.run_pure, Result.andThen_ok, invoke, builtin, Builtin.max_, e]
          simp only [if_true] at hrun
          rw [hrun]
          rfl
        · rename_i x hargs hb
          have e1 : args.map a.eval = #[a.eval x] := by
            have : args = #[x] := by apply Array.ext'; simpa using hargs
            rw [this]; simp
          obtain ⟨w, hrun, hS⟩ := dataOp_sim (P := P) (ts := types) (ty := ty) h hev
          refine give (by simp) (w := w) ?_ hS
          rw [hexec _ rfl]
          simp only [Sem.run_bind, Sem.run_pure, Result.andThen_ok, invoke, builtin, e1, hrun]
        · rename_i p q t it hargs htypes hb
          obtain ⟨w, W', hrun, hS⟩ := textOp_sim (it := it) (ty := ty) hok h hev
          have e1 : args.map a.eval = #[a.eval p, a.eval q] := by
            have : args = #[p, q] := by apply Array.ext'; simpa using hargs
            rw [this]; simp
          have e2 : types = #[t, it] := by apply Array.ext'; simpa using htypes
          refine give (by simp) (w := w) ?_ hS
          rw [hexec _ rfl]
          simp only [Sem.run_bind, Sem.run_pure, Result.andThen_ok, invoke, builtin, e1, e2, hrun]
        · cases hev
    | value f =>
      simp only at hev
      split at hev
      · rename_i g cap hfv
        have hfr := rel_ev h f
        rw [hfv] at hfr
        obtain ⟨arr, hfe, hl, hr⟩ : ∃ arr, a.eval f = .func (.func g) #[] arr ∧ arr.size = cap.length ∧ ∀ (j : Nat) (x : V), cap[j]? = some x → Rel W I m x (arr.getD j undef) := by
          generalize a.eval f = vf at hfr
          cases hfr with
          | fn hl hr => exact ⟨_, rfl, hl, hr⟩
        obtain ⟨hal, har⟩ := args_rel h args hl hr
        have enter : ∀ {fn : Func}, P.funcs[g]? = some fn → (fn.name == "runtime.NumGoroutine") = false → fn.body.isNone = false →
            (execOp a.eval { dst := dst, op := .call { callee := .value f, args := args, argTypes := types }, type := ty, pos := pos, after := after, guard := guard }).run P W = .ok (.enter g (args.map a.eval ++ arr)) W := fun hfn hname hbody => by
          simp only [execOp, resolve, hfe, Deferred.ofValue, Sem.run_bind, Sem.run_pure, Result.andThen_ok, invoke, callFunc, run_program, hfn, hname, hbody]
          simp
        have wpcall : ∀ {R : Ending → World → Prop}, (∃ fn, P.funcs[g]? = some fn ∧ (fn.name == "runtime.NumGoroutine") = false ∧ fn.body.isNone = false) → CallsIn F (n - 1) P g (args.map a.eval ++ arr) W R →
            (∀ e W', R e W' → ∃ w, e = .returned w ∧ next (a.put dst w) W') → Oper.wpIn F n P { dst := dst, op := .call { callee := .value f, args := args, argTypes := types }, type := ty, pos := pos, after := after, guard := guard } a W next Q := fun ⟨fn, h1, h2, h3⟩ hc hR => by
          refine ⟨fun f _ => hF.fn f, ?_⟩
          rw [Oper.semAt_eq _ _ _ (by simp), enter h1 h2 h3, Oper.uponIn_enter]
          refine ⟨fun hd => (by rw [hF.depth] at hd; cases hd), hc.mono ?_⟩
          intro e W' hR'
          obtain ⟨w, rfl, hn⟩ := hR e W' hR'
          exact hn
        have back : ∀ {R : List Nat} {v : V} {own : Bool} {hp : List Blk} {w : Value} {W' : World} {I' : Nat → Nat → Prop} {m' : List (Option Nat)} , Sees st R → Sim (Sim.base W I m st a.tmps R) W' I' m' (ret v own hp) #[w] →
            ({ st with hp := backHp st.hp R hp, al := [] }.putOwn dst (v.ren (backId R st.hp.length)) (own && isSl v)) = st' → next (a.put dst w) W' := fun {R v own hp w W' I' m'} hR hS hn => by
          cases hn
          have := h.back hR (ret_less (own' := own && isSl v) hS fun h => (Bool.and_eq_true_iff.1 h).1) dst fun h => isSl_inv (Bool.and_eq_true_iff.1 h).2
          refine k _ _ ⟨put_defers _ _ _, I', backM m R m', ?_⟩
          rw [put_tmps]
          exact this
        split at hev
        · split at hev
          · rename_i hpure
            split at hev
            · rename_i v own hcl
              cases hev
              refine wpcall (hcall.call _ _ _ _ _ _ hcl).1 (pureCall_sim hcall hF h hcl hpure hal har) ?_
              rintro e W' ⟨w, I', m', rfl, hS⟩
              obtain ⟨h1, h2, _⟩ := limCall_sim h hS
              exact ⟨w, rfl, k _ _ ⟨put_defers _ _ _, I', m, by rw [put_tmps]; exact h1.put dst h2⟩⟩
            · cases hev
          · cases hev
        · split at hev
          · -- the pointer as it is
            rename_i hx
            split at hev
            · rename_i v hargs
              cases hev
              obtain ⟨fn, hfn, hname, hbody, hnx, e, he, rfl⟩ := hok.ext _ hx
              have hsz : (args.map a.eval ++ arr).size = 1 := by rw [hal, hargs]; rfl
              obtain ⟨w, hw⟩ : ∃ w, args.map a.eval ++ arr = #[w] := ⟨(args.map a.eval ++ arr)[0], by apply Array.ext (by simp [hsz]); intro i h1 h2; have : i = 0 := by omega
                                                                                                      subst this; rfl⟩
              have hrel : Rel W I m v w := by
                have := har 0 v (by rw [hargs]; rfl)
                rw [hw] at this
                exact this
              refine give (by simp) (w := w) (W' := W) ?_ (h.put dst hrel)
              have hnn : (fn.name == "runtime.NumGoroutine") = false := by rw [hname]; decide
              simp only [execOp, resolve, hfe, Deferred.ofValue, Sem.run_bind, Sem.run_pure, Result.andThen_ok, invoke, callFunc, run_program, hfn, hnn, hbody, hw]
              simp only [hnx, he, mark, Bool.false_eq_true, if_false, if_true]
              rw [Array.empty_append, hw]
              rfl
            · cases hev
          split at hev
          · rename_i hpure
            split at hev
            · rename_i v own hcl
              refine wpcall (hcall.call _ _ _ _ _ _ hcl).1 (pureCall_sim hcall hF h hcl hpure hal har) ?_
              rintro e W' ⟨w, I', m', rfl, hS⟩
              refine ⟨w, rfl, back sees_nil hS ?_⟩
              rw [ren_pure v (limCall_sim h hS).2.2]
              have e0 : backHp st.hp [] [] = st.hp := by simp [backHp, putBack]
              rw [e0]
              exact Option.some.inj hev
            · rename_i v own hp hcl
              refine wpcall (hcall.call _ _ _ _ _ _ hcl).1 (pureCall_sim hcall hF h hcl hpure hal har) ?_
              rintro e W' ⟨w, I', m', rfl, hS⟩
              exact ⟨w, rfl, back sees_nil hS (Option.some.inj hev)⟩
            · cases hev
          · skip
            split at hev
            · rename_i hclosed
              obtain ⟨hR, hargs⟩ := closed_sees hclosed
              split at hev
              · rename_i v own hp hcl
                refine wpcall (hcall.call _ _ _ _ _ _ hcl).1 (call_sim hcall hF h hR hargs hcl hal har) ?_
                rintro e W' ⟨w, I', m', rfl, hS⟩
                exact ⟨w, rfl, back hR hS (Option.some.inj hev)⟩
              · cases hev
            · cases hev
      · rename_i id hfv
        split at hev
        · cases hev
        · have hfr := rel_ev h f
          rw [hfv] at hfr
          obtain ⟨g, hfe, hg⟩ : ∃ g, a.eval f = .func (.yield g) #[] #[] ∧ m[id]? = some (some g) := by
            generalize a.eval f = vf at hfr
            cases hfr with
            | yld hg => exact ⟨_, rfl, hg⟩
          split at hev
          · rename_i hclosed
            obtain ⟨hR, hargs⟩ := closed_sees hclosed
            split at hev
            · rename_i b hp hcl
              cases hev
              obtain ⟨r, hr1, hr2, hr3⟩ := round_sim (F := F) (n := n - 1) hcall hF h hR hargs hcl (vargs := args.map a.eval) (g := g) (.yld hg) (by simp) fun j x hx => by
                simp only [List.getElem?_map, Option.map_eq_some_iff] at hx
                obtain ⟨p, hp, rfl⟩ := hx
                rw [getD_arr (show (args.map a.eval)[j]? = some (a.eval p) by rw [Array.getElem?_map, ← Array.getElem?_toList, hp]; rfl)]
                exact rel_ev h p
              refine ⟨fun f _ => hF.fn f, ?_⟩
              have hexec : (execOp a.eval { dst := dst, op := .call { callee := .value f, args := args, argTypes := types }, type := ty, pos := pos, after := after, guard := guard }).run P W = .ok (.round g r.fn ((r.params.zip (args.map a.eval)).foldl (fun tmps (t, a) => tmps.setIfInBounds t a) r.tmps) r.assign r.body) W := by
                simp only [execOp, resolve, hfe, Deferred.ofValue, Sem.run_bind, Sem.run_pure, Result.andThen_ok, invoke, callFunc, Array.empty_append, Array.append_empty]
                exact run_yield hr1 hr2
              rw [Oper.semAt_eq _ _ _ (by simp), hexec, Oper.uponIn_round]
              refine ⟨fun hd => (by rw [hF.depth] at hd; cases hd), hr3.mono ?_⟩
              rintro e W' ⟨I', m', rfl, hS⟩
              have hb := h.back hR hS dst fun h => by cases h
              have e2 : ∀ (s : St) (v : V), s.putOwn dst v false = s.put dst v := fun s v => by cases dst <;> rfl
              rw [e2] at hb
              exact k _ _ ⟨put_defers _ _ _, I', backM m (reach st.hp (.yld id :: args.toList.map (ev st.fr))) m', by rw [put_tmps]; exact hb⟩
            · cases hev
          · cases hev
      · cases hev

end Go.Abs
