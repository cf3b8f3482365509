/- Calls: what the interpreter says of them is what the model does; then all of it, by induction on the fuel. -/
import Derived.Test.YtpjolollnhfciaaAbsCode
set_option linter.all false
namespace Go.Abs
open Go.Lib
variable [BT] {F : Fence} {n : Nat} {P : Program} {cfg : Cfg} {B : Base} {W : World} {I : Nat → Nat → Prop} {m : List (Option Nat)} {st st' : St} {a : Act} {o : Oper} {tmps : Array Value} {orc : Orc}

/-! ### Results -/
def resSem (tmps : Array Value) : ResultVar → Sem Value
  | .tmp t => pure (tmps.getD t undef)
  | .cell p t => do loadVar t (← asAddr (tmps.getD p undef))

theorem results_eq (fn : Func) (tmps : Array Value) : results fn tmps = (do let vs ← fn.results.mapM (resSem tmps); pure (if h : vs.size = 1 then vs[0] else .tuple vs)) := by
  unfold results
  congr 2

theorem res_one (hok : cfg.Ok P) (h : Sim B W I m st a.tmps) {r : ResultVar} {v : V} (hv : resOf cfg st r = some v) :
    ∃ w, (resSem a.tmps r).run P W = .ok w W ∧ Rel W I m v w ∧ (resOwn st r = true → isSl v = true → ∃ t, t ∈ st.own ∧ st.fr[t]? = some v ∧ a.tmps.getD t undef = w) := by
  cases r with
  | tmp t =>
    simp only [resOf, Option.some.injEq] at hv
    subst hv
    refine ⟨_, rfl, ?_, fun ho hs => ?_⟩
    · exact rel_ev h (.tmp t)
    · simp only [resOwn, List.contains_iff_mem] at ho
      obtain ⟨d, xs, e⟩ := isSl_inv hs
      exact ⟨t, ho, by rw [e]; exact fr_get (by simp) e, rfl⟩
  | cell p t =>
    simp only [resOf] at hv
    obtain ⟨w, hrun, hrel⟩ := run_loadV hok h hv (rel_ev h (.tmp p))
    refine ⟨w, ?_, hrel, fun ho => by simp [resOwn] at ho⟩
    have hp := rel_ev h (.tmp p)
    simp only [Act.eval] at hrun hp
    simp only [ev] at hp
    simp only [resSem]
    generalize a.tmps.getD p undef = vp at hrun hp ⊢
    have : ∃ ad, vp = .pointer (some ad) := by
      unfold loadV at hv
      split at hv
      · cases hv
      · split at hv
        · rename_i hq; rw [hq] at hp; cases hp; exact ⟨_, rfl⟩
        · rename_i hq; rw [hq] at hp; cases hp; exact ⟨_, rfl⟩
        · cases hv
    obtain ⟨ad, rfl⟩ := this
    simpa [asAddr, Instr.loadAt, Instr.sureAddr] using hrun

theorem mapM_res (hok : cfg.Ok P) (h : Sim B W I m st a.tmps) : ∀ (rs : List ResultVar) (vs : List V), rs.mapM (resOf cfg st) = some vs →
    ∃ ws : List Value, (rs.mapM (resSem a.tmps)).run P W = .ok ws W ∧ ws.length = vs.length ∧ vs.length = rs.length ∧ ∀ (j : Nat) (x : V) (w : Value), vs[j]? = some x → ws[j]? = some w → Rel W I m x w
  | [], vs, hv => by
    simp at hv
    subst hv
    exact ⟨[], rfl, rfl, rfl, by simp⟩
  | r :: rs, vs, hv => by
    rw [List.mapM_cons] at hv
    simp only [Option.bind_eq_bind, Option.bind_eq_some_iff, Option.pure_def, Option.some.injEq] at hv
    obtain ⟨v, h1, vs', h2, rfl⟩ := hv
    obtain ⟨w, hrun, hrel, _⟩ := res_one hok h h1
    obtain ⟨ws, hruns, hl, hl2, hrels⟩ := mapM_res hok h rs vs' h2
    refine ⟨w :: ws, ?_, by simp [hl], by simp [hl2], fun j x w' hx hw => ?_⟩
    · rw [List.mapM_cons]
      simp only [Sem.run_bind, hrun, Result.andThen_ok, hruns, Sem.run_pure]
    · cases j with
      | zero => simp at hx hw; subst hx; subst hw; exact hrel
      | succ j => exact hrels j x w' (by simpa using hx) (by simpa using hw)

theorem results_sim (hok : cfg.Ok P) (h : Sim B W I m st a.tmps) {fn : Func} {v : V} {own : Bool} (hv : resultsV cfg st fn.results.toList = some (v, own)) :
    ∃ w, (results fn a.tmps).run P W = .ok w W ∧ Rel W I m v w ∧ (own = true → isSl v = true → ∃ t, t ∈ st.own ∧ st.fr[t]? = some v ∧ a.tmps.getD t undef = w) := by
  unfold resultsV at hv
  rw [results_eq, Array.mapM_eq_mapM_toList]
  split at hv
  · rename_i r hr
    obtain ⟨v', h1, h2⟩ := Option.map_eq_some_iff.1 hv
    simp only [Prod.mk.injEq] at h2
    obtain ⟨rfl, rfl⟩ := h2
    obtain ⟨w, hrun, hrel, ho⟩ := res_one hok h h1
    refine ⟨w, ?_, hrel, ho⟩
    have hm : (fn.results.toList.mapM (resSem a.tmps)).run P W = .ok [w] W := by
      rw [hr, List.mapM_cons]
      simp only [Sem.run_bind, hrun, Result.andThen_ok, List.mapM_nil, Sem.run_pure]
    simp only [Sem.run_bind, Sem.run_map, hm, Result.andThen]
    simp
  · rename_i hne
    obtain ⟨vs, h1, h2⟩ := Option.map_eq_some_iff.1 hv
    simp only [Prod.mk.injEq] at h2
    obtain ⟨rfl, rfl⟩ := h2
    obtain ⟨ws, hruns, hl, hl2, hrels⟩ := mapM_res hok h _ vs h1
    refine ⟨.tuple ws.toArray, ?_, .tup (by simp [hl]) fun j x hx => ?_, fun h => by cases h⟩
    · have hn1 : ws.toArray.size ≠ 1 := by
        simp only [List.size_toArray]
        intro h1'
        rw [hl, hl2] at h1'
        obtain ⟨r, hr⟩ := List.length_eq_one_iff.1 h1'
        exact hne r hr
      simp only [Sem.run_bind, Sem.run_map, hruns, Result.andThen]
      rw [dif_neg hn1]
      rfl
    · have hlt : j < ws.length := by rw [hl]; exact (List.getElem?_eq_some_iff.1 hx).1
      have hw := List.getElem?_eq_getElem hlt
      rw [getD_arr (show ws.toArray[j]? = some ws[j] by simpa using hw)]
      exact hrels j x _ hx hw

/-! ### The call -/
theorem frame_rel {args : List V} {vargs : Array Value} {n : Nat} {m : List (Option Nat)} (hl : vargs.size = args.length) (hr : ∀ (j : Nat) (x : V), args[j]? = some x → Rel W I m x (vargs.getD j undef)) :
    (vargs ++ Array.replicate (n - vargs.size) undef).size = (args ++ List.replicate (n - args.length) V.any).length ∧
    ∀ (t : Nat) (x : V), (args ++ List.replicate (n - args.length) V.any)[t]? = some x → Rel W I m x ((vargs ++ Array.replicate (n - vargs.size) undef).getD t undef) := by
  refine ⟨by simp [hl], fun t x hx => ?_⟩
  by_cases ht : t < args.length
  · rw [List.getElem?_append_left ht] at hx
    have e : (vargs ++ Array.replicate (n - vargs.size) undef).getD t undef = vargs.getD t undef := by
      simp only [Array.getD_eq_getD_getElem?]
      rw [Array.getElem?_append_left (by omega)]
    rw [e]; exact hr t x hx
  · rw [List.getElem?_append_right (by omega)] at hx
    have := List.mem_of_getElem? hx
    rw [List.eq_of_mem_replicate this]
    exact .any

/-- Another frame, the heap as it is. -/
theorem Sim.frame0 {fr : List V} {hp : List Blk} {nb : Nat} (h : Sim B W I m { fr := fr, own := [], hp := hp, al := [], nb := nb } tmps) {fr' : List V} {tmps' : Array Value} (hl : tmps'.size = fr'.length)
    (hr : ∀ (t : Nat) (x : V), fr'[t]? = some x → Rel W I m x (tmps'.getD t undef)) : Sim B W I m { fr := fr', own := [], hp := hp, al := [], nb := nb } tmps' := by
  have hh : ∀ {l xs v}, Held W m { fr := fr', own := [], hp := hp, al := [], nb := nb } tmps' l xs v → Held W m { fr := fr, own := [], hp := hp, al := [], nb := nb } tmps l xs v := fun hh => by
    cases hh with
    | tmp h1 h2 => cases h1
    | cell h1 h2 h3 h4 h5 => exact .cell h1 h2 h3 h4 h5
  exact ⟨h.grow, h.pre, h.live, hl, hr, h.mlen, h.inj, h.blk, h.mA, h.notI, fun l xs v k => h.own l xs v (hh k), fun l xs v g k => h.ownA l xs v g (hh k),
    fun l l' xs xs' v v' g k k' => h.ownInj l l' xs xs' v v' g (hh k) (hh k'), fun t o k => (by cases k), h.nb⟩

theorem fold_zip_right {α β γ δ : Type} (l : List α) : ∀ (x : List β) (y : List γ), x.length = y.length → ∀ (z : δ) {f : δ → α × γ → δ}, (l.zip (x.zip y)).foldl (fun d p => f d (p.1, p.2.2)) z = (l.zip y).foldl f z := by
  induction l with
  | nil => intros; rfl
  | cons a l ih =>
    intro x y h z f
    cases x with
    | nil => cases y with
      | nil => rfl
      | cons => simp at h
    | cons b x => cases y with
      | nil => simp at h
      | cons c y => simp only [List.zip_cons_cons, List.foldl_cons]; exact ih x y (by simpa using h) _

theorem fold_zip_left {α β γ δ : Type} (l : List α) : ∀ (x : List β) (y : List γ), x.length = y.length → ∀ (z : δ) {f : δ → α × β → δ}, (l.zip (x.zip y)).foldl (fun d p => f d (p.1, p.2.1)) z = (l.zip x).foldl f z := by
  induction l with
  | nil => intros; rfl
  | cons a l ih =>
    intro x y h z f
    cases x with
    | nil => cases y with
      | nil => rfl
      | cons => simp at h
    | cons b x => cases y with
      | nil => simp at h
      | cons c y => simp only [List.zip_cons_cons, List.foldl_cons]; exact ih x y (by simpa using h) _

theorem call_step (hok : cfg.Ok P) (hcode : CodeOk cfg P orc) {f : FuncId} {args : List V} {hp : List Blk} {v : V} {own : Bool} {hp' : List Blk} (hev : (step cfg orc).call f args hp = some (v, own, hp')) :
    (∃ fn, P.funcs[f]? = some fn ∧ (fn.name == "runtime.NumGoroutine") = false ∧ fn.body.isNone = false) ∧
    ∀ (F : Fence) (n : Nat) (B : Base) (I : Nat → Nat → Prop) (vargs : Array Value), FOk F → B.n0 = B.m.length → B.D = [] → Sim B B.W I B.m { fr := args, own := [], hp := hp, al := [], nb := hp.length } vargs →
        CallsIn F n P f vargs B.W fun e W' => ∃ w I' m', e = .returned w ∧ Sim B W' I' m' (ret v own hp') #[w] := by
  simp only [step] at hev
  split at hev
  · cases hev
  · rename_i fn hfn
    obtain ⟨hf, hname⟩ := hok.fn f fn hfn
    split at hev
    · cases hev
    · rename_i c hb
      refine ⟨⟨fn, hf, hname, by rw [hb]; rfl⟩, fun F n B I vargs hF hB hD h => ?_⟩
      have hl : vargs.size = args.length := h.len
      have hml : B.m.length = hp.length := h.mlen
      obtain ⟨hl2, hr2⟩ := frame_rel (n := fn.ntmps) hl h.fr
      have hS := h.frame0 hl2 hr2
      split at hev
      · cases hev
      · cases hev
      · rename_i e st2 hnx hc
        have hwp := (hcode _ _ _ _ _ _ hc (hok.regs f fn c hfn hb) { F with round := none } n B B.W I B.m { tmps := vargs ++ Array.replicate (fn.ntmps - vargs.size) undef, defers := [] } ⟨hF.fn, hF.depth⟩ hB rfl hS).1
        refine callsIn_of_wp_marks (F := { F with round := none }) hf hb (hF.fn f) (postC_mono hwp fun e' a' W' he ha => ?_)
        obtain ⟨D, hd, I', m2, hS2⟩ := ha
        rw [hD, List.append_nil] at hS2
        have key : LeavesInM { F with round := none } n P fn a'.tmps (fun e W' => ∃ w I' m', e = .returned w ∧ Sim B W' I' m' (ret v own hp') #[w]) a'.defers .returning W' := by
          rw [hd, List.append_nil]
          refine leaves_marks (F := { F with round := none }) ⟨hF.fn, hF.depth⟩ D hS2 fun W2 hS3 => ?_
          have eB : ({ B with D := [] } : Base) = B := by
            cases B
            simp only at hD
            subst hD
            rfl
          rw [eB] at hS3
          split at hev
          · cases hev
          · rename_i v1 own1 hres
            obtain ⟨w, hrun, hrel, ho⟩ := results_sim hok hS3 hres
            have hret := hS3.toRet hB (v := v1) (w := w) (own1 && isSl v1) hrel fun h => ho (Bool.and_eq_true_iff.1 h).1 (Bool.and_eq_true_iff.1 h).2
            refine ⟨w, hrun, w, I', ?_⟩
            split at hev
            · rename_i hlt
              simp only [Bool.and_eq_true] at hlt
              cases hev
              rw [← hml] at hlt ⊢
              exact ⟨B.m, rfl, hret.trunc hB hlt.1 hlt.2⟩
            · cases hev
              exact ⟨m2, rfl, hret⟩
        cases e with
        | exit i => exact absurd rfl (hnx i)
        | normal => cases e' <;> first | exact he.elim | exact key
        | ret => cases e' <;> first | exact he.elim | exact key

/-- A round's frame. -/
theorem round_frame : ∀ (l : List (Nat × V × Value)) (fr : List V) (tmps : Array Value), tmps.size = fr.length → (∀ (t : Nat) (x : V), fr[t]? = some x → Rel W I m x (tmps.getD t undef)) → (∀ p ∈ l, Rel W I m p.2.1 p.2.2) →
    ((l.foldl (fun (tm : Array Value) p => tm.setIfInBounds p.1 p.2.2) tmps).size = (l.foldl (fun (f : List V) p => f.set p.1 p.2.1) fr).length ∧
    ∀ (t : Nat) (x : V), (l.foldl (fun (f : List V) p => f.set p.1 p.2.1) fr)[t]? = some x → Rel W I m x ((l.foldl (fun (tm : Array Value) p => tm.setIfInBounds p.1 p.2.2) tmps).getD t undef))
  | [], fr, tmps, hl, hr, _ => ⟨hl, hr⟩
  | p :: l, fr, tmps, hl, hr, hp => by
    refine round_frame l _ _ (by simp [hl]) (fun t x hx => ?_) fun q hq => hp q (List.mem_cons_of_mem _ hq)
    rw [List.getElem?_set] at hx
    by_cases e : p.1 = t
    · rw [if_pos e] at hx
      split at hx
      · rename_i hlt
        cases hx
        rw [getD_set (by rw [hl]; exact hlt), if_pos e.symm]
        exact hp p (by simp)
      · cases hx
    · rw [if_neg e] at hx
      have : (tmps.setIfInBounds p.1 p.2.2).getD t undef = tmps.getD t undef := by
        simp only [Array.getD_eq_getD_getElem?, Array.getElem?_setIfInBounds]; rw [if_neg e]
      rw [this]; exact hr t x hx

theorem round_step (hok : cfg.Ok P) (hcode : CodeOk cfg P orc) {id : Nat} {args : List V} {hp : List Blk} {b : Bool} {hp' : List Blk} (hev : (step cfg orc).round id args hp = some (b, hp')) :
    ∀ (F : Fence) (n : Nat) (B : Base) (I : Nat → Nat → Prop) (vargs : Array Value) (g : Nat), FOk F → B.n0 = B.m.length → B.D = [] → Sim B B.W I B.m { fr := .yld id :: args, own := [], hp := hp, al := [], nb := hp.length } (#[.func (.yield g) #[] #[]] ++ vargs) →
      ∃ r, B.W.heap[g]? = some (.loop r) ∧ vargs.size = r.params.size ∧
        RoundIn F n P g r.fn ((r.params.zip vargs).foldl (fun tmps (t, a) => tmps.setIfInBounds t a) r.tmps) r.assign r.body B.W fun e W' => ∃ I' m', e = .returned (.bool b) ∧ Sim B W' I' m' (ret (.bool b) false hp') #[.bool b] := by
  intro F n B I vargs g hF hB hD h
  simp only [step] at hev
  split at hev
  · rename_i s pe0 fn fr ps assign body hl
    split at hev
    · rename_i hcond
      simp only [Bool.and_eq_true] at hcond
      obtain ⟨hrdy, hlen⟩ := hcond
      have hlen := Nat.eq_of_beq_eq_true hlen
      have hvl : vargs.size = args.length := by
        have := h.len
        simp at this
        omega
      have hg : B.m[id]? = some (some g) := by
        have := h.fr 0 (.yld id) rfl
        have e0 : (#[Value.func (.yield g) #[] #[]] ++ vargs).getD 0 undef = .func (.yield g) #[] #[] := by
          simp only [Array.getD_eq_getD_getElem?]
          rw [Array.getElem?_append_left (by simp)]
          rfl
        rw [e0] at this
        cases this with
        | yld h => exact h
      have hargs : ∀ (j : Nat) (x : V), args[j]? = some x → Rel B.W I B.m x (vargs.getD j undef) := fun j x hx => by
        have := h.fr (j + 1) x (by simpa using hx)
        have e0 : (#[Value.func (.yield g) #[] #[]] ++ vargs).getD (j + 1) undef = vargs.getD j undef := by
          simp only [Array.getD_eq_getD_getElem?]
          rw [Array.getElem?_append_right (by simp)]
          simp
        rwa [e0] at this
      obtain ⟨x, hx, hbx⟩ := h.blk _ _ hl
      have hx' := hg.symm.trans hx
      cases hx'
      cases hbx with
      | @loop _ _ _ _ _ _ _ _ r hr hst hpe hps has hbo hs hrr hgood =>
        subst has; subst hbo; subst hps
        have hready : ∀ {s : LoopState}, isReady s = true → s = .ready := fun {s} h => by cases s <;> simp [isReady] at h ⊢
        refine ⟨r, hr, by rw [hvl, hlen]; simp, ?_⟩
        -- the frame
        have hf := round_frame (W := B.W) (I := I) (m := B.m) ((r.params.toList.zip (args.zip vargs.toList)).map fun p => (p.1, p.2.1, p.2.2)) fr r.tmps hs hrr fun p hp => by
          simp only [List.mem_map] at hp
          obtain ⟨q, hq, rfl⟩ := hp
          have hq2 := (List.of_mem_zip hq).2
          obtain ⟨j, hj⟩ := List.mem_iff_getElem?.1 hq2
          rw [List.getElem?_zip_eq_some] at hj
          have := hargs j q.2.1 hj.1
          rw [getD_arr (show vargs[j]? = some q.2.2 by rw [← Array.getElem?_toList]; exact hj.2)] at this
          exact this
        have e1 : ((r.params.toList.zip (args.zip vargs.toList)).map fun p => (p.1, p.2.1, p.2.2)).foldl (fun (tm : Array Value) p => tm.setIfInBounds p.1 p.2.2) r.tmps = (r.params.zip vargs).foldl (fun tmps (t, a) => tmps.setIfInBounds t a) r.tmps := by
          rw [← Array.foldl_toList, Array.toList_zip, List.foldl_map]
          exact fold_zip_right (f := fun (tm : Array Value) (p : Tmp × Value) => tm.setIfInBounds p.1 p.2) r.params.toList args vargs.toList (by rw [← hvl, Array.length_toList]) r.tmps
        have e2 : ((r.params.toList.zip (args.zip vargs.toList)).map fun p => (p.1, p.2.1, p.2.2)).foldl (fun (f : List V) p => f.set p.1 p.2.1) fr = (r.params.toList.zip args).foldl (fun f p => f.set p.1 p.2) fr := by
          rw [List.foldl_map]
          exact fold_zip_left (f := fun (f : List V) (p : Tmp × V) => f.set p.1 p.2) r.params.toList args vargs.toList (by rw [← hvl, Array.length_toList]) fr
        rw [e1, e2] at hf
        have hS := h.frame0 hf.1 hf.2
        split at hev
        · rename_i st1 hasn
          split at hev
          · rename_i s1 pe1 fn1 fr1 ps1 as1 bo1 hl1
            split at hev
            · rename_i hrdy1
              split at hev
              · rename_i ex st2 hbody
                split at hev
                · rename_i s2 pe2 fn2 fr2 ps2 as2 bo2 hl2
                  have hRI : ∀ D : List Nat, RoundIs (F.inRound g) { B with D := D } (some id) := fun D => ⟨g, rfl, hg⟩
                  have hwa := (hcode _ _ _ _ _ _ hasn ((hok.bt3 _ _).1 hgood.1) (F.inRound g) n B B.W I B.m { tmps := (r.params.zip vargs).foldl (fun tmps (t, a) => tmps.setIfInBounds t a) r.tmps, defers := [] } ⟨hF.fn, hF.depth⟩ hB (hRI B.D) hS).1
                  refine roundIn_of_wpIn (hF.fn _) (postC_mono hwa fun e' a' W' he ha => ?_)
                  cases e' <;> try exact he.elim
                  obtain ⟨D, hd, I1, m1, hS1⟩ := ha
                  have hm1 : m1[id]? = some (some g) := pre_get hS1.pre hg
                  obtain ⟨x1, hx1, hb1⟩ := hS1.blk _ _ hl1
                  have hx1' := hm1.symm.trans hx1
                  cases hx1'
                  cases hb1 with
                  | @loop _ _ _ _ _ _ _ _ r1 hr1 hst1 hpe1 hps1 has1 hbo1 hs1 hrr1 hg1 =>
                    refine ⟨_, run_beginRound hr1 (by rw [hst1]; exact hready hrdy1), ?_⟩
                    have hS2 := hS1.setObj hl1 hm1 (.loop .busy pe1 fn1 fr1 ps1 as1 bo1) (.loop { r1 with state := .busy }) (by simp)
                      fun hk => .loop (World.putObj_heap_same (lt_of_heap hr1)) rfl hpe1 hps1 has1 hbo1 hs1 (fun j x hx => (hrr1 j x hx).mono (fun _ _ h => h) hk (List.prefix_refl _)) hg1
                    have hwb := (hcode _ _ _ _ _ _ hbody ((hok.bt3 _ _).1 hgood.2) (F.inRound g) n { B with D := D ++ B.D } _ I1 m1 a' ⟨hF.fn, hF.depth⟩ hB (hRI _) hS2).1
                    refine postC_mono hwb fun e2 a2 W2 he2 ha2 => ?_
                    obtain ⟨D2, hd2, I2, m2, hS3⟩ := ha2
                    have hm2 : m2[id]? = some (some g) := pre_get hS3.pre hg
                    obtain ⟨x2, hx2, hb2⟩ := hS3.blk _ _ hl2
                    have hx2' := hm2.symm.trans hx2
                    cases hx2'
                    cases hb2 with
                    | @loop _ _ _ _ _ _ _ _ r2 hr2 hst2 hpe2 hps2 has2 hbo2 hs2 hrr2 hg2 =>
                      obtain ⟨ns, hns⟩ : ∃ ns, ns = (if ex.jump.isNone = true then LoopState.ready else LoopState.done) := ⟨_, rfl⟩
                      rw [← hns] at hev
                      have hS4 := ((hS3.setObj hl2 hm2 (.loop ns ex.jump fn2 fr2 ps2 as2 bo2) (.loop { r2 with state := ns, pending := ex.jump }) (by simp)
                        fun hk => .loop (World.putObj_heap_same (lt_of_heap hr2)) rfl rfl hps2 has2 hbo2 hs2 (fun j x hx => (hrr2 j x hx).mono (fun _ _ h => h) hk (List.prefix_refl _)) hg2).lessD).lessD
                      have hret := hS4.toRet hB (v := .bool ex.jump.isNone) (w := .bool ex.jump.isNone) false .bool (by simp)
                      have hfin : ∃ I' m', Sim B (W2.putObj g (.loop { r2 with state := ns, pending := ex.jump })) I' m' (ret (.bool b) false hp') #[.bool b] := by
                        have hml : B.m.length = hp.length := h.mlen
                        split at hev
                        · rename_i hlt
                          cases hev
                          rw [← hml] at hlt ⊢
                          exact ⟨_, _, hret.trunc hB rfl hlt⟩
                        · cases hev
                          exact ⟨_, _, hret⟩
                      have hbv : b = ex.jump.isNone := by
                        split at hev <;> cases hev <;> rfl
                      obtain ⟨I', m', hfin⟩ := hfin
                      rw [hns] at hfin
                      cases ex with
                      | normal =>
                        cases e2 <;> try exact he2.elim
                        exact ⟨_, _, run_endRound none hr2, I', m', by rw [hbv]; rfl, hfin⟩
                      | ret =>
                        cases e2 <;> try exact he2.elim
                        exact ⟨_, _, run_endRound (some .ret) hr2, I', m', by rw [hbv]; rfl, hfin⟩
                      | exit i =>
                        cases e2 <;> try exact he2.elim
                        simp only [Ex.is] at he2
                        subst he2
                        exact ⟨_, _, run_endRound (some (.exit i)) hr2, I', m', by rw [hbv]; rfl, hfin⟩
                · cases hev
              · cases hev
            · cases hev
          · cases hev
        · cases hev
    · cases hev
  · cases hev

theorem run_ok (hok : cfg.Ok P) : ∀ k, CallOk P (run cfg k) ∧ CodeOk cfg P (run cfg k)
  | 0 => ⟨⟨fun f args hp v own hp' h => by simp [run] at h, fun id args hp b hp' h => by simp [run] at h⟩, fun f round c st e st' h => by simp [run] at h⟩
  | k + 1 => ⟨⟨fun _ _ _ _ _ _ h => call_step hok (run_ok hok k).2 h, fun _ _ _ _ _ h => round_step hok (run_ok hok k).2 h⟩, code_step hok (run_ok hok k).1 (run_ok hok k).2⟩

end Go.Abs
