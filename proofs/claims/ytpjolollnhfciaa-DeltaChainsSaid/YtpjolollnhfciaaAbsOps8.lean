/- Every operation: what the interpreter says of it is what the model does. -/
import Derived.Test.YtpjolollnhfciaaAbsOps7
set_option linter.all false
namespace Go.Abs
open Go.Lib
variable [BT] {F : Fence} {n : Nat} {P : Program} {cfg : Cfg} {B : Base} {W : World} {I : Nat → Nat → Prop} {m : List (Option Nat)} {st st' : St} {a : Act} {o : Oper} {tmps : Array Value} {orc : Orc}

/-- What an oracle says of calls is so. -/
structure CallOk (P : Program) (orc : Orc) : Prop where
  call : ∀ f args hp v own hp', orc.call f args hp = some (v, own, hp') →
    (∃ fn, P.funcs[f]? = some fn ∧ (fn.name == "runtime.NumGoroutine") = false ∧ fn.body.isNone = false) ∧
    ∀ (F : Fence) (n : Nat) (B : Base) (I : Nat → Nat → Prop) (vargs : Array Value), FOk F → B.n0 = B.m.length → B.D = [] → Sim B B.W I B.m { fr := args, own := [], hp := hp, al := [], nb := hp.length } vargs →
        CallsIn F n P f vargs B.W fun e W' => ∃ w I' m', e = .returned w ∧ Sim B W' I' m' (ret v own hp') #[w]
  round : ∀ id args hp b hp', orc.round id args hp = some (b, hp') →
    ∀ (F : Fence) (n : Nat) (B : Base) (I : Nat → Nat → Prop) (vargs : Array Value) (g : Nat), FOk F → B.n0 = B.m.length → B.D = [] → Sim B B.W I B.m { fr := .yld id :: args, own := [], hp := hp, al := [], nb := hp.length } (#[.func (.yield g) #[] #[]] ++ vargs) →
      ∃ r, B.W.heap[g]? = some (.loop r) ∧ vargs.size = r.params.size ∧
        RoundIn F n P g r.fn ((r.params.zip vargs).foldl (fun tmps (t, a) => tmps.setIfInBounds t a) r.tmps) r.assign r.body B.W fun e W' => ∃ I' m', e = .returned (.bool b) ∧ Sim B W' I' m' (ret (.bool b) false hp') #[.bool b]

def After (B : Base) (st' : St) (ds : List Deferred) (a' : Act) (W' : World) : Prop := a'.defers = ds ∧ ∃ I' m', Sim B W' I' m' st' a'.tmps

theorem wp_of_gives {next : Act → World → Prop} {Q : Exit → Act → World → Prop} (hF : FOk F) (hnd : ∀ c, o.op ≠ .defer c) (h : Gives P B o a W st') (k : ∀ a' W', After B st' a.defers a' W' → next a' W') : o.wpIn F n P a W next Q := by
  obtain ⟨w, W', I', m', hrun, hS⟩ := h
  exact wp_value hF hnd hrun (k _ _ ⟨put_defers _ _ _, I', m', by rw [put_tmps]; exact hS⟩)

/-- An operation whose value does not touch the world, and is nobody's. -/
theorem gives_val {s : Sem Value} {v : V} (h : Sim B W I m st a.tmps) (he : execOp a.eval o = (do pure (.value (← s)) : Sem Next)) (hr : ∃ w, s.run P W = .ok w W ∧ Rel W I m v w) : Gives P B o a W (st.put o.dst v) := by
  obtain ⟨w, hrun, hrel⟩ := hr
  exact gives_put h hrel (by rw [he]; simp only [Sem.run_bind, hrun, Result.andThen_ok, Sem.run_pure])

theorem gives_mem {s : Sem Value} {v : V} (he : execOp a.eval o = (do pure (.value (← s)) : Sem Next)) (hr : ∃ w W' I', s.run P W = .ok w W' ∧ Sim B W' I' m st a.tmps ∧ Rel W' I' m v w) : Gives P B o a W (st.put o.dst v) := by
  obtain ⟨w, W', I', hrun, hS, hrel⟩ := hr
  exact ⟨w, W', I', m, by rw [he]; simp only [Sem.run_bind, hrun, Result.andThen_ok, Sem.run_pure], hS.put o.dst hrel⟩

theorem map_put {x : Option V} {st' : St} {d : Option Tmp} (h : (x.map fun v => st.put d v) = some st') : ∃ v, x = some v ∧ st' = st.put d v := by
  obtain ⟨v, h1, h2⟩ := Option.map_eq_some_iff.1 h
  exact ⟨v, h1, h2.symm⟩

theorem fr_get {u : Tmp} {x : V} (hne : x ≠ .any) (h : ev st.fr (.tmp u) = x) : st.fr[u]? = some x := by
  simp only [ev] at h
  rcases hu : st.fr[u]? with _ | y
  · rw [List.getD_eq_getElem?_getD, hu] at h; exact absurd h.symm hne
  · rw [getD_of_get hu] at h; rw [h]

theorem aput_other {tmps : Array Value} {d u : Nat} {w : Value} (h : u ≠ d) : (aput tmps (some d) w).getD u undef = tmps.getD u undef := by
  simp only [aput, Array.getD_eq_getD_getElem?, Array.getElem?_setIfInBounds]; rw [if_neg (fun e => h e.symm)]

/-- A copy, and whose it is. -/
theorem move_sim (h : Sim B W I m st a.tmps) {x : Operand} {lim : Bool} {dst : Option Tmp} (hev : (match x with
    | .tmp u => if st.own.contains u && !lim && dst != some u then some ((st.put dst (ev st.fr x)).alias dst (some (.tmp u))) else some (st.put dst (ev st.fr x))
    | _ => some (st.put dst (ev st.fr x))) = some st') : Sim B W I m st' (aput a.tmps dst (a.eval x)) := by
  have hput := h.put dst (rel_ev h x)
  split at hev
  · rename_i u
    split at hev
    · rename_i hc
      cases hev
      simp only [Bool.and_eq_true, bne_iff_ne, ne_eq] at hc
      refine hput.aliasIn _ _ fun t o' ht ho => ?_
      cases ho
      subst ht
      simp only [AliasOk]
      have hne : u ≠ t := fun e => hc.2 (by rw [e])
      rw [aput_other hne]
      simp only [Act.eval]
      intro hlt
      simp only [aput]; rw [getD_set (by simpa [aput] using hlt), if_pos rfl]
    · cases hev; exact hput
  · cases hev; exact hput

/-- An assignment: what was owned goes along. -/
theorem assign_sim (h : Sim B W I m st a.tmps) {x : Operand} {lim : Bool} {dst : Option Tmp} (hev : (match x with
    | .tmp u => if st.own.contains u && !lim then some ((dropOwn st (.tmp u)).putOwn dst (ev st.fr x) true) else some (st.put dst (ev st.fr x))
    | .const (.slice none 0 0) => if lim then some (st.put dst (.sl true [])) else some (st.putOwn dst (.sl true []) true)
    | _ => some (st.put dst (ev st.fr x))) = some st') : Sim B W I m st' (aput a.tmps dst (a.eval x)) := by
  split at hev
  · rename_i u
    split at hev
    · rename_i hc
      cases hev
      simp only [Bool.and_eq_true, List.contains_iff_mem] at hc
      obtain ⟨h1, h2⟩ := h.dropOwn (.tmp u)
      have hput := h1.put dst (rel_ev h (.tmp u))
      cases dst with
      | none => exact h1
      | some d =>
        by_cases hsl : ∃ dd xs, st.fr[u]? = some (.sl dd xs)
        · obtain ⟨dd, xs, hx⟩ := hsl
          have hev' : ev st.fr (.tmp u) = .sl dd xs := by simp only [ev]; exact getD_of_get hx
          have hheld : Held W m st a.tmps (.tmp u) xs (a.eval (.tmp u)) := .tmp hc.1 hx
          have hget : d < ((dropOwn st (.tmp u)).put (some d) (ev st.fr (.tmp u))).fr.length → (aput a.tmps (some d) (a.eval (.tmp u))).getD d undef = a.eval (.tmp u) := fun hd => by
            simp only [aput]; rw [getD_set (by rw [h.len]; simpa [St.put, dropOwn] using hd), if_pos rfl]
          refine Sim.owns hput d (dd := dd) (xs := xs) (fun hd => by simp only [St.put, dropOwn] at hd ⊢; rw [List.getElem?_set]; simp at hd; simp [hd, hev']) (fun hd => by rw [hget hd]; exact h.own _ _ _ hheld)
            (fun g hd hcl => by rw [hget hd] at hcl; exact h.ownA _ _ _ _ hheld hcl) fun l xs' v' g hh hcl hd hcl' => ?_
          rw [hget hd] at hcl'
          obtain ⟨hh, hne⟩ := held_put hh
          obtain ⟨hh, hne'⟩ := h2 _ _ _ hh
          exact absurd (h.ownInj _ _ _ _ _ _ _ hh hheld hcl hcl') hne'
        · -- what is owned is no slice: nothing is claimed
          have hno : ∀ {l xs v}, Held W m (St.owns ((dropOwn st (.tmp u)).put (some d) (ev st.fr (.tmp u))) (some d) true) (aput a.tmps (some d) (a.eval (.tmp u))) l xs v → Held W m ((dropOwn st (.tmp u)).put (some d) (ev st.fr (.tmp u))) (aput a.tmps (some d) (a.eval (.tmp u))) l xs v := fun hh => by
            cases hh with
            | @tmp t d' xs' h1 h2 =>
              simp only [St.owns, if_true, List.mem_cons] at h1 h2
              rcases h1 with rfl | h1
              · exfalso
                simp only [St.put, dropOwn] at h2
                rw [List.getElem?_set, if_pos rfl] at h2
                split at h2
                · simp only [Option.some.injEq] at h2
                  exact hsl ⟨d', _, fr_get (by simp) h2⟩
                · cases h2
              · exact .tmp h1 h2
            | cell h1 h2 h3 h4 h5 => exact .cell h1 h2 h3 h4 h5
          exact ⟨hput.grow, hput.pre, hput.live, hput.len, hput.fr, hput.mlen, hput.inj, hput.blk, hput.mA, hput.notI, fun l xs v k => hput.own l xs v (hno k), fun l xs v g k => hput.ownA l xs v g (hno k),
            fun l l' xs xs' v v' g k k' => hput.ownInj l l' xs xs' v v' g (hno k) (hno k'), hput.al, hput.nb⟩
    · cases hev; exact h.put dst (rel_ev h _)
  · have hput := h.put dst (rel_ev h (.const (.slice none 0 0)))
    split at hev
    · cases hev; exact hput
    · cases hev
      cases dst with
      | none => exact hput
      | some d =>
        have hget : d < (st.put (some d) (.sl true [])).fr.length → (aput a.tmps (some d) (a.eval (.const (.slice none 0 0)))).getD d undef = .slice none 0 0 := fun hd => by
          simp only [aput]; rw [getD_set (by rw [h.len]; simpa [St.put] using hd), if_pos rfl]; rfl
        refine Sim.owns hput d (dd := true) (xs := []) (fun hd => by simp only [St.put] at hd ⊢; rw [List.getElem?_set]; simp at hd; simp [hd, ev, ofConst]) (fun hd => by rw [hget hd]; exact .inl ⟨none, rfl⟩)
          (fun g hd hcl => by rw [hget hd] at hcl; cases hcl) fun l xs' v' g hh hcl hd hcl' => by rw [hget hd] at hcl'; cases hcl'
  · cases hev; exact h.put dst (rel_ev h _)

end Go.Abs
