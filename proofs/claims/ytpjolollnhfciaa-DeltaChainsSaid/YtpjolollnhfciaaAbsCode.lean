/- Statements and calls: what the interpreter says of them is what the model does. -/
import Derived.Test.YtpjolollnhfciaaAbsLoop
set_option linter.all false
namespace Go.Abs
open Go.Lib
variable [BT] {F : Fence} {n : Nat} {P : Program} {cfg : Cfg} {B : Base} {W : World} {I : Nat → Nat → Prop} {m : List (Option Nat)} {st st' : St} {a : Act} {o : Oper} {tmps : Array Value} {orc : Orc}

theorem evOps_sim (hok : cfg.Ok P) (hF : FOk F) (hcall : CallOk P orc) {lim : Nat → Bool} {ops : Array Oper} {Q : Exit → Act → World → Prop} : ∀ (l : List Nat) {st : St} {a : Act} {W : World} {I : Nat → Nat → Prop} {m : List (Option Nat)},
    evOps cfg orc lim ops.toList l st = some st' → Sim B W I m st a.tmps → (∀ a' W', After B st' a.defers a' W' → Q .normal a' W') → wpOpsIn F n P ops Q l a W := by
  intro l
  induction l with
  | nil =>
    intro st a W I m hev h k
    simp only [evOps, Option.some.injEq] at hev
    subst hev
    exact k _ _ ⟨rfl, I, m, h⟩
  | cons i rest ih =>
    intro st a W I m hev h k
    simp only [evOps, Array.getElem?_toList] at hev
    simp only [wpOpsIn]
    split at hev
    · cases hev
    · rename_i o ho
      simp only [ho]
      split at hev
      · cases hev
      · rename_i hw
        have hw' := wanted_sim h hw
        rw [if_neg (by rw [hw']; simp)]
        exact ⟨fun f _ => hF.fn f, ih hev (by rw [put_tmps]; exact h.put o.dst rel_und) (by rw [put_defers]; exact k)⟩
      · rename_i hw
        have hw' := wanted_sim h hw
        rw [if_pos hw']
        split at hev
        · cases hev
        · rename_i st1 hop
          refine evOp_sim hok hF hcall hop h fun a' W' ha => ?_
          obtain ⟨hd, I', m', hS⟩ := ha
          exact ih hev hS (by rw [hd]; exact k)

/-! ### Statements -/
def Ex.is : Ex → Exit → Prop
  | .normal, .normal => True
  | .exit i, .exit j => i = j
  | .ret, .ret => True
  | _, _ => False

def AfterC (B : Base) (st' : St) (ds : List Deferred) (a' : Act) (W' : World) : Prop := ∃ D : List Nat, a'.defers = D.map mark ++ ds ∧ ∃ I' m', Sim { B with D := D ++ B.D } W' I' m' st' a'.tmps

theorem AfterC.of {ds : List Deferred} {a' : Act} {W' : World} (h : After B st' ds a' W') : AfterC B st' ds a' W' := ⟨[], h.1, h.2⟩

theorem AfterC.trans {D : List Nat} {ds : List Deferred} {a' : Act} {W' : World} (h : AfterC { B with D := D ++ B.D } st' (D.map mark ++ ds) a' W') : AfterC B st' ds a' W' := by
  obtain ⟨D2, h1, I', m', h2⟩ := h
  refine ⟨D2 ++ D, by simp [h1], I', m', ?_⟩
  rw [List.append_assoc]
  exact h2

def PostC (B : Base) (e : Ex) (st' : St) (ds : List Deferred) : Exit → Act → World → Prop := fun e' a' W' => e.is e' ∧ AfterC B st' ds a' W'

/-- The rounds of a loop, from the head of one on. -/
def LoopArr (F : Fence) (n : Nat) (P : Program) (body : Code) (Q : Exit → Act → World → Prop) (a : Act) (w : World) : Prop :=
  ∀ (b : Frame) (k : List Item) (cs : List Frame), b.roundOf = F.round → F.fn b.fn → F.room (cs.length + 1 + n) →
    ∃ e a' w', Q e a' w' ∧ ArrivesIn (Machine.fenced P F) P (lone (b.atR a (.code body :: .inLoop body :: k)) cs w) b k cs e a' w'

theorem loop_arr {body : Code} {Q : Exit → Act → World → Prop} {w : World} (h : body.wpIn F n P (Exit.then (LoopArr F n P body Q) Q) a w) : LoopArr F n P body Q a w := by
  intro b k cs hro hb hr
  obtain ⟨e, a₁, w₁, hq, harr⟩ := h b (.inLoop body :: k) cs hro hb hr
  cases e with
  | normal =>
    obtain ⟨e₂, a₂, w₂, hq₂, harr₂⟩ := hq b k cs hro hb hr
    exact ⟨e₂, a₂, w₂, hq₂, .of_steps (StepsIn.trans harr (.one (fenced_calm hb hr rfl) stepR_inLoop)) harr₂⟩
  | exit id => exact ⟨_, a₁, w₁, hq, .pass (x := .inLoop body) rfl (fun _ _ => .inl (by simp)) harr⟩
  | goto l => exact ⟨_, a₁, w₁, hq, .pass (x := .inLoop body) rfl (fun _ _ => .inl (by simp)) harr⟩
  | ret => exact ⟨_, a₁, w₁, hq, .pass (x := .inLoop body) rfl (fun _ _ => .inl (by simp)) harr⟩
  | panic ch => exact ⟨_, a₁, w₁, hq, .pass (x := .inLoop body) rfl (fun _ _ => .inl (by simp)) harr⟩
  | outgrown => exact ⟨_, a₁, w₁, hq, .pass (x := .inLoop body) rfl (fun _ _ => .inl (by simp)) harr⟩

theorem wpIn_of_loopArr {body : Code} {Q : Exit → Act → World → Prop} {w : World} (h : LoopArr F n P body Q a w) : (Code.loop body).wpIn F n P Q a w := by
  intro b k cs hro hb hr
  obtain ⟨e, a', w', hq, harr⟩ := h b k cs hro hb hr
  exact ⟨e, a', w', hq, .of_steps (.one (fenced_calm hb hr rfl) stepR_loop) harr⟩

/-- The round that the activation is. -/
def RoundIs (F : Fence) (B : Base) (round : Option Nat) : Prop :=
  match round with
  | none => F.round = none
  | some id => ∃ l, F.round = some l ∧ B.m[id]? = some (some l)

/-- What an oracle says of statements is so. -/
def CodeOk (cfg : Cfg) (P : Program) (orc : Orc) : Prop :=
  ∀ f round c st e st', orc.code f round c st = some (e, st') → regsOk cfg f c = true → ∀ (F : Fence) (n : Nat) (B : Base) (W : World) (I : Nat → Nat → Prop) (m : List (Option Nat)) (a : Act), FOk F → B.n0 = B.m.length → RoundIs F B round → Sim B W I m st a.tmps →
    c.wpIn F n P (PostC B e st' a.defers) a W ∧ ∀ body, c = .loop body → LoopArr F n P body (PostC B e st' a.defers) a W

theorem postC_mono {e : Ex} {ds : List Deferred} {Q : Exit → Act → World → Prop} {c : Code} (h : c.wpIn F n P (PostC B e st' ds) a W) (hq : ∀ e' a' W', e.is e' → AfterC B st' ds a' W' → Q e' a' W') : c.wpIn F n P Q a W :=
  wpIn_mono h fun e' a' W' h => hq e' a' W' h.1 h.2

theorem stepR_scope {b : Frame} {a : Act} {k : List Item} {cs : List Frame} {w : World} {c : Code} : Go.step P (lone (b.atR a (.code (.scope c) :: k)) cs w) = .next (lone (b.atR a (.code c :: .inScope c :: k)) cs w) :=
  step_lone_go (by simp [stepG, stepG.exec, Frame.atR])
theorem stepR_inScope {b : Frame} {a : Act} {k : List Item} {cs : List Frame} {w : World} {c : Code} : Go.step P (lone (b.atR a (.inScope c :: k)) cs w) = .next (lone (b.atR a k) cs w) :=
  step_lone_go (by simp [stepG, stepG.exec, Frame.atR])

/-- A scope that no goto leaves. -/
theorem wpIn_scope {Q : Exit → Act → World → Prop} {w : World} {c : Code} (h : c.wpIn F n P (fun e a w => (∀ l, e ≠ .goto l) ∧ Q e a w) a w) : (Code.scope c).wpIn F n P Q a w := by
  intro b k cs hro hb hr
  have h0 : (lone (b.atR a (.code (.scope c) :: k)) cs w).fenced P F := fenced_calm hb hr rfl
  obtain ⟨e, a₁, w₁, ⟨hg, hq⟩, harr⟩ := h b (.inScope c :: k) cs hro hb hr
  cases e with
  | normal => exact ⟨.normal, a₁, w₁, hq, .head h0 stepR_scope (StepsIn.trans harr (.one (fenced_calm hb hr rfl) stepR_inScope))⟩
  | exit id =>
    have hx : exitTo id (.inScope c :: k) = exitTo id k := by simp [exitTo]
    exact ⟨.exit id, a₁, w₁, hq, fun k' hk => .head h0 stepR_scope (harr.1 k' (by rw [hx]; exact hk)),
      fun hr' hk => let ⟨k₁, h1, h2⟩ := harr.2 hr' (by rw [hx]; exact hk); ⟨k₁, h1, .head h0 stepR_scope h2⟩⟩
  | goto l => exact absurd rfl (hg l)
  | ret => exact ⟨_, a₁, w₁, hq, .of_steps (.one h0 stepR_scope) harr⟩
  | panic ch => exact ⟨_, a₁, w₁, hq, .of_steps (.one h0 stepR_scope) harr⟩
  | outgrown => exact ⟨_, a₁, w₁, hq, .of_steps (.one h0 stepR_scope) harr⟩

theorem MLe.kept {B : Base} {tmps : Array Value} (h : Sim B W I m st tmps) {id l : Nat} (hl : B.m[id]? = some (some l)) : m[id]? = some (some l) := pre_get h.pre hl

set_option maxHeartbeats 800000 in
/-- A range over a function. -/
theorem range_sim (hok : cfg.Ok P) (hcall : CallOk P orc) (hF : FOk F) (hB : B.n0 = B.m.length) {f : FuncId} {round : Option Nat} (hro : RoundIs F B round) {g : Operand} {ps : Array Tmp} {assign body : Code} {e : Ex}
    (hev : (step cfg orc).code f round (.rangeFunc g ps assign body) st = some (e, st')) (hrg : regsOk cfg f (.rangeFunc g ps assign body) = true) (h : Sim B W I m st a.tmps) :
    (Code.rangeFunc g ps assign body).wpIn F n P (PostC B e st' a.defers) a W := by
  simp only [step] at hev
  simp only [regsOk, Bool.and_eq_true] at hrg
  split at hev
  · rename_i gf cap hg
    split at hev
    · rename_i hcl
      simp only [Bool.and_eq_true] at hcl
      obtain ⟨hin, hclosed⟩ := hcl
      split at hev
      · rename_i v own hp' horc
        split at hev
        · rename_i s pe fn0 fr0 ps0 as0 bo0 hl
          split at hev
          · rename_i hnb
            split at hev
            · rename_i ex hjump
              cases hev
              have hfr := rel_ev h g
              rw [hg] at hfr
              obtain ⟨arr, hfe, hal, har⟩ : ∃ arr, a.eval g = .func (.func gf) #[] arr ∧ arr.size = cap.length ∧ ∀ (j : Nat) (x : V), cap[j]? = some x → Rel W I m x (arr.getD j undef) := by
                generalize a.eval g = vf at hfr
                cases hfr with
                | fn hl hr => exact ⟨_, rfl, hl, hr⟩
              obtain ⟨⟨fn, hfn, hname, hbody⟩, _⟩ := hcall.call _ _ _ _ _ _ horc
              refine wpIn_rangeFunc fun fnc hfnc => ?_
              -- the record is laid
              obtain ⟨D, l, W1, hent, hS0, hWl⟩ : ∃ (D : List Nat) (l : Nat) (W0 : World), (∃ db, (Instr.enterLoop fnc a.tmps ps assign body F.round).run P W = .ok (l, D.map mark) (W0.alloc (.loop { state := .ready, pending := none, fn := fnc, tmps := a.tmps, params := ps, assign := assign, body := body, defers := db }))) ∧
                  Sim { B with D := D ++ B.D } W0 I m st a.tmps ∧ l = W0.heap.size := by
                cases round with
                | none =>
                  simp only [RoundIs] at hro
                  rw [hro]
                  exact ⟨[W.heap.size], _, W.alloc (.deferred (some [])), ⟨_, run_enterLoop_outer fnc a.tmps ps assign body⟩, h.marked, by simp⟩
                | some id =>
                  obtain ⟨l0, hr1, hr2⟩ := hro
                  simp only [inLoop] at hin
                  split at hin
                  · rename_i hb0
                    have hm0 := pre_get h.pre hr2
                    obtain ⟨x, hx, hbx⟩ := h.blk _ _ hb0
                    rw [hm0] at hx; cases hx
                    cases hbx with
                    | @loop _ _ _ _ _ _ _ _ r0 hr0 =>
                      rw [hr1]
                      refine ⟨[], _, W, ⟨r0.defers, ?_⟩, h, rfl⟩
                      unfold Instr.enterLoop
                      simp only [Sem.run_bind, run_getLoop hr0, run_newObj_alloc, Result.andThen, Sem.run_pure]
                      rfl
                  · cases hin
              subst hWl
              obtain ⟨db, hent⟩ := hent
              have hS1 := hS0.pushObj (.loop .ready none f (killAll st.fr (cfg.kill f (rangeKey assign body))) ps.toList assign body) (.loop { state := .ready, pending := none, fn := fnc, tmps := a.tmps, params := ps, assign := assign, body := body, defers := db }) (by simp)
                fun m' hm' => .loop (World.alloc_heap_new _ _) rfl rfl rfl rfl rfl (by simp [h.len, killAll_length]) (fun j x hx => by
                  rcases killAll_get _ _ _ _ hx with rfl | hx
                  · exact .any
                  · exact ((hS0.grown _).fr j x hx).mono_le (fun _ _ h => h) (fun _ _ _ => rfl) hm') ⟨(hok.bt3 _ _).2 hrg.1, (hok.bt3 _ _).2 hrg.2⟩
              obtain ⟨hR, hargs⟩ := closed_sees (st := { st with hp := st.hp ++ [.loop .ready none f (killAll st.fr (cfg.kill f (rangeKey assign body))) ps.toList assign body] }) hclosed
              have hlm : (m ++ [some W1.heap.size])[st.hp.length]? = some (some W1.heap.size) := by rw [← h.mlen]; simp
              have hcallIn := call_sim (F := F) (n := n - 1) hcall hF hS1 hR hargs horc (vargs := #[.func (.yield W1.heap.size) #[] #[]] ++ arr) (by simp [hal]; omega) fun j x hx => by
                cases j with
                | zero =>
                  simp at hx; subst hx
                  have e0 : (#[Value.func (.yield W1.heap.size) #[] #[]] ++ arr).getD 0 undef = .func (.yield W1.heap.size) #[] #[] := by
                    simp only [Array.getD_eq_getD_getElem?]
                    rw [Array.getElem?_append_left (by simp)]
                    rfl
                  rw [e0]
                  exact .yld hlm
                | succ j =>
                  have e0 : (#[Value.func (.yield W1.heap.size) #[] #[]] ++ arr).getD (j + 1) undef = arr.getD j undef := by
                    simp only [Array.getD_eq_getD_getElem?]
                    rw [Array.getElem?_append_right (by simp)]
                    simp
                  rw [e0]
                  have hb := rel_ev hS1 g
                  rw [hg, hfe] at hb
                  cases hb with
                  | fn _ hr => exact hr j x (by simpa using hx)
              generalize hW2 : W1.alloc (.loop { state := .ready, pending := none, fn := fnc, tmps := a.tmps, params := ps, assign := assign, body := body, defers := db }) = W2 at hent hS1 hcallIn
              have hres : (resolve a.eval (rangeCall g W1.heap.size) 0).run P W2 = .ok { target := .fn (.func gf) arr, args := #[.func (.yield W1.heap.size) #[] #[]] } W2 := by
                simp only [resolve, rangeCall, hfe, Deferred.ofValue, Sem.run_bind, Sem.run_pure, Result.andThen_ok]
                simp [Act.eval]
              have hinv : (invoke (.fn (.func gf) arr) #[.func (.yield W1.heap.size) #[] #[]]).run P W2 = .ok (.enter gf (#[.func (.yield W1.heap.size) #[] #[]] ++ arr)) W2 := by
                simp only [invoke, callFunc, Sem.run_bind, run_program, Result.andThen_ok, hfn, hname, hbody]
                simp
              refine ⟨W1.heap.size, D.map mark, W2, _, W2, gf, _, W2, hent, hres, fun f' _ => hF.fn f', hinv, fun hd => (by rw [hF.depth] at hd; cases hd), CallsIn.mono hcallIn ?_⟩
              rintro e' W' ⟨w, I', m', rfl, hS⟩
              have hb := hS1.back hR (ret_less (own' := false) hS (by simp)) none (fun h => by cases h)
              have hml2 : (backM (m ++ [some W1.heap.size]) (reach (st.hp ++ [.loop .ready none f (killAll st.fr (cfg.kill f (rangeKey assign body))) ps.toList assign body]) (.yld st.hp.length :: cap)) m')[st.hp.length]? = some (some W1.heap.size) := by
                unfold backM
                rw [List.getElem?_append_left (by simp [h.mlen])]
                exact hlm
              obtain ⟨x, hx, hbx⟩ := hb.blk _ _ hl
              have hx' := hml2.symm.trans hx
              cases hx'
              cases hbx with
              | @loop _ _ _ _ _ _ _ _ r hr hst hpe =>
                have hr' : W'.heap[W1.heap.size]? = some (.loop r) := hr
                have hbusy : r.state ≠ .busy := by
                  rw [hst]; intro e; rw [e] at hnb; cases hnb
                refine ⟨r.pending, _, run_endLoop hr' hbusy, ?_⟩
                have hS3 := hb.setObj hl hml2 .dead (.loop { r with state := .exhausted }) (by simp) fun _ => .dead (o := .loop { r with state := .exhausted }) (World.putObj_heap_same (lt_of_heap hr')) (by simp)
                have hfin : ∀ e', e.is e' → PostC B e { st with hp := (backHp (st.hp ++ [.loop .ready none f (killAll st.fr (cfg.kill f (rangeKey assign body))) ps.toList assign body]) (reach (st.hp ++ [.loop .ready none f (killAll st.fr (cfg.kill f (rangeKey assign body))) ps.toList assign body]) (.yld st.hp.length :: cap)) hp').set st.hp.length .dead, al := [] } a.defers e' { a with defers := D.map mark ++ a.defers } (W'.putObj W1.heap.size (.loop { r with state := .exhausted })) :=
                  fun e' he => ⟨he, D, rfl, I', _, hS3⟩
                rw [hpe] at hfin ⊢
                unfold jumpEx at hjump
                split at hjump <;> cases hjump
                · exact hfin .normal trivial
                · exact wpIn_ret (hfin .ret trivial)
                · exact wpIn_exit (hfin (.exit _) rfl)
            · cases hev
          · cases hev
        · cases hev
      · cases hev
    · cases hev
  · cases hev

theorem loopArr_mono {body : Code} {Q Q' : Exit → Act → World → Prop} {w : World} (h : LoopArr F n P body Q a w) (hq : ∀ e a w, Q e a w → Q' e a w) : LoopArr F n P body Q' a w :=
  fun b k cs h1 h2 h3 => let ⟨e, a', w', q, r⟩ := h b k cs h1 h2 h3; ⟨e, a', w', hq _ _ _ q, r⟩

theorem code_step (hok : cfg.Ok P) (hcall : CallOk P orc) (hcode : CodeOk cfg P orc) : CodeOk cfg P (step cfg orc) := by
  intro f round c st e st' hev hrg F n B W I m a hF hB hro h
  have nl : (∀ body, c ≠ .loop body) → c.wpIn F n P (PostC B e st' a.defers) a W → (c.wpIn F n P (PostC B e st' a.defers) a W ∧ ∀ body, c = .loop body → LoopArr F n P body (PostC B e st' a.defers) a W) :=
    fun h1 h2 => ⟨h2, fun body hb => absurd hb (h1 body)⟩
  cases c with
  | skip =>
    simp only [step, Option.some.injEq, Prod.mk.injEq] at hev
    obtain ⟨rfl, rfl⟩ := hev
    exact nl (by simp) (wpIn_skip ⟨trivial, .of ⟨rfl, I, m, h⟩⟩)
  | label l =>
    simp only [step, Option.some.injEq, Prod.mk.injEq] at hev
    obtain ⟨rfl, rfl⟩ := hev
    exact nl (by simp) (wpIn_label ⟨trivial, .of ⟨rfl, I, m, h⟩⟩)
  | seq x y =>
    refine nl (by simp) ?_
    simp only [regsOk, Bool.and_eq_true] at hrg
    simp only [step] at hev
    split at hev
    · rename_i st1 hx
      refine wpIn_seq (postC_mono (hcode _ _ _ _ _ _ hx hrg.1 F n B W I m a hF hB hro h).1 fun e' a' W' he ha => ?_)
      cases e' <;> try exact he.elim
      obtain ⟨D, hd, I', m', hS⟩ := ha
      have := (hcode _ _ _ _ _ _ hev hrg.2 F n { B with D := D ++ B.D } W' I' m' a' hF hB hro hS).1
      rw [hd] at this
      exact postC_mono this fun e2 a2 W2 he2 ha2 => ⟨he2, ha2.trans⟩
    · rename_i hne
      refine wpIn_seq (postC_mono (hcode _ _ _ _ _ _ hev hrg.1 F n B W I m a hF hB hro h).1 fun e' a' W' he ha => ?_)
      cases e' with
      | normal => cases e with
        | normal => exact absurd hev (hne st')
        | _ => exact he.elim
      | _ => exact ⟨he, ha⟩
  | cond c x y =>
    refine nl (by simp) ?_
    simp only [step] at hev
    have hc := rel_ev h c
    simp only [regsOk, Bool.and_eq_true] at hrg
    split at hev
    · rename_i hcv
      rw [hcv] at hc
      exact wpIn_cond_true (rel_bool_inv hc) (hcode _ _ _ _ _ _ hev hrg.1 F n B W I m a hF hB hro h).1
    · rename_i hcv
      rw [hcv] at hc
      exact wpIn_cond_false (rel_bool_inv hc) (hcode _ _ _ _ _ _ hev hrg.2 F n B W I m a hF hB hro h).1
    · cases hev
  | block id body =>
    refine nl (by simp) ?_
    simp only [step] at hev
    split at hev
    · rename_i i st1 hb
      refine wpIn_block (postC_mono (hcode _ _ _ _ _ _ hb hrg F n B W I m a hF hB hro h).1 fun e' a' W' he ha => ?_)
      cases e' <;> simp only [Ex.is] at he
      subst he
      simp only [Exit.inBlock]
      split at hev
      · rename_i hi
        simp only [Option.some.injEq, Prod.mk.injEq] at hev
        obtain ⟨rfl, rfl⟩ := hev
        rw [if_pos hi]
        exact ⟨trivial, ha⟩
      · rename_i hi
        simp only [Option.some.injEq, Prod.mk.injEq] at hev
        obtain ⟨rfl, rfl⟩ := hev
        rw [if_neg hi]
        exact ⟨rfl, ha⟩
    · rename_i hne
      refine wpIn_block (postC_mono (hcode _ _ _ _ _ _ hev hrg F n B W I m a hF hB hro h).1 fun e' a' W' he ha => ?_)
      cases e' with
      | exit i => cases e with
        | exit j => exact absurd hev (hne j st')
        | _ => exact he.elim
      | _ => exact ⟨he, ha⟩
  | loop body =>
    have key : LoopArr F n P body (PostC B e st' a.defers) a W := by
      simp only [step] at hev
      obtain ⟨mk, hk⟩ := (h.kill (cfg.kill f (firstReg body))).gc hB
      split at hev
      · rename_i st1 hb
        refine loop_arr (postC_mono (hcode _ _ _ _ _ _ hb hrg F n B W I mk a hF hB hro hk).1 fun e' a' W' he ha => ?_)
        cases e' <;> try exact he.elim
        obtain ⟨D, hd, I', m', hS⟩ := ha
        have := (hcode _ _ _ _ _ _ hev hrg F n { B with D := D ++ B.D } W' I' m' a' hF hB hro hS).2 body rfl
        rw [hd] at this
        exact loopArr_mono this fun e2 a2 W2 ha2 => ⟨ha2.1, ha2.2.trans⟩
      · rename_i hne
        refine loop_arr (postC_mono (hcode _ _ _ _ _ _ hev hrg F n B W I mk a hF hB hro hk).1 fun e' a' W' he ha => ?_)
        cases e' with
        | normal => cases e with
          | normal => exact absurd hev (hne st')
          | _ => exact he.elim
        | _ => exact ⟨he, ha⟩
    exact ⟨wpIn_of_loopArr key, fun body' hb => by cases hb; exact key⟩
  | exit id =>
    simp only [step, Option.some.injEq, Prod.mk.injEq] at hev
    obtain ⟨rfl, rfl⟩ := hev
    exact nl (by simp) (wpIn_exit ⟨rfl, .of ⟨rfl, I, m, h⟩⟩)
  | ret =>
    simp only [step, Option.some.injEq, Prod.mk.injEq] at hev
    obtain ⟨rfl, rfl⟩ := hev
    exact nl (by simp) (wpIn_ret ⟨trivial, .of ⟨rfl, I, m, h⟩⟩)
  | region id ops draw =>
    refine nl (by simp) ?_
    simp only [step] at hev
    split at hev
    · rename_i hd
      subst hd
      obtain ⟨st1, h1, h2⟩ := Option.map_eq_some_iff.1 hev
      simp only [Prod.mk.injEq] at h2
      obtain ⟨rfl, rfl⟩ := h2
      simp only [regsOk, Bool.not_true, Bool.false_or] at hrg
      refine evDraw_sim hok hF hcall hok.mixed hrg h1 h fun a' W' ha => ⟨trivial, .of ?_⟩
      obtain ⟨hd, I', m', hS⟩ := ha
      exact ⟨hd, I', m', hS.noAl⟩
    · rename_i hd
      have hd : draw = false := by simpa using hd
      subst hd
      obtain ⟨st1, h1, h2⟩ := Option.map_eq_some_iff.1 hev
      simp only [Prod.mk.injEq] at h2
      obtain ⟨rfl, rfl⟩ := h2
      refine wpIn_region (evOps_sim hok hF hcall _ h1 h fun a' W' ha => ⟨trivial, .of ?_⟩)
      obtain ⟨hd, I', m', hS⟩ := ha
      exact ⟨hd, I', m', hS.noAl⟩
  | rangeFunc g ps x y => exact nl (by simp) (range_sim hok hcall hF hB hro hev hrg h)
  | scope x =>
    refine nl (by simp) (wpIn_scope ?_)
    simp only [step] at hev
    refine postC_mono (hcode _ _ _ _ _ _ hev hrg F n B W I m a hF hB hro h).1 fun e' a' W' he ha => ⟨fun l hl => ?_, he, ha⟩
    subst hl
    cases e <;> exact he.elim
  | goto l => simp only [step] at hev; cases hev
  | refuse w => simp only [step] at hev; cases hev


end Go.Abs
