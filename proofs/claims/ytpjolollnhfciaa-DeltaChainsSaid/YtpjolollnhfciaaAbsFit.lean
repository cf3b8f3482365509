/- A row: whatever the input, a law answers true, and the input reads as it did. -/
import Derived.Test.YtpjolollnhfciaaAbsRow
import Derived.SizedLaws
set_option linter.all false
namespace Go.Abs
open Go.Lib Go.ChangeShapes Go.WideShapes Go.RowKit
variable [BT] {P : Program} {cfg : Cfg} {W : World}

inductive Args (cfg : Cfg) : List TypeId → List V → Prop
  | nil : Args cfg [] []
  | cons {t : TypeId} {a : V} {ts : List TypeId} {r : List V} (h : Arg cfg t a) (hr : Args cfg ts r) : Args cfg (t :: ts) (a :: r)

theorem args_open {H : Type} {enc : TypeId × Value → H} (hok : cfg.Ok P) {r : Reach} {base base' : Nat} {sp : Nat → Bool} {held : Bool} (dep : Nat) :
    ∀ {ts : List TypeId} {vs : List Value} {ds : List (DataW H)} {ps : List MemPlace}, (ts.all fun t => plainTy cfg dep t) = true → DataW.TrodAll enc P W base' sp held ts vs ds ps →
      (∀ (j : Nat) t v, ts[j]? = some t → vs[j]? = some v → Value.okWide P W r base t v) → (∀ x ∈ DataW.weightsEach P ts ds, x ≤ reachBytes) →
      ∃ as, Args cfg ts as ∧ as.length = vs.length ∧ ∀ (j : Nat) (x : V), as[j]? = some x → Rel W (here W) [] x (vs.getD j undef)
  | [], [], [], _, _, _, _, _ => ⟨[], .nil, rfl, by simp⟩
  | t :: ts, v :: vs, d :: ds, ps, hp, ⟨p, q, h, hr, _⟩, hval, hw => by
    simp only [List.all_cons, Bool.and_eq_true] at hp
    simp only [DataW.weightsEach, List.mem_append] at hw
    obtain ⟨a, ha, hra⟩ := arg_open hok dep hp.1 (hval 0 t v rfl rfl) h fun x hx => hw x (.inl hx)
    obtain ⟨as, has, hl, hrs⟩ := args_open hok dep hp.2 hr (fun j t v h1 h2 => hval (j + 1) t v (by simpa using h1) (by simpa using h2)) fun x hx => hw x (.inr hx)
    refine ⟨a :: as, .cons ha has, by simp [hl], fun j x hx => ?_⟩
    cases j with
    | zero => simp only [List.getElem?_cons_zero, Option.some.injEq] at hx; subst hx; exact hra
    | succ j => exact hrs j x (by simpa using hx)
  | [], [], _ :: _, _, _, h, _, _ => h.elim
  | [], _ :: _, [], _, _, h, _, _ => h.elim
  | [], _ :: _, _ :: _, _, _, h, _, _ => h.elim
  | _ :: _, [], [], _, _, h, _, _ => h.elim
  | _ :: _, [], _ :: _, _, _, h, _, _ => h.elim
  | _ :: _, _ :: _, [], _, _, h, _, _ => h.elim

theorem args_below {H : Type} {enc : TypeId × Value → H} (hlaid : laidOutB P = true) {W' : World} (hb : Below W.heap.size W W') :
    ∀ {ts : List TypeId} {vs : List Value} {ds : List (DataW H)} {ps : List MemPlace}, (ts.all fun t => P.readableRec t && decide (t < P.types.size)) = true → DataW.TrodAll enc P W 0 (fun _ => true) true ts vs ds ps →
      (∀ x ∈ ps, x.block < W.heap.size) → DataW.TrodAll enc P W' 0 (fun b => decide (b < W.heap.size)) true ts vs ds ps
  | [], [], [], _, _, h, _ => h
  | t :: ts, v :: vs, d :: ds, ps, hp, ⟨p, q, h, hr, he⟩, hlt => by
    simp only [List.all_cons, Bool.and_eq_true, decide_eq_true_eq] at hp
    subst he
    exact ⟨p, q, Below.trod hlaid hp.1.1 hp.1.2 h hb fun x hx => hlt x (List.mem_append_left _ hx), args_below hlaid hb (by simpa using hp.2) hr fun x hx => hlt x (List.mem_append_right _ hx), rfl⟩
  | [], [], _ :: _, _, _, h, _ => h.elim
  | [], _ :: _, [], _, _, h, _ => h.elim
  | [], _ :: _, _ :: _, _, _, h, _ => h.elim
  | _ :: _, [], [], _, _, h, _ => h.elim
  | _ :: _, [], _ :: _, _, _, h, _ => h.elim
  | _ :: _, _ :: _, [], _, _, h, _ => h.elim

theorem trodAll_len {H : Type} {enc : TypeId × Value → H} {base : Nat} {sp : Nat → Bool} {held : Bool} : ∀ {ts : List TypeId} {vs : List Value} {ds : List (DataW H)} {ps : List MemPlace}, DataW.TrodAll enc P W base sp held ts vs ds ps → ds.length = ts.length
  | [], [], [], _, _ => rfl
  | t :: ts, v :: vs, d :: ds, ps, ⟨p, q, _, hr, _⟩ => by simp [trodAll_len hr]
  | [], [], _ :: _, _, h => h.elim
  | [], _ :: _, [], _, h => h.elim
  | [], _ :: _, _ :: _, _, h => h.elim
  | _ :: _, [], [], _, h => h.elim
  | _ :: _, [], _ :: _, _, h => h.elim
  | _ :: _, _ :: _, [], _, h => h.elim

theorem Typed.sl_inv {t e : TypeId} {ti : TI} {a : V} (hti : cfg.ty t = some ti) (hk : ti.k = .slice e) (h : Typed cfg t [a]) :
    ∃ xs te, a = .sl true xs ∧ cfg.ty e = some te ∧ xs.length * te.bytes ≤ 140737488351232 ∧ ∀ row ∈ xs, Typed cfg e row := by
  cases h with
  | bool k => simp [hti, hk] at k
  | int k => simp [hti, hk] at k
  | str k => simp [hti, hk] at k
  | slice k ht hl h => simp [hti, hk] at k; subst k; exact ⟨_, _, rfl, ht, hl, h⟩
  | struct ht k => rw [hti] at ht; cases ht; rw [hk] at k; cases k
theorem Typed.int_inv {t : TypeId} {ti : TI} {k : IntKind} {cs : List V} (hti : cfg.ty t = some ti) (hk : ti.k = .int k) (h : Typed cfg t cs) : ∃ n, cs = [.int k n] ∧ k.min ≤ n ∧ n ≤ k.max := by
  cases h with
  | bool k => simp [hti, hk] at k
  | int k' h1 h2 => simp [hti, hk] at k'; subst k'; exact ⟨_, rfl, h1, h2⟩
  | str k => simp [hti, hk] at k
  | slice k ht hl h => simp [hti, hk] at k
  | struct ht k => rw [hti] at ht; cases ht; rw [hk] at k; cases k
theorem Typed.bool_inv {t : TypeId} {ti : TI} {cs : List V} (hti : cfg.ty t = some ti) (hk : ti.k = .bool) (h : Typed cfg t cs) : ∃ b, cs = [.bool b] := by
  cases h with
  | bool k => exact ⟨_, rfl⟩
  | int k => simp [hti, hk] at k
  | str k => simp [hti, hk] at k
  | slice k ht hl h => simp [hti, hk] at k
  | struct ht k => rw [hti] at ht; cases ht; rw [hk] at k; cases k
theorem Typed.str_inv {t : TypeId} {ti : TI} {cs : List V} (hti : cfg.ty t = some ti) (hk : ti.k = .str) (h : Typed cfg t cs) : ∃ s : List UInt8, cs = [.str s] ∧ s.length ≤ 140737488351232 := by
  cases h with
  | bool k => simp [hti, hk] at k
  | int k => simp [hti, hk] at k
  | str k hl => exact ⟨_, rfl, hl⟩
  | slice k ht hl h => simp [hti, hk] at k
  | struct ht k => rw [hti] at ht; cases ht; rw [hk] at k; cases k
theorem Typed.st_inv {t : TypeId} {ti : TI} {eq : Bool} {fs : List (Nat × TypeId)} {cs : List V} (hti : cfg.ty t = some ti) (hk : ti.k = .struct eq fs) (h : Typed cfg t cs) :
    cs.length = ti.size ∧ ∀ f ∈ fs, ∀ tf, cfg.ty f.2 = some tf → Typed cfg f.2 ((cs.drop f.1).take tf.size) := by
  cases h with
  | bool k => simp [hti, hk] at k
  | int k => simp [hti, hk] at k
  | str k => simp [hti, hk] at k
  | slice k => simp [hti, hk] at k
  | struct ht k hl h => rw [hti] at ht; cases ht; rw [hk] at k; cases k; exact ⟨hl, h⟩
theorem rows_map {α : Type} {g : α → List V} {Q : α → Prop} : ∀ {xs : List (List V)}, (∀ row ∈ xs, ∃ x, row = g x ∧ Q x) → ∃ l : List α, xs = l.map g ∧ ∀ x ∈ l, Q x
  | [], _ => ⟨[], rfl, by simp⟩
  | row :: xs, h => by
    obtain ⟨x, rfl, hx⟩ := h row (by simp)
    obtain ⟨l, rfl, hl⟩ := rows_map (xs := xs) (g := g) (Q := Q) fun r hr => h r (List.mem_cons_of_mem _ hr)
    exact ⟨x :: l, rfl, by simpa using ⟨hx, hl⟩⟩
theorem Arg.plain {t : TypeId} {a : V} (h : Arg cfg t a) (hs : isStructT cfg t = false) : Typed cfg t [a] := by
  rcases h with ⟨h1, _⟩ | ⟨_, h⟩
  · rw [hs] at h1; cases h1
  · exact h
theorem Arg.agg {t : TypeId} {a : V} (h : Arg cfg t a) (hs : isStructT cfg t = true) : ∃ cs, a = .agg cs ∧ Typed cfg t cs := by
  rcases h with ⟨_, h⟩ | ⟨h1, _⟩
  · exact h
  · rw [hs] at h1; cases h1
theorem args_two {t u : TypeId} {as : List V} (h : Args cfg [t, u] as) : ∃ a b, as = [a, b] ∧ Arg cfg t a ∧ Arg cfg u b := by
  cases h with | cons h1 h => cases h with | cons h2 h => cases h with | nil => exact ⟨_, _, rfl, h1, h2⟩
theorem args_three {t u w : TypeId} {as : List V} (h : Args cfg [t, u, w] as) : ∃ a b c, as = [a, b, c] ∧ Arg cfg t a ∧ Arg cfg u b ∧ Arg cfg w c := by
  cases h with | cons h1 h => obtain ⟨b, c, rfl, h2, h3⟩ := args_two h; exact ⟨_, _, _, rfl, h1, h2, h3⟩
theorem args_one {t : TypeId} {as : List V} (h : Args cfg [t] as) : ∃ a, as = [a] ∧ Arg cfg t a := by
  cases h with | cons h1 h => cases h with | nil => exact ⟨_, rfl, h1⟩

/-- A law of plain arguments: true, and all reads as it did. -/
theorem row_lifted {C : Checked} {H : Type} {enc : TypeId × Value → H} {os : Os} {f : FuncId} {fn : Func} {s : ChangeSpec} {tb : TypeId} (dep : Nat)
    (own : ownKnob C.prog.godebug = none) (started : os.Started) (noInit : C.prog.inits.idxOf? f = none) (hfn : C.prog.funcs[f]? = some fn)
    (witness : ∃ (w : World) (tape : Tape) (i : Input), w.os = os ∧ (w.forCall tape i).Shaped C.prog ∧ i.vars = [] ∧ Input.okWide C.prog (w.forCall tape i) .any w.heap.size f i ∧
      s.pre6 enc C.prog fn [] false (w.forCall tape i).memory i.args ∧ ({} : Assume).holds C.prog (lone (Frame.enter C.prog f i.args .normal) [] (w.forCall tape i)))
    (hvars : s.vars = []) (hspec : ∀ ds : List (DataW H), ds.length = fn.params.size → s.fn H ds = { results := [.lit (.bool true)], args := ds })
    (hres : fn.resultTypes = #[tb]) (hb : C.prog.underlying tb = some .bool) (hlaid : laidOutB C.prog = true)
    (hread : (fn.params.toList.all fun t => C.prog.readableRec t && decide (t < C.prog.types.size)) = true)
    (hok : cfg.Ok C.prog) (hplain : (fn.params.toList.all fun t => plainTy cfg dep t) = true)
    (hlaw : ∀ args : List V, Args cfg fn.params.toList args → Ev cfg f args (.bool true)) :
    ReturnsInHanded {} C os f .any (s.pre6 enc C.prog fn [] false) (s.post enc C.prog fn false true false false) := by
  refine returnsInHanded_of_change_sized own started noInit hfn witness ?_
  intro W base args ds gs before hval hW _ hsz _
  have hW' := hW
  obtain ⟨p, q, hA, hV, rfl, hfz, hnd⟩ := hW
  rw [hvars] at hV
  obtain ⟨rfl, rfl⟩ := trodVars_none hV
  have hlen := trodAll_len hA
  simp only [List.append_nil] at hW' hsz
  rw [List.all_eq_true] at hsz
  obtain ⟨as, has, hl, hrel⟩ := args_open hok dep hplain hA (fun j t v h1 h2 => hval j t v (by rw [← Array.getElem?_toList]; exact h1) (by rw [← Array.getElem?_toList]; exact h2)) fun x hx => by
    have := hsz x (by simpa [ChangeSpec.plain, DataSpec.varTypes, hvars] using hx)
    simpa using this
  refine (law_calls hok (hlaw as has) (by simpa using hl.symm) fun j x hx => by have := hrel j x hx; simpa [List.getD_eq_getElem?_getD, Array.getD_eq_getD_getElem?] using this).mono ?_
  rintro e W' ⟨rfl, hB⟩
  have hlt : ∀ x ∈ p, x.block < W.heap.size := fun x hx => by simpa using hW'.lt x hx
  refine ⟨_, rfl, ds, [], p, [], p, [], hW', ?_, ?_, ?_, hB.frame _, fun h => by cases h⟩
  · rw [List.append_nil, hspec ds (by simpa using hlen), hres]
    exact trodAll_mk1 (shut_bool hb true)
  · rw [List.append_nil, hspec ds (by simpa using hlen)]
    exact args_below hlaid hB hread hA hlt
  · rw [List.append_nil, hspec ds (by simpa using hlen), hvars]
    rfl
end Go.Abs
