/- What the interpreter answers given enough fuel: one oracle, that is its own step. -/
import Derived.Test.YtpjolollnhfciaaAbs
set_option linter.all false
namespace Go.Abs
variable {cfg : Cfg} {o o' : Orc}

structure Orc.Le (o o' : Orc) : Prop where
  code : ∀ f r c st x, o.code f r c st = some x → o'.code f r c st = some x
  call : ∀ f a h x, o.call f a h = some x → o'.call f a h = some x
  round : ∀ f a h x, o.round f a h = some x → o'.round f a h = some x

theorem Orc.Le.refl (o : Orc) : o.Le o := ⟨fun _ _ _ _ _ h => h, fun _ _ _ _ h => h, fun _ _ _ _ h => h⟩
theorem Orc.Le.trans {a b c : Orc} (h : a.Le b) (k : b.Le c) : a.Le c :=
  ⟨fun _ _ _ _ _ x => k.code _ _ _ _ _ (h.code _ _ _ _ _ x), fun _ _ _ _ x => k.call _ _ _ _ (h.call _ _ _ _ x), fun _ _ _ _ x => k.round _ _ _ _ (h.round _ _ _ _ x)⟩

theorem evOp_mono (h : o.Le o') {lim : Bool} {op : Oper} {st s : St} (hs : evOp cfg o lim op st = some s) : evOp cfg o' lim op st = some s := by
  obtain ⟨dst, op, ty, pos, after, guard⟩ := op
  cases op <;> simp only [evOp] at hs ⊢ <;> first | exact hs | skip
  case makeFunc fn fi ca => cases fn <;> exact hs
  rename_i c
  obtain ⟨callee, args, types⟩ := c
  cases callee with
  | builtin b => exact hs
  | invoke a b => exact hs
  | value f =>
    simp only at hs ⊢
    split
    · rename_i g cap hf
      simp only [hf] at hs
      split at hs
      · rename_i hl
        rw [if_pos hl]
        split at hs
        · rename_i hp
          rw [if_pos hp]
          split at hs
          · rename_i hc; rw [h.call _ _ _ _ hc]; exact hs
          · cases hs
        · cases hs
      · rename_i hl
        rw [if_neg hl]
        split at hs
        · rename_i hx; rw [if_pos hx]; exact hs
        · rename_i hx
          rw [if_neg hx]
          split at hs
          · rename_i hp
            rw [if_pos hp]
            split at hs
            · rename_i hc; rw [h.call _ _ _ _ hc]; exact hs
            · rename_i v1 own1 hp1 hne hc
              rw [h.call _ _ _ _ hc]
              cases hp1 with
              | nil => exact absurd rfl hne
              | cons _ _ => exact hs
            · cases hs
          · rename_i hp
            rw [if_neg hp]
            split at hs
            · rename_i hcl
              rw [if_pos hcl]
              split at hs
              · rename_i hc; rw [h.call _ _ _ _ hc]; exact hs
              · cases hs
            · cases hs
    · rename_i id hf
      simp only [hf] at hs
      split at hs
      · cases hs
      · rename_i hl
        rw [if_neg hl]
        split at hs
        · rename_i hcl
          rw [if_pos hcl]
          split at hs
          · rename_i hc; rw [h.round _ _ _ _ hc]; exact hs
          · cases hs
        · cases hs
    · rename_i h1 h2
      split at hs
      · rename_i hf; exact absurd hf (h1 _ _)
      · rename_i hf; exact absurd hf (h2 _)
      · cases hs

theorem evOps_mono (h : o.Le o') {lim : Nat → Bool} {ops : List Oper} : ∀ (l : List Nat) {st s : St}, evOps cfg o lim ops l st = some s → evOps cfg o' lim ops l st = some s
  | [], st, s, hs => by simpa [evOps] using hs
  | i :: l, st, s, hs => by
    simp only [evOps] at hs ⊢
    split at hs
    · cases hs
    · rename_i op hop
      (try simp only [hop])
      split at hs
      · cases hs
      · rename_i hw; (try simp only [hw]); exact evOps_mono h l hs
      · rename_i hw
        (try simp only [hw])
        split at hs
        · cases hs
        · rename_i st' he; rw [evOp_mono h he]; exact evOps_mono h l hs

theorem limV_mono (h : o.Le o') {hole : Nat} {op : Oper} {fr : List V} {hp : List Blk} {v : V} (hs : limV cfg o hole op fr hp = some v) : limV cfg o' hole op fr hp = some v := by
  obtain ⟨dst, op, ty, pos, after, guard⟩ := op
  cases op <;> simp only [limV] at hs ⊢ <;> first | exact hs | skip
  case makeFunc fn fi ca => cases fn <;> exact hs
  rename_i c
  obtain ⟨callee, args, types⟩ := c
  cases callee with
  | builtin b => exact hs
  | invoke a b => exact hs
  | value f =>
    simp only at hs ⊢
    split
    · rename_i g cap hf
      simp only [hf] at hs
      split at hs
      · rename_i hp
        rw [if_pos hp]
        split at hs
        · rename_i hc; rw [h.call _ _ _ _ hc]; exact hs
        · cases hs
      · cases hs
    · rename_i h1
      split at hs
      · rename_i hf; exact absurd hf (h1 _ _)
      · cases hs

theorem evD_mono (h : o.Le o') {n0 : Nat} {ops : List Oper} {info : List (Bool × List Nat)} {i : Nat} {s s' : DS} (hs : evD cfg o n0 ops info i s = some s') : evD cfg o' n0 ops info i s = some s' := by
  unfold evD at hs ⊢
  split at hs
  · rename_i op lim cont ho hi
    (try simp only [ho, hi])
    split at hs
    · cases hs
    · rename_i hw; (try simp only [hw]); exact hs
    · rename_i hw
      (try simp only [hw])
      split at hs
      · rename_i hl
        rw [if_pos hl]
        split at hs
        · cases hs
        · rename_i hv; rw [limV_mono h hv]; exact hs
      · rename_i hl
        rw [if_neg hl]
        split at hs
        · cases hs
        · rename_i hv; rw [evOp_mono h hv]; exact hs
  · cases hs

theorem evDs_mono (h : o.Le o') {n0 : Nat} {ops : List Oper} {info : List (Bool × List Nat)} : ∀ (l : List Nat) {s s' : DS}, evDs cfg o n0 ops info l s = some s' → evDs cfg o' n0 ops info l s = some s'
  | [], s, s', hs => by simpa [evDs] using hs
  | i :: l, s, s', hs => by
    simp only [evDs] at hs ⊢
    split at hs
    · cases hs
    · rename_i hd; rw [evD_mono h hd]; exact evDs_mono h l hs

theorem evDraw_mono (h : o.Le o') {ops : List Oper} {info : List (Bool × List Nat)} {st s : St} (hs : evDraw cfg o ops info st = some s) : evDraw cfg o' ops info st = some s := by
  unfold evDraw at hs ⊢
  obtain ⟨d, hd, rfl⟩ := Option.map_eq_some_iff.1 hs
  rw [evDs_mono h _ hd]; rfl

theorem step_mono (h : o.Le o') : (step cfg o).Le (step cfg o') where
  code f r c st x hs := by
    cases c with
    | seq a b =>
      simp only [step] at hs ⊢
      split at hs
      · rename_i hc; rw [h.code _ _ _ _ _ hc]; exact h.code _ _ _ _ _ hs
      · rename_i hn
        rw [h.code _ _ _ _ _ hs]
        split
        · rename_i he; cases he; exact absurd hs (hn _)
        · rfl
    | cond c a b =>
      simp only [step] at hs ⊢
      split at hs
      · rename_i hc; (try simp only [hc]); exact h.code _ _ _ _ _ hs
      · rename_i hc; (try simp only [hc]); exact h.code _ _ _ _ _ hs
      · cases hs
    | block id b =>
      simp only [step] at hs ⊢
      split at hs
      · rename_i hc; rw [h.code _ _ _ _ _ hc]; exact hs
      · rename_i hn
        rw [h.code _ _ _ _ _ hs]
        split
        · rename_i he; cases he; exact absurd hs (hn _ _)
        · rfl
    | loop b =>
      simp only [step] at hs ⊢
      split at hs
      · rename_i hc; rw [h.code _ _ _ _ _ hc]; exact h.code _ _ _ _ _ hs
      · rename_i hn
        rw [h.code _ _ _ _ _ hs]
        split
        · rename_i he; cases he; exact absurd hs (hn _)
        · rfl
    | region id ops draw =>
      simp only [step] at hs ⊢
      split at hs
      · rename_i hd
        rw [if_pos hd]
        obtain ⟨s, hs1, rfl⟩ := Option.map_eq_some_iff.1 hs
        rw [evDraw_mono h hs1]; rfl
      · rename_i hd
        rw [if_neg hd]
        obtain ⟨s, hs1, rfl⟩ := Option.map_eq_some_iff.1 hs
        rw [evOps_mono h _ hs1]; rfl
    | scope b => simp only [step] at hs ⊢; exact h.code _ _ _ _ _ hs
    | rangeFunc g ps a b =>
      simp only [step] at hs ⊢
      split
      · rename_i gf cap hg
        simp only [hg] at hs
        split at hs
        · rename_i hcl
          rw [if_pos hcl]
          split at hs
          · rename_i hc; rw [h.call _ _ _ _ hc]; exact hs
          · cases hs
        · cases hs
      · rename_i hg
        split at hs
        · rename_i hf; exact absurd hf (hg _ _)
        · cases hs
    | _ => exact hs
  call f a hp x hs := by
    simp only [step] at hs ⊢
    split at hs
    · cases hs
    · rename_i fn hfn
      (try simp only [hfn])
      split at hs
      · cases hs
      · rename_i c hb
        (try simp only [hb])
        split at hs
        · cases hs
        · cases hs
        · rename_i e st2 hne hc
          rw [h.code _ _ _ _ _ hc]
          cases e with
          | exit i => exact absurd rfl (hne i)
          | normal => exact hs
          | ret => exact hs
  round id a hp x hs := by
    simp only [step] at hs ⊢
    split at hs
    · rename_i hl
      split at hs
      · rename_i hcond
        rw [if_pos hcond]
        split at hs
        · rename_i hc
          rw [h.code _ _ _ _ _ hc]
          simp only
          split at hs
          · rename_i hl1
            split at hs
            · rename_i hr1
              rw [if_pos hr1]
              split at hs
              · rename_i hc2
                rw [h.code _ _ _ _ _ hc2]
                exact hs
              · cases hs
            · cases hs
          · cases hs
        · cases hs
      · cases hs
    · cases hs

theorem run_mono : ∀ {k j : Nat}, k ≤ j → (run cfg k).Le (run cfg j)
  | 0, j, _ => ⟨fun f r c st x h => by simp [run] at h, fun f a hp x h => by simp [run] at h, fun f a hp x h => by simp [run] at h⟩
  | k + 1, j, hj => by
    obtain ⟨j, rfl⟩ : ∃ i, j = i + 1 := ⟨j - 1, by omega⟩
    exact step_mono (run_mono (Nat.le_of_succ_le_succ hj))

/-! ### The limit -/
open Classical in
noncomputable def limOf {α : Type} (u : Nat → Option α) : Option α := if h : ∃ k, (u k).isSome then u (Classical.choose h) else none

theorem limOf_iff {α : Type} {u : Nat → Option α} (hu : ∀ k j x, k ≤ j → u k = some x → u j = some x) {x : α} : limOf u = some x ↔ ∃ k, u k = some x := by
  unfold limOf
  constructor
  · intro h
    split at h
    · exact ⟨_, h⟩
    · cases h
  · rintro ⟨k, hk⟩
    have h : ∃ k, (u k).isSome := ⟨k, by rw [hk]; rfl⟩
    rw [dif_pos h]
    obtain ⟨y, hy⟩ := Option.isSome_iff_exists.1 (Classical.choose_spec h)
    rw [hy]
    have h1 := hu _ (max k (Classical.choose h)) _ (Nat.le_max_left _ _) hk
    have h2 := hu _ (max k (Classical.choose h)) _ (Nat.le_max_right _ _) hy
    rw [h1] at h2
    exact h2.symm

noncomputable def Lim (cfg : Cfg) : Orc where
  code f r c st := limOf fun k => (run cfg k).code f r c st
  call f a hp := limOf fun k => (run cfg k).call f a hp
  round f a hp := limOf fun k => (run cfg k).round f a hp

theorem lim_code_iff {f : FuncId} {r : Option Nat} {c : Code} {st : St} {x : Ex × St} : (Lim cfg).code f r c st = some x ↔ ∃ k, (run cfg k).code f r c st = some x :=
  limOf_iff fun _ _ _ hkj h => (run_mono hkj).code _ _ _ _ _ h
theorem lim_call_iff {f : FuncId} {a : List V} {hp : List Blk} {x : V × Bool × List Blk} : (Lim cfg).call f a hp = some x ↔ ∃ k, (run cfg k).call f a hp = some x :=
  limOf_iff fun _ _ _ hkj h => (run_mono hkj).call _ _ _ _ h
theorem lim_round_iff {f : Nat} {a : List V} {hp : List Blk} {x : Bool × List Blk} : (Lim cfg).round f a hp = some x ↔ ∃ k, (run cfg k).round f a hp = some x :=
  limOf_iff fun _ _ _ hkj h => (run_mono hkj).round _ _ _ _ h

theorem run_le_lim (k : Nat) : (run cfg k).Le (Lim cfg) := ⟨fun _ _ _ _ _ h => lim_code_iff.2 ⟨k, h⟩, fun _ _ _ _ h => lim_call_iff.2 ⟨k, h⟩, fun _ _ _ _ h => lim_round_iff.2 ⟨k, h⟩⟩

theorem fin_code {f : FuncId} {r : Option Nat} {c : Code} {st : St} {x : Ex × St} (h : (Lim cfg).code f r c st = some x) : ∃ k, ∀ j, k ≤ j → (run cfg j).code f r c st = some x := by
  obtain ⟨k, hk⟩ := lim_code_iff.1 h
  exact ⟨k, fun j hj => (run_mono hj).code _ _ _ _ _ hk⟩
theorem fin_call {f : FuncId} {a : List V} {hp : List Blk} {x : V × Bool × List Blk} (h : (Lim cfg).call f a hp = some x) : ∃ k, ∀ j, k ≤ j → (run cfg j).call f a hp = some x := by
  obtain ⟨k, hk⟩ := lim_call_iff.1 h
  exact ⟨k, fun j hj => (run_mono hj).call _ _ _ _ hk⟩
theorem fin_round {f : Nat} {a : List V} {hp : List Blk} {x : Bool × List Blk} (h : (Lim cfg).round f a hp = some x) : ∃ k, ∀ j, k ≤ j → (run cfg j).round f a hp = some x := by
  obtain ⟨k, hk⟩ := lim_round_iff.1 h
  exact ⟨k, fun j hj => (run_mono hj).round _ _ _ _ hk⟩

theorem evOp_fin {lim : Bool} {op : Oper} {st s : St} (hs : evOp cfg (Lim cfg) lim op st = some s) : ∃ k, ∀ j, k ≤ j → evOp cfg (run cfg j) lim op st = some s := by
  obtain ⟨dst, op, ty, pos, after, guard⟩ := op
  cases op <;> simp only [evOp] at hs ⊢ <;> first | exact ⟨0, fun _ _ => hs⟩ | skip
  case makeFunc fn fi ca => cases fn <;> exact ⟨0, fun _ _ => hs⟩
  rename_i c
  obtain ⟨callee, args, types⟩ := c
  cases callee with
  | builtin b => exact ⟨0, fun _ _ => hs⟩
  | invoke a b => exact ⟨0, fun _ _ => hs⟩
  | value f =>
    simp only at hs ⊢
    split
    · rename_i g cap hf
      simp only [hf] at hs
      split at hs
      · rename_i hl
        simp only [if_pos hl]
        split at hs
        · rename_i hp
          simp only [if_pos hp]
          split at hs
          · rename_i hc
            obtain ⟨k, hk⟩ := fin_call hc
            exact ⟨k, fun j hj => by rw [hk j hj]; exact hs⟩
          · cases hs
        · cases hs
      · rename_i hl
        simp only [if_neg hl]
        split at hs
        · rename_i hx; simp only [if_pos hx]; exact ⟨0, fun _ _ => hs⟩
        · rename_i hx
          simp only [if_neg hx]
          split at hs
          · rename_i hp
            simp only [if_pos hp]
            split at hs
            · rename_i hc
              obtain ⟨k, hk⟩ := fin_call hc
              exact ⟨k, fun j hj => by rw [hk j hj]; exact hs⟩
            · rename_i v1 own1 hp1 hne hc
              obtain ⟨k, hk⟩ := fin_call hc
              refine ⟨k, fun j hj => ?_⟩
              rw [hk j hj]
              cases hp1 with
              | nil => exact absurd rfl hne
              | cons _ _ => exact hs
            · cases hs
          · rename_i hp
            simp only [if_neg hp]
            split at hs
            · rename_i hcl
              simp only [if_pos hcl]
              split at hs
              · rename_i hc
                obtain ⟨k, hk⟩ := fin_call hc
                exact ⟨k, fun j hj => by rw [hk j hj]; exact hs⟩
              · cases hs
            · cases hs
    · rename_i id hf
      simp only [hf] at hs
      split at hs
      · cases hs
      · rename_i hl
        simp only [if_neg hl]
        split at hs
        · rename_i hcl
          simp only [if_pos hcl]
          split at hs
          · rename_i hc
            obtain ⟨k, hk⟩ := fin_round hc
            exact ⟨k, fun j hj => by rw [hk j hj]; exact hs⟩
          · cases hs
        · cases hs
    · rename_i h1 h2
      split at hs
      · rename_i hf; exact absurd hf (h1 _ _)
      · rename_i hf; exact absurd hf (h2 _)
      · cases hs

theorem evOps_fin {lim : Nat → Bool} {ops : List Oper} : ∀ (l : List Nat) {st s : St}, evOps cfg (Lim cfg) lim ops l st = some s → ∃ k, ∀ j, k ≤ j → evOps cfg (run cfg j) lim ops l st = some s
  | [], st, s, hs => ⟨0, fun _ _ => by simpa [evOps] using hs⟩
  | i :: l, st, s, hs => by
    simp only [evOps] at hs ⊢
    split at hs
    · cases hs
    · rename_i op hop
      (try simp only [hop])
      split at hs
      · cases hs
      · rename_i hw; (try simp only [hw]); exact evOps_fin l hs
      · rename_i hw
        (try simp only [hw])
        split at hs
        · cases hs
        · rename_i st' he
          obtain ⟨k1, h1⟩ := evOp_fin he
          obtain ⟨k2, h2⟩ := evOps_fin l hs
          exact ⟨max k1 k2, fun j hj => by rw [h1 j (by omega)]; exact h2 j (by omega)⟩

theorem limV_fin {hole : Nat} {op : Oper} {fr : List V} {hp : List Blk} {v : V} (hs : limV cfg (Lim cfg) hole op fr hp = some v) : ∃ k, ∀ j, k ≤ j → limV cfg (run cfg j) hole op fr hp = some v := by
  obtain ⟨dst, op, ty, pos, after, guard⟩ := op
  cases op <;> simp only [limV] at hs ⊢ <;> first | exact ⟨0, fun _ _ => hs⟩ | skip
  case makeFunc fn fi ca => cases fn <;> exact ⟨0, fun _ _ => hs⟩
  rename_i c
  obtain ⟨callee, args, types⟩ := c
  cases callee with
  | builtin b => exact ⟨0, fun _ _ => hs⟩
  | invoke a b => exact ⟨0, fun _ _ => hs⟩
  | value f =>
    simp only at hs ⊢
    split
    · rename_i g cap hf
      simp only [hf] at hs
      split at hs
      · rename_i hp
        simp only [if_pos hp]
        split at hs
        · rename_i hc
          obtain ⟨k, hk⟩ := fin_call hc
          exact ⟨k, fun j hj => by rw [hk j hj]; exact hs⟩
        · cases hs
      · cases hs
    · rename_i h1
      split at hs
      · rename_i hf; exact absurd hf (h1 _ _)
      · cases hs

theorem evD_fin {n0 : Nat} {ops : List Oper} {info : List (Bool × List Nat)} {i : Nat} {s s' : DS} (hs : evD cfg (Lim cfg) n0 ops info i s = some s') : ∃ k, ∀ j, k ≤ j → evD cfg (run cfg j) n0 ops info i s = some s' := by
  unfold evD at hs ⊢
  split at hs
  · rename_i op lim cont ho hi
    (try simp only [ho, hi])
    split at hs
    · cases hs
    · rename_i hw; (try simp only [hw]); exact ⟨0, fun _ _ => hs⟩
    · rename_i hw
      (try simp only [hw])
      split at hs
      · rename_i hl
        simp only [if_pos hl]
        split at hs
        · cases hs
        · rename_i hv
          obtain ⟨k, hk⟩ := limV_fin hv
          exact ⟨k, fun j hj => by rw [hk j hj]; exact hs⟩
      · rename_i hl
        simp only [if_neg hl]
        split at hs
        · cases hs
        · rename_i hv
          obtain ⟨k, hk⟩ := evOp_fin hv
          exact ⟨k, fun j hj => by rw [hk j hj]; exact hs⟩
  · cases hs

theorem evDs_fin {n0 : Nat} {ops : List Oper} {info : List (Bool × List Nat)} : ∀ (l : List Nat) {s s' : DS}, evDs cfg (Lim cfg) n0 ops info l s = some s' → ∃ k, ∀ j, k ≤ j → evDs cfg (run cfg j) n0 ops info l s = some s'
  | [], s, s', hs => ⟨0, fun _ _ => by simpa [evDs] using hs⟩
  | i :: l, s, s', hs => by
    simp only [evDs] at hs ⊢
    split at hs
    · cases hs
    · rename_i hd
      obtain ⟨k1, h1⟩ := evD_fin hd
      obtain ⟨k2, h2⟩ := evDs_fin l hs
      exact ⟨max k1 k2, fun j hj => by rw [h1 j (by omega)]; exact h2 j (by omega)⟩

theorem evDraw_fin {ops : List Oper} {info : List (Bool × List Nat)} {st s : St} (hs : evDraw cfg (Lim cfg) ops info st = some s) : ∃ k, ∀ j, k ≤ j → evDraw cfg (run cfg j) ops info st = some s := by
  unfold evDraw at hs ⊢
  obtain ⟨d, hd, rfl⟩ := Option.map_eq_some_iff.1 hs
  obtain ⟨k, hk⟩ := evDs_fin _ hd
  exact ⟨k, fun j hj => by rw [hk j hj]; rfl⟩

theorem step_code_fin {f : FuncId} {r : Option Nat} {c : Code} {st : St} {x : Ex × St} (hs : (step cfg (Lim cfg)).code f r c st = some x) : ∃ k, (step cfg (run cfg k)).code f r c st = some x := by
  cases c with
  | seq a b =>
    simp only [step] at hs ⊢
    split at hs
    · rename_i hc
      obtain ⟨k1, h1⟩ := fin_code hc
      obtain ⟨k2, h2⟩ := fin_code hs
      exact ⟨max k1 k2, by rw [h1 _ (Nat.le_max_left _ _)]; exact h2 _ (Nat.le_max_right _ _)⟩
    · rename_i hn
      obtain ⟨k, hk⟩ := fin_code hs
      refine ⟨k, ?_⟩
      rw [hk k (Nat.le_refl _)]
      split
      · rename_i he; cases he; exact absurd hs (hn _)
      · rfl
  | cond c a b =>
    simp only [step] at hs ⊢
    split at hs
    · rename_i hc; (try simp only [hc]); exact lim_code_iff.1 hs
    · rename_i hc; (try simp only [hc]); exact lim_code_iff.1 hs
    · cases hs
  | block id b =>
    simp only [step] at hs ⊢
    split at hs
    · rename_i hc
      obtain ⟨k, hk⟩ := fin_code hc
      exact ⟨k, by rw [hk k (Nat.le_refl _)]; exact hs⟩
    · rename_i hn
      obtain ⟨k, hk⟩ := fin_code hs
      refine ⟨k, ?_⟩
      rw [hk k (Nat.le_refl _)]
      split
      · rename_i he; cases he; exact absurd hs (hn _ _)
      · rfl
  | loop b =>
    simp only [step] at hs ⊢
    split at hs
    · rename_i hc
      obtain ⟨k1, h1⟩ := fin_code hc
      obtain ⟨k2, h2⟩ := fin_code hs
      exact ⟨max k1 k2, by rw [h1 _ (Nat.le_max_left _ _)]; exact h2 _ (Nat.le_max_right _ _)⟩
    · rename_i hn
      obtain ⟨k, hk⟩ := fin_code hs
      refine ⟨k, ?_⟩
      rw [hk k (Nat.le_refl _)]
      split
      · rename_i he; cases he; exact absurd hs (hn _)
      · rfl
  | region id ops draw =>
    simp only [step] at hs ⊢
    split at hs
    · rename_i hd
      simp only [if_pos hd]
      obtain ⟨s, hs1, rfl⟩ := Option.map_eq_some_iff.1 hs
      obtain ⟨k, hk⟩ := evDraw_fin hs1
      exact ⟨k, by rw [hk k (Nat.le_refl _)]; rfl⟩
    · rename_i hd
      simp only [if_neg hd]
      obtain ⟨s, hs1, rfl⟩ := Option.map_eq_some_iff.1 hs
      obtain ⟨k, hk⟩ := evOps_fin _ hs1
      exact ⟨k, by rw [hk k (Nat.le_refl _)]; rfl⟩
  | scope b => simp only [step] at hs ⊢; exact lim_code_iff.1 hs
  | rangeFunc g ps a b =>
    simp only [step] at hs ⊢
    split
    · rename_i gf cap hg
      simp only [hg] at hs
      split at hs
      · rename_i hcl
        simp only [if_pos hcl]
        split at hs
        · rename_i hc
          obtain ⟨k, hk⟩ := fin_call hc
          exact ⟨k, by rw [hk k (Nat.le_refl _)]; exact hs⟩
        · cases hs
      · cases hs
    · rename_i hg
      split at hs
      · rename_i hf; exact absurd hf (hg _ _)
      · cases hs
  | _ => exact ⟨0, hs⟩

theorem step_call_fin {f : FuncId} {a : List V} {hp : List Blk} {x : V × Bool × List Blk} (hs : (step cfg (Lim cfg)).call f a hp = some x) : ∃ k, (step cfg (run cfg k)).call f a hp = some x := by
  simp only [step] at hs ⊢
  split at hs
  · cases hs
  · rename_i fn hfn
    (try simp only [hfn])
    split at hs
    · cases hs
    · rename_i c hb
      (try simp only [hb])
      split at hs
      · cases hs
      · cases hs
      · rename_i e st2 hne hc
        obtain ⟨k, hk⟩ := fin_code hc
        refine ⟨k, ?_⟩
        rw [hk k (Nat.le_refl _)]
        cases e with
        | exit i => exact absurd rfl (hne i)
        | normal => exact hs
        | ret => exact hs

theorem step_round_fin {id : Nat} {a : List V} {hp : List Blk} {x : Bool × List Blk} (hs : (step cfg (Lim cfg)).round id a hp = some x) : ∃ k, (step cfg (run cfg k)).round id a hp = some x := by
  simp only [step] at hs ⊢
  split at hs
  · rename_i hl
    split at hs
    · rename_i hcond
      simp only [if_pos hcond]
      split at hs
      · rename_i hc
        split at hs
        · rename_i hl1
          split at hs
          · rename_i hr1
            split at hs
            · rename_i hc2
              obtain ⟨k1, h1⟩ := fin_code hc
              obtain ⟨k2, h2⟩ := fin_code hc2
              refine ⟨max k1 k2, ?_⟩
              rw [h1 _ (Nat.le_max_left _ _)]
              simp only [hl1, if_pos hr1]
              rw [h2 _ (Nat.le_max_right _ _)]
              exact hs
            · cases hs
          · cases hs
        · cases hs
      · cases hs
    · cases hs
  · cases hs

theorem lim_code (f : FuncId) (r : Option Nat) (c : Code) (st : St) : (Lim cfg).code f r c st = (step cfg (Lim cfg)).code f r c st := by
  apply Option.ext
  intro x
  constructor
  · intro h
    obtain ⟨k, hk⟩ := lim_code_iff.1 h
    cases k with
    | zero => simp [run] at hk
    | succ k => exact (step_mono (run_le_lim k)).code _ _ _ _ _ hk
  · intro h
    obtain ⟨k, hk⟩ := step_code_fin h
    exact lim_code_iff.2 ⟨k + 1, hk⟩
theorem lim_call (f : FuncId) (a : List V) (hp : List Blk) : (Lim cfg).call f a hp = (step cfg (Lim cfg)).call f a hp := by
  apply Option.ext
  intro x
  constructor
  · intro h
    obtain ⟨k, hk⟩ := lim_call_iff.1 h
    cases k with
    | zero => simp [run] at hk
    | succ k => exact (step_mono (run_le_lim k)).call _ _ _ _ hk
  · intro h
    obtain ⟨k, hk⟩ := step_call_fin h
    exact lim_call_iff.2 ⟨k + 1, hk⟩
theorem lim_round (f : Nat) (a : List V) (hp : List Blk) : (Lim cfg).round f a hp = (step cfg (Lim cfg)).round f a hp := by
  apply Option.ext
  intro x
  constructor
  · intro h
    obtain ⟨k, hk⟩ := lim_round_iff.1 h
    cases k with
    | zero => simp [run] at hk
    | succ k => exact (step_mono (run_le_lim k)).round _ _ _ _ hk
  · intro h
    obtain ⟨k, hk⟩ := step_round_fin h
    exact lim_round_iff.2 ⟨k + 1, hk⟩

theorem ev_of_lim {f : FuncId} {args : List V} {v : V} {own : Bool} {hp : List Blk} (h : (Lim cfg).call f args [] = some (v, own, hp)) : Ev cfg f args v := by
  obtain ⟨k, hk⟩ := lim_call_iff.1 h
  exact ⟨k, own, hp, hk⟩

end Go.Abs
