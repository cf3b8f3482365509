/- Operations one beside the other: what a light one gives, and that another one does not notice it. -/
import Derived.Test.YtpjolollnhfciaaAbsOps10
set_option linter.all false
namespace Go.Abs
open Go.Lib
variable [BT] {cfg : Cfg} {orc : Orc} {st st' : St} {o : Oper}

theorem evOp_lim (hole : Nat) (hna : ∀ t, o.op ≠ .alloc t) : evOp cfg orc true o st = (limV cfg orc hole o st.fr st.hp).map fun v => st.put o.dst v := by
  obtain ⟨dst, op, ty, pos, after, guard⟩ := o
  cases op <;> simp only [evOp, limV, Option.map_none, Option.map_some, Bool.not_true, Bool.and_false, Bool.false_and, Bool.false_eq_true, if_false, if_true, Bool.true_or] at hna ⊢
  case move x => cases x <;> rfl
  case assign x =>
    cases x with
    | const v => cases v <;> try rfl
                 rename_i b n c
                 cases b <;> cases n <;> cases c <;> rfl
    | _ => rfl
  case pick c a b => split <;> rfl
  case alloc t => exact absurd rfl (hna t)
  case build t parts => split <;> rfl
  case nilCheck x => split <;> rfl
  case makeFunc fn first cap => cases fn <;> simp only [Option.map_none] <;> split <;> rfl
  case extract x i =>
    split
    · split <;> rename_i h <;> simp [h]
    · rfl
  case call c =>
    obtain ⟨callee, args, types⟩ := c
    cases callee with
    | invoke r nm => rfl
    | builtin b =>
      simp only
      generalize args.toList = al
      generalize types.toList = tl
      cases b <;> simp only [isAppend, builtinOp, Bool.true_and, Bool.false_eq_true, if_true, if_false, Option.map_none] <;> (try rfl) <;>
        rcases al with _ | ⟨x, _ | ⟨y, al⟩⟩ <;> rcases tl with _ | ⟨t, tl⟩ <;> first | rfl | simp [builtinOp]
    | value f =>
      simp only
      split
      · rename_i hfn
        simp only [hfn]
        split
        · split
          · rename_i h; simp [h]
          · rename_i h
            rcases hc : orc.call _ _ [] with _ | ⟨v, own, _ | ⟨b, r⟩⟩
            · rfl
            · exact absurd hc (h _ _)
            · rfl
        · rfl
      · rename_i hfn; simp only [hfn]; rfl
      · rename_i hfn _
        split
        · rename_i hf2; exact absurd hf2 (hfn _ _)
        · rfl

theorem ev_fr {fr fr' : List V} {d : Tmp} (h : ∀ t, t ≠ d → fr.getD t .any = fr'.getD t .any) {x : Operand} (hx : x ≠ .tmp d) : ev fr x = ev fr' x := by
  cases x with
  | tmp t => exact h t fun e => hx (by rw [e])
  | _ => rfl

theorem limV_fr {hole : Nat} {fr fr' : List V} {hp : List Blk} (h : ∀ x ∈ o.op.operands, ev fr x = ev fr' x) : limV cfg orc hole o fr hp = limV cfg orc hole o fr' hp := by
  obtain ⟨dst, op, ty, pos, after, guard⟩ := o
  have pairs : ∀ ps : Array (Nat × Operand), (∀ x ∈ (ps.toList.map (·.2)).toArray, ev fr x = ev fr' x) → (ps.toList.map fun (p : Nat × Operand) => (p.1, ev fr p.2)) = ps.toList.map fun (p : Nat × Operand) => (p.1, ev fr' p.2) := fun ps hp =>
    List.map_congr_left fun p hm => by rw [hp p.2 (by simp only [List.mem_toArray]; exact List.mem_map.2 ⟨p, hm, rfl⟩)]
  have lst : ∀ ps : List Operand, (∀ x ∈ ps, ev fr x = ev fr' x) → ps.map (ev fr) = ps.map (ev fr') := fun ps hp => List.map_congr_left hp
  cases op <;> simp only [Op.operands] at h <;> simp only [limV]
  case build t ps => rw [pairs ps h]
  case buildSlice t n ps => rw [pairs ps h]
  case makeFunc fn first cap =>
    cases fn <;> simp only
    rw [lst cap.toList fun x hx => h x (by simp at hx ⊢; exact .inr hx)]
  case slice t x lo hi mx => cases lo <;> cases hi <;> cases mx <;> simp_all
  case call c =>
    obtain ⟨callee, args, types⟩ := c
    simp only [Call.operands] at h
    have ha : args.toList.map (ev fr) = args.toList.map (ev fr') := lst _ fun x hx => h x (by simp at hx ⊢; cases callee <;> simp [hx])
    cases callee with
    | invoke r nm => rfl
    | builtin b =>
      simp only
      have hx : ∀ x ∈ args.toList, ev fr x = ev fr' x := fun x hx => h x (by simp at hx ⊢; simp [hx])
      generalize args.toList = al at hx ha
      split
      · rw [hx _ (by simp)]
      · rw [ha]
      · rw [ha]
      · rfl
    | value f =>
      simp only
      rw [ha, h f (by simp)]
  all_goals first | rfl | (simp_all; done)

theorem limAt_fr {hole : Nat} {fr fr' : List V} (h : ∀ x ∈ o.op.operands, ev fr x = ev fr' x) : limAt hole o fr = limAt hole o fr' := by
  unfold limAt
  cases ho : o.op <;> simp only
  rename_i t p
  rw [h p (by rw [ho]; simp [Op.operands])]

theorem limV_hp {hole : Nat} {fr : List V} {hp hp' : List Blk} (h : ∀ id ∈ limAt hole o fr, hp[id]? = hp'[id]?) : limV cfg orc hole o fr hp = limV cfg orc hole o fr hp' := by
  unfold limAt at h
  obtain ⟨dst, op, ty, pos, after, guard⟩ := o
  cases op <;> simp only [limV] at h ⊢
  case makeFunc fn first cap => cases fn <;> rfl
  · rw [h hole (by simp)]
  · unfold loadV
    split at h
    · rename_i hev; rw [hev]; simp only; rw [h _ (by simp)]
    · rename_i hne
      split
      · rfl
      · split
        · rfl
        · rename_i hev; exact absurd hev (hne _ _)
        · rfl

/-! ### A slot that another operation does not look at -/
theorem put_fr (st : St) (d : Option Tmp) (v : V) (t : Tmp) (h : d ≠ some t) : (st.put d v).fr.getD t .any = st.fr.getD t .any := by
  cases d with
  | none => rfl
  | some d =>
    simp only [St.put, List.getD_eq_getElem?_getD]
    rw [List.getElem?_set_ne (fun e => h (by rw [e]))]

theorem ev_put {d : Option Tmp} {v : V} {x : Operand} (h : ∀ t, d = some t → x ≠ .tmp t) : ev (st.put d v).fr x = ev st.fr x := by
  cases x with
  | tmp t => exact put_fr st d v t fun e => h t e rfl
  | _ => rfl

theorem put_comm {d e : Option Tmp} {v w : V} (h : ∀ t, d = some t → e ≠ some t) : (st.put d v).put e w = (st.put e w).put d v := by
  cases d with
  | none => rfl
  | some d =>
    cases e with
    | none => rfl
    | some e =>
      have hne : d ≠ e := fun he => h d rfl (by rw [he])
      simp only [St.put, St.mk.injEq]
      refine ⟨List.set_comm _ _ hne, ?_, trivial, ?_, trivial⟩
      · simp only [List.filter_filter]; congr 1; funext x; exact Bool.and_comm _ _
      · simp only [List.filter_filter]; congr 1; funext x; exact Bool.and_comm _ _

theorem owns_comm {d e : Option Tmp} {v : V} {b : Bool} (h : ∀ t, d = some t → e ≠ some t) : (st.put d v).owns e b = (st.owns e b).put d v := by
  cases d with
  | none => cases e <;> rfl
  | some d =>
    cases e with
    | none => rfl
    | some e =>
      have hne : e ≠ d := fun he => h d rfl (by rw [he])
      cases b
      · rfl
      · simp only [St.put, St.owns, if_true, St.mk.injEq, and_true, true_and]
        rw [List.filter_cons_of_pos (by simpa using hne)]

theorem putOwn_comm {d e : Option Tmp} {v w : V} {b : Bool} (h : ∀ t, d = some t → e ≠ some t) : (st.put d v).putOwn e w b = (st.putOwn e w b).put d v := by
  unfold St.putOwn
  rw [put_comm h, owns_comm h]

theorem alias_comm {d e : Option Tmp} {v : V} {ow : Option Owner} (h : ∀ t, d = some t → e ≠ some t) (h2 : ∀ t, d = some t → ow ≠ some (.tmp t)) : (st.put d v).alias e ow = (st.alias e ow).put d v := by
  cases d with
  | none => cases e <;> cases ow <;> rfl
  | some d =>
    cases e with
    | none => rfl
    | some e =>
      cases ow with
      | none => rfl
      | some ow =>
        have hne : e ≠ d := fun he => h d rfl (by rw [he])
        have hne2 : ow ≠ .tmp d := fun he => h2 d rfl (by rw [he])
        simp only [St.put, St.alias, St.mk.injEq, and_true, true_and]
        rw [List.filter_cons_of_pos (by simp [hne, hne2])]

theorem dropOwn_comm {d : Option Tmp} {v : V} {ow : Owner} : dropOwn (st.put d v) ow = (dropOwn st ow).put d v := by
  cases d with
  | none => rfl
  | some d =>
    cases ow with
    | tmp t =>
      simp only [dropOwn, St.put, St.mk.injEq, and_true, true_and]
      simp only [List.filter_filter]; congr 1; funext x; exact Bool.and_comm _ _
    | cell id off =>
      simp only [dropOwn, St.put]
      split <;> rfl
    | base id off => rfl

theorem own_put {d : Option Tmp} {v : V} {u : Tmp} (h : ∀ t, d = some t → u ≠ t) : (st.put d v).own.contains u = st.own.contains u := by
  cases d with
  | none => rfl
  | some d =>
    have := h d rfl
    rw [Bool.eq_iff_iff]
    simp [St.put, this]

theorem findAlias_filter {u d : Tmp} (hu : u ≠ d) : ∀ {l : List (Tmp × Owner)}, (∀ p ∈ l, p.2 ≠ .tmp d) → findAlias u (l.filter fun p => p.1 != d && p.2 != .tmp d) = findAlias u l
  | [], _ => rfl
  | (x, o) :: r, h => by
    have ih := findAlias_filter hu (l := r) fun p hp => h p (List.mem_cons_of_mem _ hp)
    have ho : o ≠ .tmp d := h (x, o) List.mem_cons_self
    by_cases hx : x = d
    · subst hx
      rw [List.filter_cons_of_neg (by simp), ih]
      simp only [findAlias]
      rw [if_neg (fun e => hu e.symm)]
    · rw [List.filter_cons_of_pos (by simp [hx, ho])]
      simp only [findAlias, ih]

/-- What no alias leads to. -/
def NoAl (st : St) (d : Option Tmp) : Prop := ∀ t, d = some t → ∀ p ∈ st.al, p.2 ≠ .tmp t

theorem ownerOf_put {d : Option Tmp} {v : V} {u : Tmp} (h : ∀ t, d = some t → u ≠ t) (ha : NoAl st d) : ownerOf (st.put d v) u = ownerOf st u := by
  unfold ownerOf
  rw [own_put h]
  split
  · rfl
  · cases d with
    | none => rfl
    | some d =>
      have e : findAlias u (st.put (some d) v).al = findAlias u st.al := findAlias_filter (h d rfl) (ha d rfl)
      rw [e]
      cases hf : findAlias u st.al with
      | none => rfl
      | some ow =>
        simp only
        have hne : ow ≠ .tmp d := by
          have := findAlias_mem hf
          exact ha d rfl _ this
        have : isOwner (st.put (some d) v) ow = isOwner st ow := by
          cases ow with
          | tmp t =>
            simp only [isOwner]
            exact own_put fun t' ht e => hne (by cases ht; rw [e])
          | cell id off => rfl
          | base id off => rfl
        rw [this]

theorem ownerOf_ne {d : Tmp} {u : Tmp} {ow : Owner} (hu : u ≠ d) (ha : NoAl st (some d)) (h : ownerOf st u = some ow) : ow ≠ .tmp d := by
  unfold ownerOf at h
  split at h
  · cases h; exact fun e => hu (by cases e; rfl)
  · split at h
    · rename_i ow' hf
      split at h
      · cases h
        exact ha d rfl _ (findAlias_mem hf)
      · cases h
    · cases h

theorem heldV_put {d : Option Tmp} {v : V} {ow : Owner} (h : ∀ t, d = some t → ow ≠ .tmp t) : heldV (st.put d v) ow = heldV st ow := by
  cases ow with
  | tmp t => exact put_fr st d v t fun e => h t e rfl
  | cell id off => cases d <;> rfl
  | base id off => rfl

theorem hp_put {d : Option Tmp} {v : V} : (st.put d v).hp = st.hp := by cases d <;> rfl

end Go.Abs
