/- Operations one beside the other: what a light one gives, and that another one does not notice it. -/
import Derived.Test.YtlfjmmcodkdlfaaL3
import Derived.RangeFuncRecord
import Derived.Carry
set_option linter.all false
namespace Go.Abs
open Go.Lib
variable [BT] {cfg : Cfg} {orc : Orc} {st st' : St} {o : Oper}

theorem evOp_lim (hole : Nat) (hna : ∀ t, o.op ≠ .alloc t) : evOp cfg orc true o st = (limV cfg orc hole o st.fr st.hp).map fun v => st.put o.dst v := by
  obtain ⟨dst, op, ty, pos, after, guard⟩ := o
  cases op <;> simp only [evOp, limV, Option.map_none, Option.map_some, Bool.not_true, Bool.and_false, Bool.false_and, Bool.false_eq_true, if_false, if_true, Bool.true_or] at hna ⊢
  case move x => cases x <;> rfl
  case assign x =>
    cases x with
    | const v => cases v <;> try rfl
                 rename_i b n c
                 cases b <;> cases n <;> cases c <;> rfl
    | _ => rfl
  case pick c a b => split <;> rfl
  case alloc t => exact absurd rfl (hna t)
  case build t parts => split <;> rfl
  case nilCheck x => split <;> rfl
  case makeFunc fn first cap => cases fn <;> simp only [Option.map_none] <;> split <;> rfl
  case extract x i =>
    split
    · split <;> rename_i h <;> simp [h]
    · rfl
  case call c =>
    obtain ⟨callee, args, types⟩ := c
    cases callee with
    | invoke r nm => rfl
    | builtin b =>
      simp only
      generalize args.toList = al
      generalize types.toList = tl
      cases b <;> simp only [isAppend, builtinOp, Bool.true_and, Bool.false_eq_true, if_true, if_false, Option.map_none] <;> (try rfl) <;>
        rcases al with _ | ⟨x, _ | ⟨y, al⟩⟩ <;> rcases tl with _ | ⟨t, tl⟩ <;> first | rfl | simp [builtinOp]
    | value f =>
      simp only
      split
      · rename_i hfn
        simp only [hfn]
        split
        · split
          · rename_i h; simp [h]
          · rename_i h
            rcases hc : orc.call _ _ [] with _ | ⟨v, own, _ | ⟨b, r⟩⟩
            · rfl
            · exact absurd hc (h _ _)
            · rfl
        · rfl
      · rename_i hfn; simp only [hfn]; rfl
      · rename_i hfn _
        split
        · rename_i hf2; exact absurd hf2 (hfn _ _)
        · rfl

theorem ev_fr {fr fr' : List V} {d : Tmp} (h : ∀ t, t ≠ d → fr.getD t .any = fr'.getD t .any) {x : Operand} (hx : x ≠ .tmp d) : ev fr x = ev fr' x := by
  cases x with
  | tmp t => exact h t fun e => hx (by rw [e])
  | _ => rfl

theorem limV_fr {hole : Nat} {fr fr' : List V} {hp : List Blk} (h : ∀ x ∈ o.op.operands, ev fr x = ev fr' x) : limV cfg orc hole o fr hp = limV cfg orc hole o fr' hp := by
  obtain ⟨dst, op, ty, pos, after, guard⟩ := o
  have pairs : ∀ ps : Array (Nat × Operand), (∀ x ∈ (ps.toList.map (·.2)).toArray, ev fr x = ev fr' x) → (ps.toList.map fun (p : Nat × Operand) => (p.1, ev fr p.2)) = ps.toList.map fun (p : Nat × Operand) => (p.1, ev fr' p.2) := fun ps hp =>
    List.map_congr_left fun p hm => by rw [hp p.2 (by simp only [List.mem_toArray]; exact List.mem_map.2 ⟨p, hm, rfl⟩)]
  have lst : ∀ ps : List Operand, (∀ x ∈ ps, ev fr x = ev fr' x) → ps.map (ev fr) = ps.map (ev fr') := fun ps hp => List.map_congr_left hp
  cases op <;> simp only [Op.operands] at h <;> simp only [limV]
  case build t ps => rw [pairs ps h]
  case buildSlice t n ps => rw [pairs ps h]
  case makeFunc fn first cap =>
    cases fn <;> simp only
    rw [lst cap.toList fun x hx => h x (by simp at hx ⊢; exact .inr hx)]
  case slice t x lo hi mx => cases lo <;> cases hi <;> cases mx <;> simp_all
  case call c =>
    obtain ⟨callee, args, types⟩ := c
    simp only [Call.operands] at h
    have ha : args.toList.map (ev fr) = args.toList.map (ev fr') := lst _ fun x hx => h x (by simp at hx ⊢; cases callee <;> simp [hx])
    cases callee with
    | invoke r nm => rfl
    | builtin b =>
      simp only
      have hx : ∀ x ∈ args.toList, ev fr x = ev fr' x := fun x hx => h x (by simp at hx ⊢; simp [hx])
      generalize args.toList = al at hx ha
      split
      · rw [hx _ (by simp)]
      · rw [ha]
      · rw [ha]
      · rfl
    | value f =>
      simp only
      rw [ha, h f (by simp)]
  all_goals first | rfl | (simp_all; done)

theorem limAt_fr {hole : Nat} {fr fr' : List V} (h : ∀ x ∈ o.op.operands, ev fr x = ev fr' x) : limAt hole o fr = limAt hole o fr' := by
  unfold limAt
  cases ho : o.op <;> simp only
  rename_i t p
  rw [h p (by rw [ho]; simp [Op.operands])]

def Blk.strip : Blk → Blk
  | .cells t _ cs => .cells t [] cs
  | b => b
theorem loadV_strip {hp hp' : List Blk} {t : TypeId} {id off : Nat} (h : (hp[id]?).map Blk.strip = (hp'[id]?).map Blk.strip) : loadV cfg hp t (.ptr id off) = loadV cfg hp' t (.ptr id off) := by
  have e : ∀ hp : List Blk, loadV cfg hp t (.ptr id off) = match cfg.ty t with
      | none => none
      | some ti => match (hp[id]?).map Blk.strip with
        | some (.cells _ _ cs) => if off + ti.size ≤ cs.length then mkV ti.k.isAgg ((cs.drop off).take ti.size) else none
        | _ => none := fun hp => by
    unfold loadV
    cases cfg.ty t with
    | none => rfl
    | some ti =>
      simp only
      rcases hp[id]? with _ | b
      · rfl
      · cases b <;> rfl
  rw [e, e, h]
theorem limV_hp {hole : Nat} {fr : List V} {hp hp' : List Blk} (h : ∀ id ∈ limAt hole o fr, (hp[id]?).map Blk.strip = (hp'[id]?).map Blk.strip) (ha : isAlloc o = true → hp[hole]? = hp'[hole]?) : limV cfg orc hole o fr hp = limV cfg orc hole o fr hp' := by
  unfold limAt at h
  obtain ⟨dst, op, ty, pos, after, guard⟩ := o
  cases op <;> simp only [limV] at h ⊢
  case makeFunc fn first cap => cases fn <;> rfl
  · rw [ha rfl]
  · rename_i t p
    cases hev : ev fr p with
    | ptr id off => exact loadV_strip (h id (by rw [hev]; simp))
    | _ => rfl

theorem put_fr (st : St) (d : Option Tmp) (v : V) (t : Tmp) (h : d ≠ some t) : (st.put d v).fr.getD t .any = st.fr.getD t .any := by
  cases d with
  | none => rfl
  | some d =>
    simp only [St.put, List.getD_eq_getElem?_getD]
    rw [List.getElem?_set_ne (fun e => h (by rw [e]))]

theorem ev_put {d : Option Tmp} {v : V} {x : Operand} (h : ∀ t, d = some t → x ≠ .tmp t) : ev (st.put d v).fr x = ev st.fr x := by
  cases x with
  | tmp t => exact put_fr st d v t fun e => h t e rfl
  | _ => rfl

theorem put_comm {d e : Option Tmp} {v w : V} (h : ∀ t, d = some t → e ≠ some t) : (st.put d v).put e w = (st.put e w).put d v := by
  cases d with
  | none => rfl
  | some d =>
    cases e with
    | none => rfl
    | some e =>
      have hne : d ≠ e := fun he => h d rfl (by rw [he])
      simp only [St.put, St.mk.injEq]
      refine ⟨List.set_comm _ _ hne, ?_, trivial, ?_, trivial⟩
      · simp only [List.filter_filter]; congr 1; funext x; exact Bool.and_comm _ _
      · simp only [List.filter_filter]; congr 1; funext x; exact Bool.and_comm _ _

theorem owns_comm {d e : Option Tmp} {v : V} {b : Bool} (h : ∀ t, d = some t → e ≠ some t) : (st.put d v).owns e b = (st.owns e b).put d v := by
  cases d with
  | none => cases e <;> rfl
  | some d =>
    cases e with
    | none => rfl
    | some e =>
      have hne : e ≠ d := fun he => h d rfl (by rw [he])
      cases b
      · rfl
      · simp only [St.put, St.owns, if_true, St.mk.injEq, and_true, true_and]
        rw [List.filter_cons_of_pos (by simpa using hne)]

theorem putOwn_comm {d e : Option Tmp} {v w : V} {b : Bool} (h : ∀ t, d = some t → e ≠ some t) : (st.put d v).putOwn e w b = (st.putOwn e w b).put d v := by
  unfold St.putOwn
  rw [put_comm h, owns_comm h]

theorem alias_comm {d e : Option Tmp} {v : V} {ow : Option Owner} (h : ∀ t, d = some t → e ≠ some t) (h2 : ∀ t, d = some t → ow ≠ some (.tmp t)) : (st.put d v).alias e ow = (st.alias e ow).put d v := by
  cases d with
  | none => cases e <;> cases ow <;> rfl
  | some d =>
    cases e with
    | none => rfl
    | some e =>
      cases ow with
      | none => rfl
      | some ow =>
        have hne : e ≠ d := fun he => h d rfl (by rw [he])
        have hne2 : ow ≠ .tmp d := fun he => h2 d rfl (by rw [he])
        simp only [St.put, St.alias, St.mk.injEq, and_true, true_and]
        rw [List.filter_cons_of_pos (by simp [hne, hne2])]

theorem dropOwn_comm {d : Option Tmp} {v : V} {ow : Owner} : dropOwn (st.put d v) ow = (dropOwn st ow).put d v := by
  cases d with
  | none => rfl
  | some d =>
    cases ow with
    | tmp t =>
      simp only [dropOwn, St.put, St.mk.injEq, and_true, true_and]
      simp only [List.filter_filter]; congr 1; funext x; exact Bool.and_comm _ _
    | cell id off =>
      simp only [dropOwn, St.put]
      split <;> rfl
    | base id off => rfl

theorem own_put {d : Option Tmp} {v : V} {u : Tmp} (h : ∀ t, d = some t → u ≠ t) : (st.put d v).own.contains u = st.own.contains u := by
  cases d with
  | none => rfl
  | some d =>
    have := h d rfl
    rw [Bool.eq_iff_iff]
    simp [St.put, this]

theorem findAlias_filter {u d : Tmp} (hu : u ≠ d) : ∀ {l : List (Tmp × Owner)}, (∀ p ∈ l, p.2 ≠ .tmp d) → findAlias u (l.filter fun p => p.1 != d && p.2 != .tmp d) = findAlias u l
  | [], _ => rfl
  | (x, o) :: r, h => by
    have ih := findAlias_filter hu (l := r) fun p hp => h p (List.mem_cons_of_mem _ hp)
    have ho : o ≠ .tmp d := h (x, o) List.mem_cons_self
    by_cases hx : x = d
    · subst hx
      rw [List.filter_cons_of_neg (by simp), ih]
      simp only [findAlias]
      rw [if_neg (fun e => hu e.symm)]
    · rw [List.filter_cons_of_pos (by simp [hx, ho])]
      simp only [findAlias, ih]

def NoAl (st : St) (d : Option Tmp) : Prop := ∀ t, d = some t → ∀ p ∈ st.al, p.2 ≠ .tmp t

theorem ownerOf_put {d : Option Tmp} {v : V} {u : Tmp} (h : ∀ t, d = some t → u ≠ t) (ha : NoAl st d) : ownerOf (st.put d v) u = ownerOf st u := by
  unfold ownerOf
  rw [own_put h]
  split
  · rfl
  · cases d with
    | none => rfl
    | some d =>
      have e : findAlias u (st.put (some d) v).al = findAlias u st.al := findAlias_filter (h d rfl) (ha d rfl)
      rw [e]
      cases hf : findAlias u st.al with
      | none => rfl
      | some ow =>
        simp only
        have hne : ow ≠ .tmp d := by
          have := findAlias_mem hf
          exact ha d rfl _ this
        have : isOwner (st.put (some d) v) ow = isOwner st ow := by
          cases ow with
          | tmp t =>
            simp only [isOwner]
            exact own_put fun t' ht e => hne (by cases ht; rw [e])
          | cell id off => rfl
          | base id off => rfl
        rw [this]

theorem ownerOf_ne {d : Tmp} {u : Tmp} {ow : Owner} (hu : u ≠ d) (ha : NoAl st (some d)) (h : ownerOf st u = some ow) : ow ≠ .tmp d := by
  unfold ownerOf at h
  split at h
  · cases h; exact fun e => hu (by cases e; rfl)
  · split at h
    · rename_i ow' hf
      split at h
      · cases h
        exact ha d rfl _ (findAlias_mem hf)
      · cases h
    · cases h

theorem heldV_put {d : Option Tmp} {v : V} {ow : Owner} (h : ∀ t, d = some t → ow ≠ .tmp t) : heldV (st.put d v) ow = heldV st ow := by
  cases ow with
  | tmp t => exact put_fr st d v t fun e => h t e rfl
  | cell id off => cases d <;> rfl
  | base id off => rfl

theorem hp_put {d : Option Tmp} {v : V} : (st.put d v).hp = st.hp := by cases d <;> rfl

end Go.Abs
/-! An operation does not notice a slot that it does not look at; what it leaves as it was. -/
namespace Go.Abs
open Go.Lib
variable [BT] {cfg : Cfg} {orc : Orc} {st st' : St} {o : Oper}

theorem appendTo_put {ti : TI} {dst : Option Tmp} {t tx : TypeId} {d1 : Bool} {xs : List (List V)} {x : V} {d : Option Tmp} {v : V} (h : ∀ t, d = some t → dst ≠ some t) :
    appendTo cfg ti dst t tx d1 xs x (st.put d v) = (appendTo cfg ti dst t tx d1 xs x st).map fun s => s.put d v := by
  unfold appendTo
  split
  · split
    · rw [putOwn_comm h]; rfl
    · rfl
  · split
    · rw [putOwn_comm h]; rfl
    · rfl
  · rfl

theorem appendOp_put {dst : Option Tmp} {t tx : TypeId} {s x : Operand} {d : Option Tmp} {v : V} (h : ∀ t, d = some t → dst ≠ some t) (hs : ∀ t, d = some t → s ≠ .tmp t) (hx : ∀ t, d = some t → x ≠ .tmp t) (ha : NoAl st d) :
    appendOp cfg dst t tx s x (st.put d v) = (appendOp cfg dst t tx s x st).map fun s => s.put d v := by
  unfold appendOp
  rw [ev_put hx]
  split
  · split
    · split
      · rfl
      · split
        · rename_i u
          rw [ev_put hs]
          split
          · have hu : ∀ t, d = some t → u ≠ t := fun t ht e => hs t ht (by rw [e])
            rw [ownerOf_put hu ha]
            split
            · rfl
            · rename_i ow how
              have hne : ∀ t, d = some t → ow ≠ .tmp t := fun t ht => by subst ht; exact ownerOf_ne (hu t rfl) ha how
              rw [heldV_put hne]
              split
              · rw [dropOwn_comm, appendTo_put h]
              · rfl
          · rfl
        · rw [appendTo_put h]
        · rfl
    · rfl
  · rfl

theorem movesFrom_put {x : Operand} {d : Option Tmp} {v : V} (hx : ∀ t, d = some t → x ≠ .tmp t) : movesFrom (st.put d v) x = movesFrom st x := by
  unfold movesFrom
  split
  · rename_i u
    have hu : ∀ t, d = some t → u ≠ t := fun t ht e => hx t ht (by rw [e])
    rw [ev_put hx, own_put hu]
  · rfl
  · rfl

theorem setHp_put {d : Option Tmp} {v : V} (hp : List Blk) (R : List Nat) : ({ st.put d v with hp := hp, al := keepAl R (st.put d v).al } : St) = ({ st with hp := hp, al := keepAl R st.al } : St).put d v := by
  cases d with
  | none => rfl
  | some d =>
    simp only [St.put, keepAl, St.mk.injEq, true_and, and_true, List.filter_filter]
    congr 1; funext x; exact Bool.and_comm _ _

theorem storeOp_put {t : TypeId} {p x : Operand} {d : Option Tmp} {v : V} (hp : ∀ t, d = some t → p ≠ .tmp t) (hx : ∀ t, d = some t → x ≠ .tmp t) :
    storeOp cfg t p x (st.put d v) = (storeOp cfg t p x st).map fun s => s.put d v := by
  unfold storeOp
  rw [ev_put hp, ev_put hx, hp_put, movesFrom_put hx]
  split
  · rfl
  · split
    · split
      · split
        · simp only
          cases d with
          | none => cases movesFrom st x with
            | none => rfl
            | some q => cases q <;> rfl
          | some d =>
            cases movesFrom st x with
            | none => simp [St.put]
            | some q =>
              cases q with
              | none => simp [St.put]
              | some u =>
                simp only [St.put, Option.map_some, Option.some.injEq, St.mk.injEq, true_and, List.filter_filter, List.filter_nil, and_true]
                congr 1; funext x; exact Bool.and_comm _ _
        · rfl
      · rfl
    · rfl

theorem nilOr_put {b : Bool} {x y x' y' : Option St} {d : Option Tmp} {v : V} (h1 : x' = x.map fun s => s.put d v) (h2 : y' = y.map fun s => s.put d v) : nilOr b x' y' = (nilOr b x y).map fun s => s.put d v := by
  subst h1 h2
  cases b with
  | false => rfl
  | true => cases x <;> rfl
theorem storeN_put {t : TypeId} {p x : Operand} {d : Option Tmp} {v : V} (hp : ∀ t, d = some t → p ≠ .tmp t) (hx : ∀ t, d = some t → x ≠ .tmp t) :
    storeN cfg t p x (st.put d v) = (storeN cfg t p x st).map fun s => s.put d v := by
  unfold storeN
  rw [ev_put hp, ev_put hx, hp_put]
  split
  · rfl
  · split
    · split
      · rfl
      · split
        · split
          · cases d with
            | none => rfl
            | some d => simp [St.put]
          · rfl
        · rfl
    · rfl
theorem storeX_put {t : TypeId} {p x : Operand} {d : Option Tmp} {v : V} (hp : ∀ t, d = some t → p ≠ .tmp t) (hx : ∀ t, d = some t → x ≠ .tmp t) :
    storeX cfg t p x (st.put d v) = (storeX cfg t p x st).map fun s => s.put d v := nilOr_put (storeN_put hp hx) (storeOp_put hp hx)
theorem dataOp_put {dst : Option Tmp} {x : Operand} {d : Option Tmp} {v : V} (h : ∀ t, d = some t → dst ≠ some t) (hx : ∀ t, d = some t → x ≠ .tmp t) (ha : NoAl st d) :
    dataOp dst x (st.put d v) = (dataOp dst x st).map fun s => s.put d v := by
  unfold dataOp
  cases x with
  | tmp u =>
    simp only
    have e : findAlias u (st.put d v).al = findAlias u st.al := by
      cases d with
      | none => rfl
      | some d => exact findAlias_filter (fun e => hx d rfl (by rw [e])) (ha d rfl)
    rw [e]
    split
    · rename_i id off _
      have : isOwner (st.put d v) (.cell id off) = isOwner st (.cell id off) := by simp only [isOwner, hp_put]
      rw [this, heldV_put (fun t _ e => by cases e), ev_put hx]
      split
      · rw [put_comm h, alias_comm h (fun t _ e => by cases e)]; rfl
      · rfl
    · rfl
  | _ => rfl

theorem textOp_put {dst : Option Tmp} {t : TypeId} {p n : Operand} {d : Option Tmp} {v : V} (h : ∀ t, d = some t → dst ≠ some t) (hp : ∀ t, d = some t → p ≠ .tmp t) (hn : ∀ t, d = some t → n ≠ .tmp t) (ha : NoAl st d) :
    textOp cfg dst t p n (st.put d v) = (textOp cfg dst t p n st).map fun s => s.put d v := by
  unfold textOp
  rw [ev_put hn]
  split
  · rename_i e u hk
    have e : findAlias u (st.put d v).al = findAlias u st.al := by
      cases d with
      | none => rfl
      | some d => exact findAlias_filter (fun e => hp d rfl (by rw [e])) (ha d rfl)
    rw [e]
    split
    · rename_i id off _ _
      have : isOwner (st.put d v) (.cell id off) = isOwner st (.cell id off) := by simp only [isOwner, hp_put]
      have hlen : (st.put d v).fr.length = st.fr.length := by cases d <;> simp [St.put]
      rw [this, hlen, heldV_put (fun t _ e => by cases e)]
      split
      · split
        · split
          · split
            · rw [put_comm h]; rfl
            · rfl
          · rfl
        · rfl
      · rfl
    · rfl
  · rfl

theorem builtinOp_put {b : Builtin} {dst : Option Tmp} {args : List Operand} {types : List TypeId} {d : Option Tmp} {v : V} (h : ∀ t, d = some t → dst ≠ some t) (hx : ∀ x ∈ args, ∀ t, d = some t → x ≠ .tmp t) (ha : NoAl st d) :
    builtinOp cfg b dst args types (st.put d v) = (builtinOp cfg b dst args types st).map fun s => s.put d v := by
  have hl : args.map (ev (st.put d v).fr) = args.map (ev st.fr) := List.map_congr_left fun x hm => ev_put (hx x hm)
  have hm : ∀ y : Option V, (y.map fun w => (st.put d v).put dst w) = ((y.map fun w => st.put dst w).map fun s => s.put d v) := fun y => by
    cases y with
    | none => rfl
    | some w => simp only [Option.map_some, put_comm h]
  unfold builtinOp
  split
  · exact appendOp_put h (hx _ (by simp)) (hx _ (by simp)) ha
  · rw [ev_put (hx _ (by simp))]; exact hm _
  · rw [hl]; exact hm _
  · rw [hl]; exact hm _
  · exact dataOp_put h (hx _ (by simp)) ha
  · exact textOp_put h (hx _ (by simp)) (hx _ (by simp)) ha
  · rfl

theorem pushBlk_put {dst : Option Tmp} {b : Blk} {d : Option Tmp} {v : V} (h : ∀ t, d = some t → dst ≠ some t) : pushBlk (st.put d v) dst b = (pushBlk st dst b).put d v := by
  unfold pushBlk
  rw [hp_put]
  have e : ({ st.put d v with hp := st.hp ++ [b] } : St) = ({ st with hp := st.hp ++ [b] } : St).put d v := by cases d <;> rfl
  rw [e, put_comm h]

theorem boxX_put {t : TypeId} {x : V} {dst d : Option Tmp} {v : V} (h : ∀ t, d = some t → dst ≠ some t) : boxX cfg t x dst (st.put d v) = (boxX cfg t x dst st).map fun s => s.put d v := by
  refine nilOr_put ?_ ?_
  · unfold boxN
    split
    · split
      · rfl
      · rw [pushBlk_put h]; rfl
    · rfl
  · unfold boxV
    split
    · rw [pushBlk_put h]; rfl
    · rfl
theorem boxX_inv {t : TypeId} {x : V} {dst : Option Tmp} (h : boxX cfg t x dst st = some st') : ∃ b, st' = pushBlk st dst b := by
  unfold boxX nilOr boxN boxV at h
  split at h
  · split at h
    · rename_i s hs
      cases h
      split at hs
      · split at hs
        · cases hs
        · cases hs; exact ⟨_, rfl⟩
      · cases hs
    · split at h
      · cases h; exact ⟨_, rfl⟩
      · cases h
  · split at h
    · cases h; exact ⟨_, rfl⟩
    · cases h
theorem evOp_put {d : Option Tmp} {v : V} (h : ∀ t, d = some t → o.dst ≠ some t) (hx : ∀ x ∈ o.op.operands, ∀ t, d = some t → x ≠ .tmp t) (ha : NoAl st d) :
    evOp cfg orc false o (st.put d v) = (evOp cfg orc false o st).map fun s => s.put d v := by
  obtain ⟨dst, op, ty, pos, after, guard⟩ := o
  simp only at h hx
  have hm : ∀ y : Option V, (y.map fun w => (st.put d v).put dst w) = ((y.map fun w => st.put dst w).map fun s => s.put d v) := fun y => by
    cases y with
    | none => rfl
    | some w => simp only [Option.map_some, put_comm h]
  have pairs : ∀ ps : Array (Nat × Operand), (∀ x ∈ (ps.toList.map (·.2)).toArray, ∀ t, d = some t → x ≠ .tmp t) → (ps.toList.map fun (p : Nat × Operand) => (p.1, ev (st.put d v).fr p.2)) = ps.toList.map fun (p : Nat × Operand) => (p.1, ev st.fr p.2) := fun ps hp =>
    List.map_congr_left fun p hm => by rw [ev_put (hp p.2 (by simp only [List.mem_toArray]; exact List.mem_map.2 ⟨p, hm, rfl⟩))]
  have lst : ∀ ps : List Operand, (∀ x ∈ ps, ∀ t, d = some t → x ≠ .tmp t) → ps.map (ev (st.put d v).fr) = ps.map (ev st.fr) := fun ps hp => List.map_congr_left fun x hm => ev_put (hp x hm)
  cases op <;> simp only [Op.operands] at hx <;> simp only [evOp, Bool.not_false, Bool.and_true, Bool.true_and, Bool.false_or, Bool.false_and, Bool.false_eq_true, if_false, Option.map_none]
  case move x =>
    have e := ev_put (st := st) (v := v) (hx x (by simp))
    cases x with
    | tmp u =>
      have hu : ∀ t, d = some t → u ≠ t := fun t ht e => hx (.tmp u) (by simp) t ht (by rw [e])
      simp only [own_put hu, e]
      split
      · rw [put_comm h, alias_comm h fun t ht e => hu t ht (by cases e; rfl)]; rfl
      · rw [put_comm h]; rfl
    | _ => simp only [e, put_comm h, Option.map_some]
  case assign x =>
    have e := ev_put (st := st) (v := v) (hx x (by simp))
    cases x with
    | tmp u =>
      have hu : ∀ t, d = some t → u ≠ t := fun t ht e => hx (.tmp u) (by simp) t ht (by rw [e])
      simp only [own_put hu, e]
      split
      · rw [dropOwn_comm, putOwn_comm h]; rfl
      · rw [put_comm h]; rfl
    | const c =>
      split
      · rename_i hc; cases hc
      · rw [putOwn_comm h]; rfl
      · simp only [e, put_comm h, Option.map_some]
    | _ => simp only [e, put_comm h, Option.map_some]
  case pick c x y =>
    rw [ev_put (hx c (by simp)), ev_put (hx x (by simp)), ev_put (hx y (by simp))]
    split
    · rw [put_comm h]; rfl
    · rw [put_comm h]; rfl
    · rfl
  case alloc t =>
    split
    · rw [pushBlk_put h]; rfl
    · rfl
  case box t x =>
    rw [ev_put (hx x (by simp))]
    exact boxX_put h
  case build t ps =>
    split
    · rw [pairs ps hx]; exact hm _
    · rfl
  case buildSlice t n ps => rw [pairs ps hx]; exact hm _
  case load t p =>
    rw [ev_put (hx p (by simp)), hp_put]
    cases loadV cfg st.hp t (ev st.fr p) with
    | none => rfl
    | some w =>
      simp only [Option.map_some]
      split
      · rw [put_comm h, alias_comm h]
        intro t' ht he
        obtain ⟨id, off, _, _, _, _, e2, _⟩ := cellOwner_inv he
        cases e2
      · rw [put_comm h]
  case store t p x =>
    split
    · rfl
    · exact storeX_put (hx p (by simp)) (hx x (by simp))
  case nilCheck x =>
    rw [ev_put (hx x (by simp))]
    split <;> first | rfl | (rw [put_comm h]; rfl)
  case binOp op t x y t2 => rw [ev_put (hx x (by simp)), ev_put (hx y (by simp))]; exact hm _
  case unOp op t x => rw [ev_put (hx x (by simp))]; exact hm _
  case convert s t x =>
    rw [ev_put (hx x (by simp)), hp_put]
    split
    · rw [put_comm h]; rfl
    · exact hm _
  case makeFunc fn first cap =>
    cases fn <;> simp only [Option.map_none]
    split
    · rw [lst cap.toList fun x hm => hx x (by simp at hm ⊢; exact .inr hm), put_comm h]; rfl
    · rfl
  case slice t x lo hi mx =>
    have h1 : lo.map (ev (st.put d v).fr) = lo.map (ev st.fr) := by cases lo with
      | none => rfl
      | some y => simp only [Option.map_some]; rw [ev_put (hx y (by simp))]
    have h2 : hi.map (ev (st.put d v).fr) = hi.map (ev st.fr) := by cases hi with
      | none => rfl
      | some y => simp only [Option.map_some]; rw [ev_put (hx y (by simp))]
    have h3 : mx.map (ev (st.put d v).fr) = mx.map (ev st.fr) := by cases mx with
      | none => rfl
      | some y => simp only [Option.map_some]; rw [ev_put (hx y (by simp))]
    rw [ev_put (hx x (by simp)), h1, h2, h3]
    cases sliceV cfg t (ev st.fr x) (lo.map (ev st.fr)) (hi.map (ev st.fr)) (mx.map (ev st.fr)) with
    | none => rfl
    | some w =>
      simp only [Option.map_some]
      split
      · rw [putOwn_comm h]
      · rw [put_comm h]
  case fieldAddr t x i => rw [ev_put (hx x (by simp))]; exact hm _
  case field t x i => rw [ev_put (hx x (by simp))]; exact hm _
  case indexAddr t x i => rw [ev_put (hx x (by simp)), ev_put (hx i (by simp))]; exact hm _
  case index t x i => rw [ev_put (hx x (by simp)), ev_put (hx i (by simp))]; exact hm _
  case extract x i =>
    rw [ev_put (hx x (by simp))]
    split
    · split
      · rw [put_comm h]; rfl
      · rfl
    · rfl
  case call c =>
    obtain ⟨callee, args, types⟩ := c
    simp only [Call.operands] at hx
    have hxa : ∀ x ∈ args.toList, ∀ t, d = some t → x ≠ .tmp t := fun x hm => hx x (by simp at hm ⊢; cases callee <;> simp [hm])
    cases callee with
    | invoke r nm => rfl
    | builtin b =>
      simp only
      exact builtinOp_put h hxa ha
    | value f =>
      simp only
      rw [ev_put (hx f (by simp)), lst _ hxa, hp_put]
      split
      · split
        · split
          · rw [put_comm h]; rfl
          · rfl
        split
        · split
          · rw [setHp_put st.hp [], putOwn_comm h]; rfl
          · rw [setHp_put, putOwn_comm h]; rfl
          · rfl
        · split
          · split
            · rw [setHp_put, putOwn_comm h]; rfl
            · rfl
          · rfl
      · split
        · split
          · rw [setHp_put, put_comm h]; rfl
          · rfl
        · rfl
      · rfl

theorem fullAt_put {d : Option Tmp} {v : V} (hx : ∀ x ∈ o.op.operands, ∀ t, d = some t → x ≠ .tmp t) (ha : NoAl st d) : fullAt o (st.put d v) (st'.put d v) = fullAt o st st' := by
  obtain ⟨dst, op, ty, pos, after, guard⟩ := o
  cases op <;> simp only [Op.operands] at hx <;> simp only [fullAt]
  case alloc => rw [hp_put]
  case box => rw [hp_put]
  case store t p x => rw [ev_put (hx p (by simp))]
  case call c =>
    obtain ⟨callee, args, types⟩ := c
    simp only [Call.operands] at hx
    have hxa : ∀ x ∈ args.toList, ∀ t, d = some t → x ≠ .tmp t := fun x hm => hx x (by simp at hm ⊢; cases callee <;> simp [hm])
    have hl : args.toList.map (ev (st.put d v).fr) = args.toList.map (ev st.fr) := List.map_congr_left fun x hm => ev_put (hxa x hm)
    cases callee with
    | invoke r nm => rfl
    | builtin b =>
      cases b <;> rfl
    | value f =>
      simp only
      rw [ev_put (hx f (by simp)), hl, hp_put, hp_put]

theorem putOwn_fr (st : St) (d : Option Tmp) (v : V) (b : Bool) (t : Tmp) (h : d ≠ some t) : (st.putOwn d v b).fr.getD t .any = st.fr.getD t .any := by
  unfold St.putOwn St.owns
  split
  · exact put_fr st _ v t h
  · split
    · exact put_fr st _ v t h
    · exact put_fr st _ v t h

theorem alias_fr (st : St) (d : Option Tmp) (ow : Option Owner) : (st.alias d ow).fr = st.fr := by cases d <;> cases ow <;> rfl
theorem alias_hp (st : St) (d : Option Tmp) (ow : Option Owner) : (st.alias d ow).hp = st.hp := by cases d <;> cases ow <;> rfl
theorem dropOwn_fr (st : St) (ow : Owner) : (dropOwn st ow).fr = st.fr := by
  cases ow with
  | tmp t => rfl
  | cell id off => simp only [dropOwn]; split <;> rfl
  | base id off => rfl
theorem putOwn_hp (st : St) (d : Option Tmp) (v : V) (b : Bool) : (st.putOwn d v b).hp = st.hp := by cases d <;> cases b <;> rfl

theorem appendTo_fr {ti : TI} {dst : Option Tmp} {t tx : TypeId} {d1 : Bool} {xs : List (List V)} {x : V} (h : appendTo cfg ti dst t tx d1 xs x st = some st') : (∀ t, dst ≠ some t → st'.fr.getD t .any = st.fr.getD t .any) ∧ st'.hp = st.hp ∧ ∀ p ∈ st'.al, p ∈ st.al := by
  have key : ∀ w, (∀ t, dst ≠ some t → (st.putOwn dst w true).fr.getD t .any = st.fr.getD t .any) ∧ (st.putOwn dst w true).hp = st.hp ∧ ∀ p ∈ (st.putOwn dst w true).al, p ∈ st.al := fun w =>
    ⟨fun t h => putOwn_fr st dst w true t h, putOwn_hp _ _ _ _, fun p hp => by
      cases dst with
      | none => exact hp
      | some d => exact (List.mem_filter.1 hp).1⟩
  unfold appendTo at h
  split at h
  · split at h
    · cases h; exact key _
    · cases h
  · split at h
    · cases h; exact key _
    · cases h
  · cases h

theorem dropOwn_hp (st : St) {ow : Owner} {id : Nat} (h : ∀ off, ow ≠ .cell id off) : (dropOwn st ow).hp[id]? = st.hp[id]? := by
  cases ow with
  | tmp t => rfl
  | cell id' off =>
    simp only [dropOwn]
    split
    · simp only
      rw [List.getElem?_set_ne]
      intro e; subst e; exact h off rfl
    · rfl
  | base id' off => rfl

theorem dropOwn_al (st : St) (ow : Owner) : (dropOwn st ow).al = st.al := by
  cases ow with
  | tmp t => rfl
  | cell id off => simp only [dropOwn]; split <;> rfl
  | base id off => rfl

theorem appendOp_frame {dst : Option Tmp} {t tx : TypeId} {s x : Operand} (h : appendOp cfg dst t tx s x st = some st') :
    (∀ t, dst ≠ some t → st'.fr.getD t .any = st.fr.getD t .any) ∧ (∀ id, (∀ u off, s = .tmp u → ownerOf st u ≠ some (.cell id off)) → st'.hp[id]? = st.hp[id]?) ∧ ∀ p ∈ st'.al, p ∈ st.al := by
  unfold appendOp at h
  split at h
  · split at h
    · split at h
      · cases h
      · split at h
        · rename_i u
          split at h
          · split at h
            · cases h
            · rename_i ow how
              split at h
              · obtain ⟨h1, h2, h3⟩ := appendTo_fr h
                refine ⟨fun t ht => (h1 t ht).trans (by rw [dropOwn_fr]), fun id hid => ?_, fun p hp => by have := h3 p hp; rwa [dropOwn_al] at this⟩
                rw [h2]
                exact dropOwn_hp st fun off e => hid u off rfl (by rw [how, e])
              · cases h
          · cases h
        · obtain ⟨h1, h2, h3⟩ := appendTo_fr h
          exact ⟨h1, fun id _ => by rw [h2], h3⟩
        · cases h
    · cases h
  · cases h

theorem storeOp_frame {t : TypeId} {p x : Operand} (h : storeOp cfg t p x st = some st') : st'.fr = st.fr ∧ (∀ id, (∀ off, ev st.fr p ≠ .ptr id off) → st'.hp[id]? = st.hp[id]?) ∧ st'.al = [] := by
  unfold storeOp at h
  split at h
  · cases h
  · split at h
    · rename_i id0 off0 vs hp hvs
      split at h
      · split at h
        · have key : ∀ (id : Nat) (b : Blk), (∀ off, ev st.fr p ≠ .ptr id off) → (st.hp.set id0 b)[id]? = st.hp[id]? := fun id b hid => by
            rw [List.getElem?_set_ne]
            intro e; subst e; exact hid off0 hp
          simp only at h
          split at h <;> cases h <;> exact ⟨rfl, fun id hid => key id _ hid, rfl⟩
        · cases h
      · cases h
    · cases h

theorem storeN_frame {t : TypeId} {p x : Operand} (h : storeN cfg t p x st = some st') : st'.fr = st.fr ∧ (∀ id, (∀ off, ev st.fr p ≠ .ptr id off) → st'.hp[id]? = st.hp[id]?) ∧ st'.al = [] := by
  unfold storeN at h
  split at h
  · cases h
  · split at h
    · rename_i id0 off0 vs hp hvs
      split at h
      · cases h
      · split at h
        · split at h
          · cases h
            refine ⟨rfl, fun id hid => ?_, rfl⟩
            simp only
            rw [List.getElem?_set_ne]
            intro e; subst e; exact hid off0 hp
          · cases h
        · cases h
    · cases h
theorem storeX_frame {t : TypeId} {p x : Operand} (h : storeX cfg t p x st = some st') : st'.fr = st.fr ∧ (∀ id, (∀ off, ev st.fr p ≠ .ptr id off) → st'.hp[id]? = st.hp[id]?) ∧ st'.al = [] := by
  rcases nilOr_inv h with h | h
  · exact storeN_frame h
  · exact storeOp_frame h
def AlIn (S : Tmp → Prop) (st : St) : Prop := ∀ p ∈ st.al, ∀ t, p.2 = .tmp t → S t

theorem AlIn.put {S : Tmp → Prop} (h : AlIn S st) (d : Option Tmp) (v : V) : AlIn S (st.put d v) := by
  cases d with
  | none => exact h
  | some d => exact fun p hp => h p (List.mem_filter.1 hp).1

theorem AlIn.putOwn {S : Tmp → Prop} (h : AlIn S st) (d : Option Tmp) (v : V) (b : Bool) : AlIn S (st.putOwn d v b) := by
  have := h.put d v
  cases d <;> cases b <;> exact this

theorem backHp_other {hp hp' : List Blk} {R : List Nat} {id : Nat} (hR : id ∉ R) (hlt : id < hp.length) : (backHp hp R hp')[id]? = hp[id]? := by
  unfold backHp
  simp only
  rw [List.getElem?_append_left (by rw [putBack_length]; exact hlt), putBack_other _ _ _ _ hR]

theorem backHp_length_ge {hp hp' : List Blk} {R : List Nat} : hp.length ≤ (backHp hp R hp').length := by
  unfold backHp
  simp [putBack_length]

theorem evOp_frame0 {S : Tmp → Prop} (h : evOp cfg orc false o st = some st') (hs : ∀ t, o.op = .move (.tmp t) → S t) (hna : isApp o = false) :
    (∀ t, o.dst ≠ some t → st'.fr.getD t .any = st.fr.getD t .any) ∧ (∀ id : Nat, id ∉ fullAt o st st' → st'.hp[id]? = st.hp[id]?) ∧ (AlIn S st → AlIn S st') := by
  obtain ⟨dst, op, ty, pos, after, guard⟩ := o
  simp only at hs
  have simple : ∀ {w : V} {s : St}, s = st.put dst w → (∀ t, dst ≠ some t → s.fr.getD t .any = st.fr.getD t .any) ∧ (∀ id : Nat, s.hp[id]? = st.hp[id]?) ∧ (AlIn S st → AlIn S s) := fun {w s} e => by
    subst e; exact ⟨fun t ht => put_fr st dst w t ht, fun id => by rw [hp_put], fun ha => ha.put _ _⟩
  have simple2 : ∀ {w : V} {b : Bool} {s : St}, s = st.putOwn dst w b → (∀ t, dst ≠ some t → s.fr.getD t .any = st.fr.getD t .any) ∧ (∀ id : Nat, s.hp[id]? = st.hp[id]?) ∧ (AlIn S st → AlIn S s) := fun {w b s} e => by
    subst e; exact ⟨fun t ht => putOwn_fr st dst w b t ht, fun id => by rw [putOwn_hp], fun ha => ha.putOwn _ _ _⟩
  have wk : ∀ {s : St} {T : List Nat}, ((∀ t, dst ≠ some t → s.fr.getD t .any = st.fr.getD t .any) ∧ (∀ id : Nat, s.hp[id]? = st.hp[id]?) ∧ (AlIn S st → AlIn S s)) → (∀ t, dst ≠ some t → s.fr.getD t .any = st.fr.getD t .any) ∧ (∀ id : Nat, id ∉ T → s.hp[id]? = st.hp[id]?) ∧ (AlIn S st → AlIn S s) :=
    fun h => ⟨h.1, fun id _ => h.2.1 id, h.2.2⟩
  have mp : ∀ {y : Option V} {T : List Nat}, (y.map fun w => st.put dst w) = some st' → (∀ t, dst ≠ some t → st'.fr.getD t .any = st.fr.getD t .any) ∧ (∀ id : Nat, id ∉ T → st'.hp[id]? = st.hp[id]?) ∧ (AlIn S st → AlIn S st') := fun {y T} hy => by
    obtain ⟨w, _, rfl⟩ := map_put hy
    exact wk (simple rfl)
  have al : ∀ {w : V} {ow : Option Owner} {T : List Nat}, (∀ t, ow = some (.tmp t) → S t) → (∀ t, dst ≠ some t → ((st.put dst w).alias dst ow).fr.getD t .any = st.fr.getD t .any) ∧ (∀ id : Nat, id ∉ T → ((st.put dst w).alias dst ow).hp[id]? = st.hp[id]?) ∧ (AlIn S st → AlIn S ((st.put dst w).alias dst ow)) := fun {w ow T} how => by
    refine ⟨fun t ht => by rw [alias_fr]; exact put_fr st dst w t ht, fun id _ => by rw [alias_hp, hp_put], fun ha => ?_⟩
    have hput := ha.put dst w
    cases dst with
    | none => cases ow <;> exact hput
    | some d =>
      cases ow with
      | none => exact hput
      | some ow =>
        intro p hp t ht
        rcases List.mem_cons.1 hp with rfl | hp
        · exact how t (by rw [← ht])
        · exact hput p hp t ht
  have pb : ∀ {b : Blk}, (∀ t, dst ≠ some t → (pushBlk st dst b).fr.getD t .any = st.fr.getD t .any) ∧ (∀ id : Nat, id ∉ [st.hp.length] → (pushBlk st dst b).hp[id]? = st.hp[id]?) ∧ (AlIn S st → AlIn S (pushBlk st dst b)) := fun {b} => by
    unfold pushBlk
    refine ⟨fun t ht => by rw [put_fr _ _ _ _ ht], fun id hid => ?_, fun ha => AlIn.put (st := { st with hp := st.hp ++ [b] }) ha _ _⟩
    rw [hp_put]
    simp only [List.mem_singleton] at hid
    rw [List.getElem?_append]
    split
    · rfl
    · rw [List.getElem?_eq_none (by simp; omega), List.getElem?_eq_none (by omega)]
  cases op <;> simp only [evOp, Bool.not_false, Bool.and_true, Bool.true_and, Bool.false_or, Bool.false_and, Bool.false_eq_true, if_false] at h <;> try (cases h; done)
  case move x =>
    split at h
    · rename_i u
      split at h
      · cases h; exact al fun t e => by cases e; exact hs _ rfl
      · cases h; exact wk (simple rfl)
    · cases h; exact wk (simple rfl)
  case assign x =>
    split at h
    · rename_i u
      split at h
      · cases h
        refine ⟨fun t ht => by rw [putOwn_fr _ _ _ _ _ ht, dropOwn_fr], fun id _ => by rw [putOwn_hp]; rfl, fun ha => AlIn.putOwn (st := dropOwn st (.tmp u)) ha _ _ _⟩
      · cases h; exact wk (simple rfl)
    · cases h; exact wk (simple2 rfl)
    · cases h; exact wk (simple rfl)
  case pick c x y =>
    split at h
    · cases h; exact wk (simple rfl)
    · cases h; exact wk (simple rfl)
    · cases h
  case alloc t =>
    split at h
    · cases h; exact pb
    · cases h
  case box t x =>
    obtain ⟨b, rfl⟩ := boxX_inv h
    exact pb
  case build t ps =>
    split at h
    · exact mp h
    · cases h
  case buildSlice t n ps => exact mp h
  case load t p =>
    obtain ⟨w, _, hw⟩ := Option.map_eq_some_iff.1 h
    subst hw
    split
    · refine al fun t e => ?_
      obtain ⟨id, off, _, _, _, _, e2, _⟩ := cellOwner_inv e
      cases e2
    · exact wk (simple rfl)
  case store t p x =>
    split at h
    · cases h
    · rename_i hn
      obtain ⟨h1, h2, h3⟩ := storeX_frame h
      refine ⟨fun t _ => by rw [h1], fun id hid => h2 id fun off e => hid ?_, fun _ p hp => by rw [h3] at hp; cases hp⟩
      simp [fullAt, e]
  case nilCheck x =>
    split at h <;> first | (cases h; done) | (cases h; exact wk (simple rfl))
  case binOp op t x y t2 => exact mp h
  case unOp op t x => exact mp h
  case convert s t x =>
    split at h
    · cases h; exact wk (simple rfl)
    · exact mp h
  case makeFunc fn first cap =>
    cases fn <;> simp only at h <;> try (cases h; done)
    split at h
    · cases h; exact wk (simple rfl)
    · cases h
  case slice t x lo hi mx =>
    obtain ⟨w, _, hw⟩ := Option.map_eq_some_iff.1 h
    subst hw
    split
    · exact wk (simple2 rfl)
    · exact wk (simple rfl)
  case fieldAddr t x i => exact mp h
  case field t x i => exact mp h
  case indexAddr t x i => exact mp h
  case index t x i => exact mp h
  case extract x i =>
    split at h
    · split at h
      · cases h; exact wk (simple rfl)
      · cases h
    · cases h
  case call c =>
    obtain ⟨callee, args, types⟩ := c
    cases callee with
    | invoke r nm => cases h
    | builtin b =>
      simp only at h
      unfold builtinOp at h
      split at h
      · rename_i s x t tx ha ht
        cases hna
      · exact mp h
      · exact mp h
      · exact mp h
      · -- unsafeSliceData
        unfold dataOp at h
        split at h
        · split at h
          · split at h
            · cases h
              exact al fun t e => by cases e
            · cases h
          · cases h
        · cases h
      · -- unsafeString
        unfold textOp at h
        split at h
        · split at h
          · split at h
            · split at h
              · split at h
                · split at h
                  · cases h; exact wk (simple rfl)
                  · cases h
                · cases h
              · cases h
            · cases h
          · cases h
        · cases h
      · cases h
    | value f =>
      simp only at h
      have bk : ∀ {s : St} {R : List Nat} {hp : List Blk} {w : V} {b : Bool}, s = ({ st with hp := backHp st.hp R hp, al := keepAl R st.al } : St).putOwn dst w b →
          (∀ t, dst ≠ some t → s.fr.getD t .any = st.fr.getD t .any) ∧ (∀ id : Nat, id ∉ R ++ (List.range (s.hp.length - st.hp.length)).map (st.hp.length + ·) → s.hp[id]? = st.hp[id]?) ∧ (AlIn S st → AlIn S s) := fun {s R hp w b} e => by
        subst e
        refine ⟨fun t ht => by rw [putOwn_fr _ _ _ _ _ ht], fun id hid => ?_, fun ha => AlIn.putOwn (st := ({ st with hp := backHp st.hp R hp, al := keepAl R st.al } : St)) (fun p hp => ha p (List.mem_filter.1 hp).1) _ _ _⟩
        rw [putOwn_hp] at hid ⊢
        simp only [List.mem_append, List.mem_map, List.mem_range, not_or, not_exists, not_and] at hid
        simp only at hid ⊢
        by_cases hlt : id < st.hp.length
        · exact backHp_other hid.1 hlt
        · have hge := backHp_length_ge (hp := st.hp) (hp' := hp) (R := R)
          have : (backHp st.hp R hp).length ≤ id := by
            rcases Nat.lt_or_ge id (backHp st.hp R hp).length with h' | h'
            · exact absurd (show st.hp.length + (id - st.hp.length) = id by omega) (hid.2 (id - st.hp.length) (by omega))
            · exact h'
          rw [List.getElem?_eq_none this, List.getElem?_eq_none (by omega)]
      split at h
      · rename_i g cap hf
        have hT : fullAt { dst := dst, op := .call { callee := .value f, args := args, argTypes := types }, type := ty, pos := pos, after := after, guard := guard } st st' = reach st.hp (args.toList.map (ev st.fr) ++ cap) ++ (List.range (st'.hp.length - st.hp.length)).map (st.hp.length + ·) := by
          simp only [fullAt, hf]
        rw [hT]
        have wk2 : ∀ {R : List Nat} {T : List Nat}, ((∀ t, dst ≠ some t → st'.fr.getD t .any = st.fr.getD t .any) ∧ (∀ id : Nat, id ∉ ([] : List Nat) ++ T → st'.hp[id]? = st.hp[id]?) ∧ (AlIn S st → AlIn S st')) → (∀ t, dst ≠ some t → st'.fr.getD t .any = st.fr.getD t .any) ∧ (∀ id : Nat, id ∉ R ++ T → st'.hp[id]? = st.hp[id]?) ∧ (AlIn S st → AlIn S st') :=
          fun h => ⟨h.1, fun id hid => h.2.1 id fun hm => hid (List.mem_append.2 (.inr (by simpa using hm))), h.2.2⟩
        split at h
        · split at h
          · cases h; exact wk (simple rfl)
          · cases h
        split at h
        · split at h
          · cases h
            exact ⟨fun t ht => by rw [putOwn_fr _ _ _ _ _ ht], fun id _ => by rw [putOwn_hp], fun ha => AlIn.putOwn (st := ({ st with al := keepAl [] st.al } : St)) (fun p hp => ha p (List.mem_filter.1 hp).1) _ _ _⟩
          · cases h; exact wk2 (bk rfl)
          · cases h
        · split at h
          · split at h
            · cases h; exact bk rfl
            · cases h
          · cases h
      · rename_i id hf
        have hT : fullAt { dst := dst, op := .call { callee := .value f, args := args, argTypes := types }, type := ty, pos := pos, after := after, guard := guard } st st' = reach st.hp (.yld id :: args.toList.map (ev st.fr)) ++ (List.range (st'.hp.length - st.hp.length)).map (st.hp.length + ·) := by
          simp only [fullAt, hf]
        rw [hT]
        split at h
        · split at h
          · rename_i b hp hcl
            have e2 : ∀ (s : St) (v : V), s.putOwn dst v false = s.put dst v := fun s v => by cases dst <;> rfl
            rw [← e2] at h
            cases h
            exact bk rfl
          · cases h
        · cases h
      · cases h

theorem dropOwn_strip (st : St) (ow : Owner) (id : Nat) : ((dropOwn st ow).hp[id]?).map Blk.strip = (st.hp[id]?).map Blk.strip := by
  cases ow with
  | tmp t => rfl
  | cell i off =>
    simp only [dropOwn]
    split
    · rename_i t ow cs hb
      simp only
      by_cases e : i = id
      · subst e
        rw [List.getElem?_set_self (List.getElem?_eq_some_iff.1 hb).1, hb]; rfl
      · rw [List.getElem?_set_ne e]
    · rfl
  | base i off => rfl
theorem appendOp_strip {dst : Option Tmp} {t tx : TypeId} {s x : Operand} (h : appendOp cfg dst t tx s x st = some st') (id : Nat) : (st'.hp[id]?).map Blk.strip = (st.hp[id]?).map Blk.strip := by
  unfold appendOp at h
  split at h
  · split at h
    · split at h
      · cases h
      · split at h
        · split at h
          · split at h
            · cases h
            · split at h
              · rw [(appendTo_fr h).2.1]; exact dropOwn_strip _ _ _
              · cases h
          · cases h
        · rw [(appendTo_fr h).2.1]
        · cases h
    · cases h
  · cases h
theorem evOp_frame {S : Tmp → Prop} (h : evOp cfg orc false o st = some st') (hs : ∀ t, o.op = .move (.tmp t) → S t) :
    (∀ t, o.dst ≠ some t → st'.fr.getD t .any = st.fr.getD t .any) ∧ (∀ id : Nat, id ∉ fullAt o st st' → (st'.hp[id]?).map Blk.strip = (st.hp[id]?).map Blk.strip ∧ (isApp o = false → st'.hp[id]? = st.hp[id]?)) ∧ (AlIn S st → AlIn S st') := by
  cases hna : isApp o with
  | false =>
    obtain ⟨h1, h2, h3⟩ := evOp_frame0 h hs hna
    exact ⟨h1, fun id hid => ⟨by rw [h2 id hid], fun _ => h2 id hid⟩, h3⟩
  | true =>
    obtain ⟨dst, op, ty, pos, after, guard⟩ := o
    cases op <;> simp only [isApp] at hna <;> try (cases hna; done)
    rename_i c
    obtain ⟨callee, args, types⟩ := c
    cases callee with
    | invoke r nm => cases hna
    | value f => cases hna
    | builtin b =>
      cases b <;> simp only at hna <;> try (cases hna; done)
      simp only [evOp, Bool.false_and, Bool.false_eq_true, if_false] at h
      generalize args.toList = al at h
      generalize types.toList = tl at h
      rcases al with _ | ⟨s, _ | ⟨x, _ | ⟨z, al⟩⟩⟩ <;> rcases tl with _ | ⟨t, _ | ⟨tx, _ | ⟨u, tl⟩⟩⟩ <;> first | (cases h; done) | skip
      obtain ⟨h1, _, h3⟩ := appendOp_frame (show appendOp cfg dst t tx s x st = some st' from h)
      exact ⟨h1, fun id _ => ⟨appendOp_strip (show appendOp cfg dst t tx s x st = some st' from h) id, fun q => by simp [isApp] at q⟩, fun hal p hp => hal p (h3 p hp)⟩

end Go.Abs
/-! Operations that are not ordered may change places. -/
namespace Go.Abs
open Go.Lib
variable [BT] {cfg : Cfg} {orc : Orc} {st st' : St} {o : Oper} {ops : List Oper} {info : List (Bool × List Nat)} {n0 : Nat}

theorem looks_ops {d : Tmp} (h : d ∉ o.looksAt ops.toArray) : ∀ x ∈ o.op.operands, x ≠ .tmp d := fun x hx e => h (by
  subst e
  exact List.mem_append_left _ (List.mem_filterMap.2 ⟨.tmp d, by simpa using hx, rfl⟩))

theorem wantedV_fr {fr fr' : List V} (h : ∀ t ∈ o.looksAt ops.toArray, fr.getD t .any = fr'.getD t .any) : wantedV ops fr o = wantedV ops fr' o := by
  unfold wantedV
  split
  · rfl
  · rename_i j want hg
    split
    · rename_i d hd
      rw [h d (by simp [Oper.looksAt, hg, hd])]
    · rfl

theorem disj_symm {x y : List Nat} (h : disj x y = true) : disj y x = true := by
  simp only [disj, List.all_eq_true, Bool.not_eq_true'] at h ⊢
  intro i hi
  rw [Bool.eq_false_iff]
  intro hc
  have := h i (by simpa using hc)
  simp [hi] at this

theorem disj_nil {x : List Nat} : disj x [] = true := by simp [disj]

theorem disj_not {x y : List Nat} (h : disj x y = true) {i : Nat} (hi : i ∈ x) : i ∉ y := by
  simp only [disj, List.all_eq_true, Bool.not_eq_true'] at h
  have := h i hi
  simpa using this

theorem getD_set_ne' {gh : List (List Nat)} {i k : Nat} {T : List Nat} (h : i ≠ k) : (gh.set i T).getD k [] = gh.getD k [] := by
  simp only [List.getD_eq_getElem?_getD]; rw [List.getElem?_set_ne h]
theorem getD_set_eq {gh : List (List Nat)} {i : Nat} {T : List Nat} (h : i < gh.length) : (gh.set i T).getD i [] = T := by
  simp only [List.getD_eq_getElem?_getD]; rw [List.getElem?_set_self h]; rfl

theorem touched_swap {gh gh1 gh2 : List (List Nat)} {i j : Nat} {ci cj Ti Tj : List Nat} (h1 : touched gh i ci Ti = some gh1) (h2 : touched gh1 j cj Tj = some gh2) (hij : i ≠ j) (hs : ci.contains j = cj.contains i)
    (hi : gh.getD i [] = []) (hj : gh.getD j [] = []) (hil : i < gh.length) (hjl : j < gh.length) :
    (∃ gh', touched gh j cj Tj = some gh' ∧ touched gh' i ci Ti = some gh2) ∧ (ci.contains j = true → disj Ti Tj = true) := by
  unfold touched at h1 h2
  split at h1
  · rename_i he
    cases h1
    have hcj : cj.contains i = false := by rw [← hs]; cases ci <;> simp_all
    refine ⟨⟨gh2, ?_, ?_⟩, fun h => by rw [hs, hcj] at h; cases h⟩
    · unfold touched; exact h2
    · unfold touched; rw [if_pos he]
  · rename_i hne
    split at h1
    · rename_i hall
      cases h1
      split at h2
      · rename_i he
        cases h2
        have hci : ci.contains j = false := by rw [hs]; cases cj <;> simp_all
        refine ⟨⟨gh, ?_, ?_⟩, fun h => by rw [hci] at h; cases h⟩
        · unfold touched; rw [if_pos he]
        · unfold touched; rw [if_neg hne, if_pos hall]
      · rename_i hne2
        split at h2
        · rename_i hall2
          cases h2
          have hd : ci.contains j = true → disj Ti Tj = true := fun h => by
            rw [hs] at h
            have := List.all_eq_true.1 hall2 i (by simpa using h)
            rw [getD_set_eq hil] at this
            exact disj_symm this
          refine ⟨⟨gh.set j Tj, ?_, ?_⟩, hd⟩
          · unfold touched
            rw [if_neg hne2, if_pos]
            rw [List.all_eq_true] at hall2 ⊢
            intro k hk
            by_cases e : i = k
            · subst e; rw [hi]; exact disj_nil
            · have := hall2 k hk
              rwa [getD_set_ne' e] at this
          · unfold touched
            rw [if_neg hne, if_pos, List.set_comm _ _ (fun e => hij e.symm)]
            rw [List.all_eq_true] at hall ⊢
            intro k hk
            by_cases e : j = k
            · subst e; rw [getD_set_eq hjl]; exact hd (by simpa using hk)
            · rw [getD_set_ne' e]; exact hall k hk
        · cases h2
    · cases h1

theorem touched_other {gh gh' : List (List Nat)} {i : Nat} {c T : List Nat} (h : touched gh i c T = some gh') : gh'.length = gh.length ∧ ∀ k, i ≠ k → gh'.getD k [] = gh.getD k [] := by
  unfold touched at h
  split at h
  · cases h; exact ⟨rfl, fun _ _ => rfl⟩
  · split at h
    · cases h; exact ⟨by simp, fun k hk => getD_set_ne' hk⟩
    · cases h

structure Apart (ops : List Oper) (info : List (Bool × List Nat)) (S : Tmp → Prop) (i j : Nat) (x y : Oper) (cx : List Nat) (ly : Bool) (cy : List Nat) : Prop where
  ne : i ≠ j
  hx : ops[i]? = some x
  hy : ops[j]? = some y
  ix : info[i]? = some (true, cx)
  iy : info[j]? = some (ly, cy)
  d1 : ∀ d, x.dst = some d → d ∉ y.looksAt ops.toArray
  d2 : ∀ d, x.dst = some d → y.dst ≠ some d
  d3 : ∀ d, y.dst = some d → d ∉ x.looksAt ops.toArray
  cont : cx.contains j = cy.contains i
  mem : ly = false → looksIn x = true → writes y = true → cx.contains j = true
  src : ∀ d, x.dst = some d → ¬ S d
  srcY : ly = false → ∀ t, y.op = .move (.tmp t) → S t
  app : isAlloc x = true → isApp y = false

theorem fullAt_nil (h : writes o = false) : fullAt o st st' = [] := by
  unfold writes at h
  unfold fullAt
  cases ho : o.op <;> simp only [ho] at h ⊢ <;> try (cases h; done)
  rename_i c
  obtain ⟨callee, args, types⟩ := c
  cases callee <;> simp only at h ⊢ <;> first | done | cases h

theorem limAt_nil {hole : Nat} {fr : List V} (h : looksIn o = false) : limAt hole o fr = [] := by
  unfold looksIn at h
  unfold limAt
  cases ho : o.op <;> simp only [ho] at h ⊢ <;> cases h

theorem evD_lim {i : Nat} {x : Oper} {cx : List Nat} (hx : ops[i]? = some x) (hi : info[i]? = some (true, cx)) {s s' : DS} : evD cfg orc n0 ops info i s = some s' ↔
    ∃ v gh', s' = ⟨s.st.put x.dst v, gh'⟩ ∧ ((wantedV ops s.st.fr x = some false ∧ v = .tup [] ∧ gh' = s.gh) ∨
      (wantedV ops s.st.fr x = some true ∧ limV cfg orc (n0 + rank ops info i) x s.st.fr s.st.hp = some v ∧ touched s.gh i cx (limAt (n0 + rank ops info i) x s.st.fr) = some gh')) := by
  unfold evD
  rw [hx, hi]
  simp only
  constructor
  · intro h
    split at h
    · cases h
    · rename_i hw; cases h; exact ⟨.tup [], s.gh, rfl, .inl ⟨hw, rfl, rfl⟩⟩
    · rename_i hw
      simp only [if_true] at h
      split at h
      · cases h
      · rename_i v hv
        obtain ⟨gh, h1, h2⟩ := Option.map_eq_some_iff.1 h
        exact ⟨v, gh, h2.symm, .inr ⟨hw, hv, h1⟩⟩
  · rintro ⟨v, gh', rfl, ⟨hw, rfl, rfl⟩ | ⟨hw, hv, ht⟩⟩
    · rw [hw]
    · rw [hw]; simp [hv, ht]

theorem evD_full {j : Nat} {y : Oper} {cy : List Nat} (hy : ops[j]? = some y) (hj : info[j]? = some (false, cy)) {s s' : DS} : evD cfg orc n0 ops info j s = some s' ↔
    (wantedV ops s.st.fr y = some false ∧ s' = ⟨s.st.put y.dst (.tup []), s.gh⟩) ∨
      (wantedV ops s.st.fr y = some true ∧ ∃ st1 gh', s' = ⟨st1, gh'⟩ ∧ evOp cfg orc false y s.st = some st1 ∧ touched s.gh j cy (fullAt y s.st st1) = some gh') := by
  unfold evD
  rw [hy, hj]
  simp only
  constructor
  · intro h
    split at h
    · cases h
    · rename_i hw; cases h; exact .inl ⟨hw, rfl⟩
    · rename_i hw
      simp only [Bool.false_eq_true, if_false] at h
      split at h
      · cases h
      · rename_i st1 hv
        obtain ⟨gh, h1, h2⟩ := Option.map_eq_some_iff.1 h
        exact .inr ⟨hw, st1, gh, h2.symm, hv, h1⟩
  · rintro (⟨hw, rfl⟩ | ⟨hw, st1, gh', rfl, hv, ht⟩)
    · rw [hw]
    · rw [hw]; simp [hv, ht]

section
variable {S : Tmp → Prop} {i j : Nat} {x y : Oper} {cx cy : List Nat} {ly : Bool} {s s1 s2 : DS}

theorem Apart.noAl (A : Apart ops info S i j x y cx ly cy) (h : AlIn S st) : NoAl st x.dst := fun t ht p hp e => A.src t ht (h p hp t e)

theorem Apart.looksY (A : Apart ops info S i j x y cx ly cy) {v : V} : ∀ t ∈ y.looksAt ops.toArray, (st.put x.dst v).fr.getD t .any = st.fr.getD t .any := fun t ht =>
  put_fr st x.dst v t fun e => A.d1 t e ht

theorem Apart.opsY (A : Apart ops info S i j x y cx ly cy) : ∀ z ∈ y.op.operands, ∀ t, x.dst = some t → z ≠ .tmp t := fun z hz t ht => looks_ops (A.d1 t ht) z hz

theorem Apart.same (A : Apart ops info S i j x y cx ly cy) {fr' : List V} (h : ∀ t, y.dst ≠ some t → fr'.getD t .any = st.fr.getD t .any) :
    (∀ t ∈ x.looksAt ops.toArray, fr'.getD t .any = st.fr.getD t .any) ∧ ∀ z ∈ x.op.operands, ev fr' z = ev st.fr z := by
  have h1 : ∀ t ∈ x.looksAt ops.toArray, fr'.getD t .any = st.fr.getD t .any := fun t ht => h t fun e => A.d3 t e ht
  refine ⟨h1, fun z hz => ?_⟩
  cases z with
  | tmp t => exact h1 t (List.mem_append_left _ (List.mem_filterMap.2 ⟨.tmp t, by simpa using hz, rfl⟩))
  | _ => rfl

theorem Apart.light (A : Apart ops info S i j x y cx ly cy) {st1 : St} {hole : Nat} (hfr : ∀ t, y.dst ≠ some t → st1.fr.getD t .any = st.fr.getD t .any) (hhp : ∀ id ∈ limAt hole x st.fr, (st1.hp[id]?).map Blk.strip = (st.hp[id]?).map Blk.strip ∧ (isAlloc x = true → st1.hp[id]? = st.hp[id]?)) :
    wantedV ops st1.fr x = wantedV ops st.fr x ∧ limV cfg orc hole x st1.fr st1.hp = limV cfg orc hole x st.fr st.hp ∧ limAt hole x st1.fr = limAt hole x st.fr := by
  obtain ⟨h1, h2⟩ := A.same hfr
  have h3 : limAt hole x st1.fr = limAt hole x st.fr := limAt_fr h2
  refine ⟨wantedV_fr h1, ?_, h3⟩
  rw [limV_fr h2]
  exact limV_hp (fun id hid => (hhp id hid).1) fun ha => (hhp hole (by unfold isAlloc at ha; unfold limAt; split at ha <;> first | (rename_i e; rw [e]; simp) | cases ha)).2 ha

theorem swap1 (A : Apart ops info S i j x y cx ly cy) (hl : s.gh.length = ops.length) (hi : s.gh.getD i [] = []) (hj : s.gh.getD j [] = []) (hal : AlIn S s.st)
    (h1 : evD cfg orc n0 ops info i s = some s1) (h2 : evD cfg orc n0 ops info j s1 = some s2) : ∃ s1', evD cfg orc n0 ops info j s = some s1' ∧ evD cfg orc n0 ops info i s1' = some s2 := by
  have hil : i < s.gh.length := by rw [hl]; exact (List.getElem?_eq_some_iff.1 A.hx).1
  have hjl : j < s.gh.length := by rw [hl]; exact (List.getElem?_eq_some_iff.1 A.hy).1
  obtain ⟨v, gh1, rfl, hv⟩ := (evD_lim A.hx A.ix).1 h1
  have hwy : wantedV ops (s.st.put x.dst v).fr y = wantedV ops s.st.fr y := wantedV_fr A.looksY
  have hne : ∀ t, x.dst = some t → y.dst ≠ some t := A.d2
  -- the other one is not wanted
  have unw : wantedV ops s.st.fr y = some false → s2 = ⟨(s.st.put x.dst v).put y.dst (.tup []), gh1⟩ → evD cfg orc n0 ops info i ⟨s.st.put y.dst (.tup []), s.gh⟩ = some s2 := fun hw e => by
    subst e
    refine (evD_lim A.hx A.ix).2 ⟨v, gh1, by rw [put_comm hne], ?_⟩
    obtain ⟨e1, e2, e3⟩ := A.light (cfg := cfg) (orc := orc) (st := s.st) (st1 := s.st.put y.dst (.tup [])) (hole := n0 + rank ops info i) (fun t ht => put_fr _ _ _ _ ht) (fun id _ => by rw [hp_put]; exact ⟨rfl, fun _ => rfl⟩)
    simp only
    rw [e1, e2, e3]
    exact hv
  cases ly with
  | true =>
    obtain ⟨w, gh2, rfl, hw⟩ := (evD_lim A.hy A.iy).1 h2
    simp only at hw
    rw [hwy] at hw
    have hvy : limV cfg orc (n0 + rank ops info j) y (s.st.put x.dst v).fr (s.st.put x.dst v).hp = limV cfg orc (n0 + rank ops info j) y s.st.fr s.st.hp := by
      rw [hp_put]; exact limV_fr fun z hz => ev_put (A.opsY z hz)
    have hty : limAt (n0 + rank ops info j) y (s.st.put x.dst v).fr = limAt (n0 + rank ops info j) y s.st.fr := limAt_fr fun z hz => ev_put (A.opsY z hz)
    rw [hvy, hty] at hw
    rcases hw with ⟨hw, rfl, rfl⟩ | ⟨hw, hwv, hwt⟩
    · exact ⟨⟨s.st.put y.dst (.tup []), s.gh⟩, (evD_lim A.hy A.iy).2 ⟨.tup [], s.gh, rfl, .inl ⟨hw, rfl, rfl⟩⟩, unw hw rfl⟩
    · obtain ⟨e1, e2, e3⟩ := A.light (cfg := cfg) (orc := orc) (st := s.st) (st1 := s.st.put y.dst w) (hole := n0 + rank ops info i) (fun t ht => put_fr _ _ _ _ ht) (fun id _ => by rw [hp_put]; exact ⟨rfl, fun _ => rfl⟩)
      rcases hv with ⟨hx, rfl, rfl⟩ | ⟨hx, hxv, hxt⟩
      · exact ⟨⟨s.st.put y.dst w, gh2⟩, (evD_lim A.hy A.iy).2 ⟨w, gh2, rfl, .inr ⟨hw, hwv, hwt⟩⟩, (evD_lim A.hx A.ix).2 ⟨.tup [], gh2, by rw [put_comm hne], .inl ⟨e1.trans hx, rfl, rfl⟩⟩⟩
      · obtain ⟨⟨gh', t1, t2⟩, _⟩ := touched_swap hxt hwt A.ne A.cont hi hj hil hjl
        refine ⟨⟨s.st.put y.dst w, gh'⟩, (evD_lim A.hy A.iy).2 ⟨w, gh', rfl, .inr ⟨hw, hwv, t1⟩⟩, (evD_lim A.hx A.ix).2 ⟨v, gh2, by rw [put_comm hne], .inr ⟨e1.trans hx, e2.trans hxv, ?_⟩⟩⟩
        simp only
        rw [e3]; exact t2
  | false =>
    rcases (evD_full A.hy A.iy).1 h2 with ⟨hw, rfl⟩ | ⟨hw, st2, gh2, rfl, hev, hwt⟩
    · simp only at hw
      rw [hwy] at hw
      exact ⟨⟨s.st.put y.dst (.tup []), s.gh⟩, (evD_full A.hy A.iy).2 (.inl ⟨hw, rfl⟩), unw hw rfl⟩
    · simp only at hw hev hwt
      rw [hwy] at hw
      rw [evOp_put hne A.opsY (A.noAl hal)] at hev
      obtain ⟨st1, hst1, rfl⟩ := Option.map_eq_some_iff.1 hev
      rw [fullAt_put A.opsY (A.noAl hal)] at hwt
      obtain ⟨f1, f2, _⟩ := evOp_frame hst1 (A.srcY rfl)
      have fin : ∀ gh', touched s.gh j cy (fullAt y s.st st1) = some gh' → (∀ id ∈ limAt (n0 + rank ops info i) x s.st.fr, (st1.hp[id]?).map Blk.strip = (s.st.hp[id]?).map Blk.strip ∧ (isAlloc x = true → st1.hp[id]? = s.st.hp[id]?)) →
          ((wantedV ops s.st.fr x = some false ∧ v = .tup [] ∧ gh2 = gh') ∨ (wantedV ops s.st.fr x = some true ∧ limV cfg orc (n0 + rank ops info i) x s.st.fr s.st.hp = some v ∧ touched gh' i cx (limAt (n0 + rank ops info i) x s.st.fr) = some gh2)) →
          ∃ s1', evD cfg orc n0 ops info j s = some s1' ∧ evD cfg orc n0 ops info i s1' = some ⟨st1.put x.dst v, gh2⟩ := fun gh' ht hhp hc => by
        obtain ⟨e1, e2, e3⟩ := A.light (cfg := cfg) (orc := orc) (st := s.st) (st1 := st1) (hole := n0 + rank ops info i) f1 hhp
        refine ⟨⟨st1, gh'⟩, (evD_full A.hy A.iy).2 (.inr ⟨hw, st1, gh', rfl, hst1, ht⟩), (evD_lim A.hx A.ix).2 ⟨v, gh2, rfl, ?_⟩⟩
        simp only
        rw [e1, e2, e3]; exact hc
      rcases hv with ⟨hx, rfl, rfl⟩ | ⟨hx, hxv, hxt⟩
      · -- the light one is not wanted
        refine ⟨⟨st1, gh2⟩, (evD_full A.hy A.iy).2 (.inr ⟨hw, st1, gh2, rfl, hst1, hwt⟩), (evD_lim A.hx A.ix).2 ⟨.tup [], gh2, rfl, .inl ⟨?_, rfl, rfl⟩⟩⟩
        exact (wantedV_fr (A.same f1).1).trans hx
      · obtain ⟨⟨gh', t1, t2⟩, t3⟩ := touched_swap hxt hwt A.ne A.cont hi hj hil hjl
        have key : ∀ id ∈ limAt (n0 + rank ops info i) x s.st.fr, id ∉ fullAt y s.st st1 := fun id hid => by
          cases hlx : looksIn x with
          | false => rw [limAt_nil hlx] at hid; cases hid
          | true =>
            cases hwy2 : writes y with
            | false => rw [fullAt_nil hwy2]; simp
            | true => exact disj_not (t3 (A.mem rfl hlx hwy2)) hid
        exact fin gh' t1 (fun id hid => ⟨(f2 id (key id hid)).1, fun ha => (f2 id (key id hid)).2 (A.app ha)⟩) (.inr ⟨hx, hxv, t2⟩)

theorem swap2 (A : Apart ops info S i j x y cx ly cy) (hl : s.gh.length = ops.length) (hi : s.gh.getD i [] = []) (hj : s.gh.getD j [] = []) (hal : AlIn S s.st)
    (h1 : evD cfg orc n0 ops info j s = some s1) (h2 : evD cfg orc n0 ops info i s1 = some s2) : ∃ s1', evD cfg orc n0 ops info i s = some s1' ∧ evD cfg orc n0 ops info j s1' = some s2 := by
  have hil : i < s.gh.length := by rw [hl]; exact (List.getElem?_eq_some_iff.1 A.hx).1
  have hjl : j < s.gh.length := by rw [hl]; exact (List.getElem?_eq_some_iff.1 A.hy).1
  have hne : ∀ t, x.dst = some t → y.dst ≠ some t := A.d2
  obtain ⟨v, gh2, rfl, hv⟩ := (evD_lim A.hx A.ix).1 h2
  have hwy : wantedV ops (s.st.put x.dst v).fr y = wantedV ops s.st.fr y := wantedV_fr A.looksY
  -- the other one is not wanted
  have unw : ∀ {u : V}, s1 = ⟨s.st.put y.dst u, s.gh⟩ → evD cfg orc n0 ops info i s = some ⟨s.st.put x.dst v, gh2⟩ := fun {u} e => by
    subst e
    obtain ⟨e1, e2, e3⟩ := A.light (cfg := cfg) (orc := orc) (st := s.st) (st1 := s.st.put y.dst u) (hole := n0 + rank ops info i) (fun t ht => put_fr _ _ _ _ ht) (fun id _ => by rw [hp_put]; exact ⟨rfl, fun _ => rfl⟩)
    simp only at hv
    rw [e1, e2, e3] at hv
    exact (evD_lim A.hx A.ix).2 ⟨v, gh2, rfl, hv⟩
  cases ly with
  | true =>
    obtain ⟨w, gh1, rfl, hw⟩ := (evD_lim A.hy A.iy).1 h1
    have hvy : limV cfg orc (n0 + rank ops info j) y (s.st.put x.dst v).fr (s.st.put x.dst v).hp = limV cfg orc (n0 + rank ops info j) y s.st.fr s.st.hp := by
      rw [hp_put]; exact limV_fr fun z hz => ev_put (A.opsY z hz)
    have hty : limAt (n0 + rank ops info j) y (s.st.put x.dst v).fr = limAt (n0 + rank ops info j) y s.st.fr := limAt_fr fun z hz => ev_put (A.opsY z hz)
    obtain ⟨e1, e2, e3⟩ := A.light (cfg := cfg) (orc := orc) (st := s.st) (st1 := s.st.put y.dst w) (hole := n0 + rank ops info i) (fun t ht => put_fr _ _ _ _ ht) (fun id _ => by rw [hp_put]; exact ⟨rfl, fun _ => rfl⟩)
    rcases hw with ⟨hw, rfl, rfl⟩ | ⟨hw, hwv, hwt⟩
    · exact ⟨⟨s.st.put x.dst v, gh2⟩, unw rfl, (evD_lim A.hy A.iy).2 ⟨.tup [], gh2, by rw [put_comm hne], .inl ⟨hwy.trans hw, rfl, rfl⟩⟩⟩
    · simp only at hv
      rw [e1, e2, e3] at hv
      rcases hv with ⟨hx, rfl, rfl⟩ | ⟨hx, hxv, hxt⟩
      · refine ⟨⟨s.st.put x.dst (.tup []), s.gh⟩, (evD_lim A.hx A.ix).2 ⟨.tup [], s.gh, rfl, .inl ⟨hx, rfl, rfl⟩⟩, (evD_lim A.hy A.iy).2 ⟨w, gh2, by rw [put_comm hne], .inr ⟨hwy.trans hw, hvy.trans hwv, ?_⟩⟩⟩
        simp only
        rw [hty]; exact hwt
      · obtain ⟨⟨gh', t1, t2⟩, _⟩ := touched_swap hwt hxt (fun e => A.ne e.symm) A.cont.symm hj hi hjl hil
        refine ⟨⟨s.st.put x.dst v, gh'⟩, (evD_lim A.hx A.ix).2 ⟨v, gh', rfl, .inr ⟨hx, hxv, t1⟩⟩, (evD_lim A.hy A.iy).2 ⟨w, gh2, by rw [put_comm hne], .inr ⟨hwy.trans hw, hvy.trans hwv, ?_⟩⟩⟩
        simp only
        rw [hty]; exact t2
  | false =>
    rcases (evD_full A.hy A.iy).1 h1 with ⟨hw, rfl⟩ | ⟨hw, st1, gh1, rfl, hev, hwt⟩
    · exact ⟨⟨s.st.put x.dst v, gh2⟩, unw rfl, (evD_full A.hy A.iy).2 (.inl ⟨hwy.trans hw, by rw [put_comm hne]⟩)⟩
    · obtain ⟨f1, f2, _⟩ := evOp_frame hev (A.srcY rfl)
      have hev2 : evOp cfg orc false y (s.st.put x.dst v) = some (st1.put x.dst v) := by rw [evOp_put hne A.opsY (A.noAl hal), hev]; rfl
      simp only at hv
      have hwx : wantedV ops st1.fr x = wantedV ops s.st.fr x := wantedV_fr (A.same f1).1
      have hax : limAt (n0 + rank ops info i) x st1.fr = limAt (n0 + rank ops info i) x s.st.fr := limAt_fr (A.same f1).2
      rw [hwx, hax] at hv
      rcases hv with ⟨hx, rfl, rfl⟩ | ⟨hx, hxv, hxt⟩
      · refine ⟨⟨s.st.put x.dst (.tup []), s.gh⟩, (evD_lim A.hx A.ix).2 ⟨.tup [], s.gh, rfl, .inl ⟨hx, rfl, rfl⟩⟩, (evD_full A.hy A.iy).2 (.inr ⟨hwy.trans hw, _, gh2, rfl, hev2, ?_⟩)⟩
        simp only
        rw [fullAt_put A.opsY (A.noAl hal)]; exact hwt
      · obtain ⟨⟨gh', t1, t2⟩, t3⟩ := touched_swap hwt hxt (fun e => A.ne e.symm) A.cont.symm hj hi hjl hil
        have hk : ∀ id ∈ limAt (n0 + rank ops info i) x s.st.fr, id ∉ fullAt y s.st st1 := fun id hid => (by
          cases hlx : looksIn x with
          | false => rw [limAt_nil hlx] at hid; cases hid
          | true =>
            cases hwy2 : writes y with
            | false => rw [fullAt_nil hwy2]; simp
            | true => exact disj_not (disj_symm (t3 (by rw [← A.cont]; exact A.mem rfl hlx hwy2))) hid)
        have hhp : ∀ id ∈ limAt (n0 + rank ops info i) x s.st.fr, (st1.hp[id]?).map Blk.strip = (s.st.hp[id]?).map Blk.strip ∧ (isAlloc x = true → st1.hp[id]? = s.st.hp[id]?) := fun id hid => ⟨(f2 id (hk id hid)).1, fun ha => (f2 id (hk id hid)).2 (A.app ha)⟩
        obtain ⟨e1, e2, e3⟩ := A.light (cfg := cfg) (orc := orc) (st := s.st) (st1 := st1) (hole := n0 + rank ops info i) f1 hhp
        rw [e2] at hxv
        refine ⟨⟨s.st.put x.dst v, gh'⟩, (evD_lim A.hx A.ix).2 ⟨v, gh', rfl, .inr ⟨hx, hxv, t1⟩⟩, (evD_full A.hy A.iy).2 (.inr ⟨hwy.trans hw, _, gh2, rfl, hev2, ?_⟩)⟩
        simp only
        rw [fullAt_put A.opsY (A.noAl hal)]; exact t2
end

end Go.Abs
/-! A region that draws its order: whatever is drawn, it comes to what the text's order comes to. -/
namespace Go.Abs
open Go.Lib
variable [BT] {F : Fence} {n : Nat} {P : Program} {cfg : Cfg} {B : Base} {W : World} {I : Nat → Nat → Prop} {m : List (Option Nat)} {st st' : St} {a : Act} {o : Oper} {orc : Orc} {info : List (Bool × List Nat)} {n0 : Nat}

theorem wanted_sim (h : Sim B W I m st a.tmps) {ops : Array Oper} {b : Bool} (hw : wantedV ops.toList st.fr o = some b) : Region.wanted o (yielded ops a.tmps) = b := by
  unfold wantedV at hw
  unfold Region.wanted
  split at hw
  · rename_i hg
    cases hw
    simp [hg]
  · rename_i j want hg
    simp only [hg]
    split at hw
    · rename_i d hd
      split at hw
      · rename_i b' hb'
        cases hw
        have hfr := fr_get (st := st) (u := d) (x := .bool b') (by simp) (by simp only [ev]; exact hb')
        have hrel := rel_bool_inv (h.fr d _ hfr)
        have hlt : d < a.tmps.size := by rw [h.len]; exact (List.getElem?_eq_some_iff.1 hfr).1
        have hget : a.tmps[d]? = some (.bool b') := by rw [get_of_lt hlt, hrel]
        have hd' : (ops[j]?).bind (·.dst) = some d := by rw [← hd, Array.getElem?_toList]
        have hy : yielded ops a.tmps j = some b' := by unfold yielded; rw [hd']; simp only [Option.bind_some, hget]
        rw [hy]
        cases b' <;> cases want <;> rfl
      · rename_i hu
        cases hw
        have hfr := fr_get (st := st) (u := d) (x := .tup []) (by simp) (by simp only [ev]; exact hu)
        have hrel := h.fr d _ hfr
        have hlt : d < a.tmps.size := by rw [h.len]; exact (List.getElem?_eq_some_iff.1 hfr).1
        have hd' : (ops[j]?).bind (·.dst) = some d := by rw [← hd, Array.getElem?_toList]
        have hy : yielded ops a.tmps j = none := by
          unfold yielded
          rw [hd']
          generalize hg : a.tmps.getD d undef = x at hrel
          have hget : a.tmps[d]? = some x := by rw [get_of_lt hlt, hg]
          cases hrel
          simp only [Option.bind_some, hget]
        rw [hy]
        cases want <;> rfl
      · cases hw
    · cases hw

theorem Sim.rebase {tmps : Array Value} (h : Sim B W I m st tmps) : Sim { B with m := m } W I m st tmps :=
  ⟨⟨h.grow.os, h.grow.tape, h.grow.output, h.grow.size, h.grow.same, h.grow.sub, h.grow.fresh, h.grow.keep, h.grow.dfr, h.grow.dnd⟩, List.prefix_refl _, h.live, h.len, h.fr, h.mlen, h.inj, h.blk, h.mA, h.notI, h.own, h.ownA, h.ownInj, h.al, h.nb⟩

theorem Sim.unbase {tmps : Array Value} {m0 : List (Option Nat)} (h : Sim { B with m := m0 } W I m st tmps) (hp : B.m <+: m0) : Sim B W I m st tmps :=
  ⟨⟨h.grow.os, h.grow.tape, h.grow.output, h.grow.size, h.grow.same, h.grow.sub, h.grow.fresh, h.grow.keep, h.grow.dfr, h.grow.dnd⟩, List.IsPrefix.trans hp h.pre, h.live, h.len, h.fr, h.mlen, h.inj, h.blk, h.mA, h.notI, h.own, h.ownA, h.ownInj, h.al, h.nb⟩

theorem pre_set {m0 : List (Option Nat)} {k : Nat} {x : Option Nat} (h : m0 <+: m) (hk : m0.length ≤ k) : m0 <+: m.set k x := by
  obtain ⟨r, rfl⟩ := h
  exact ⟨r.set (k - m0.length) x, by rw [List.set_append_right _ _ hk]⟩

theorem beqN {x y : List Nat} (h : (x == y) = true) : x = y := by simpa using h

theorem lim_sim (hok : cfg.Ok P) (hF : FOk F) (hcall : CallOk P orc) {hole : Nat} {v : V} (hev : limV cfg orc hole o st.fr st.hp = some v) (h : Sim B W I m st a.tmps) (hh : B.m.length ≤ hole) (hm : isAlloc o = true → m[hole]? = some none)
    {next : Act → World → Prop} {Q : Exit → Act → World → Prop}
    (k : ∀ a' W' I' m', a'.defers = a.defers → Sim B W' I' m' (st.put o.dst v) a'.tmps → (∀ j : Nat, m[j]? = some none → (isAlloc o = true → j ≠ hole) → m'[j]? = some none) → next a' W') : o.wpIn F n P a W next Q := by
  by_cases hal : isAlloc o = true
  · have hm1 := hm hal
    clear hm
    have hm := hm1
    obtain ⟨dst, op, ty, pos, after, guard⟩ := o
    cases op <;> simp only [isAlloc, Bool.false_eq_true] at hal
    rename_i t
    simp only [limV] at hev
    split at hev
    · rename_i ti t' ow cs hti hb
      split at hev
      · rename_i hc
        cases hev
        simp only [Bool.and_eq_true] at hc
        obtain ⟨⟨ht, how⟩, hcs⟩ := hc
        have ht := Nat.eq_of_beq_eq_true ht
        have how := beqN how
        have hcs := beqL_eq hcs
        subst ht; subst how; subst hcs
        obtain ⟨i, d, z, T⟩ := hok.ty _ _ hti
        have hz : (zeroValue t).run P W = .ok z W := by simp [zeroValue, typeInfo, T.info, T.zero]
        have hr := rowRel_zero (W := W) (I := I) (m := m) T
        have hlt : hole < m.length := (List.getElem?_eq_some_iff.1 hm).1
        have hS := h.lay (m' := m.set hole (some W.heap.size)) (hp' := st.hp) hole (nilOffs 0 ti.zero) ti.zero z.cells t ⟨Nat.le_of_eq hr.1.symm, fun _ => hr.1⟩ hr.2.1 hr.2.2 (fun j d xs hj hx => by
            rw [T.zeq] at hx
            simp only [List.getElem?_map, Option.map_eq_some_iff, Array.getElem?_toList] at hx
            obtain ⟨w, h1, h2⟩ := hx
            obtain ⟨rfl, rfl⟩ := ofConst_sl h2
            exact ⟨none, getD_arr h1⟩) (pre_set h.pre hh) (by simp [h.mlen]) (fun j => by
            rw [List.getElem?_set]
            by_cases e : hole = j
            · subst e; simp [hlt]
            · rw [if_neg e, if_neg (fun e' => e e'.symm)]) (fun j => by
            split
            · rename_i e; subst e; exact hb
            · rfl) fun g hg => by rw [hm] at hg; cases hg
        have hrel : Rel (W.alloc (.cells z.cells t)) I (m.set hole (some W.heap.size)) (.ptr hole 0) (.pointer (some ⟨W.heap.size, 0, none⟩)) := .ptr (by rw [List.getElem?_set_self hlt])
        refine wp_value hF (by simp) (w := .pointer (some ⟨W.heap.size, 0, none⟩)) (W' := W.alloc (.cells z.cells t)) ?_ ?_
        · simp only [execOp, Instr.alloc, Sem.run_bind, hz, Result.andThen_ok, newVar, Go.newRow, run_newObj, Sem.run_pure]
          rfl
        · have h2 := hS.put dst hrel
          refine k _ _ I _ (put_defers _ _ _) (by rw [put_tmps]; exact h2) fun j hj hne => ?_
          rw [List.getElem?_set_ne (fun e => hne rfl e.symm)]; exact hj
      · cases hev
    · cases hev
  · have hna : ∀ t, o.op ≠ .alloc t := fun t e => hal (by simp [isAlloc, e])
    have hev' : evOp cfg orc true o st = some (st.put o.dst v) := by rw [evOp_lim hole hna, hev]; rfl
    refine evOp_sim hok hF hcall hev' h.rebase fun a' W' ⟨hd, I', m', hS⟩ => ?_
    exact k a' W' I' m' hd (hS.unbase h.pre) fun j hj _ => pre_get hS.pre hj

theorem evD_sim (hok : cfg.Ok P) (hF : FOk F) (hcall : CallOk P orc) {ops : Array Oper} {i : Nat} {s s1 : DS} (hev : evD cfg orc n0 ops.toList info i s = some s1) (h : Sim B W I m s.st a.tmps) (hn0 : B.m.length ≤ n0)
    (hm : ∀ o c, ops[i]? = some o → info[i]? = some (true, c) → isAlloc o = true → m[n0 + rank ops.toList info i]? = some none)
    {K : Act → World → Prop} {Q : Exit → Act → World → Prop}
    (k : ∀ a' W' I' m', a'.defers = a.defers → Sim B W' I' m' s1.st a'.tmps →
      (∀ j : Nat, m[j]? = some none → (∀ o c, ops[i]? = some o → info[i]? = some (true, c) → isAlloc o = true → j ≠ n0 + rank ops.toList info i) → m'[j]? = some none) → K a' W') : wpOpIn F n P ops Q i K a W := by
  unfold evD at hev
  unfold wpOpIn
  rw [Array.getElem?_toList] at hev
  split at hev
  · rename_i o lim cont ho hi
    rw [ho]
    simp only
    split at hev
    · cases hev
    · rename_i hw
      cases hev
      rw [if_neg (by rw [wanted_sim h hw]; simp)]
      exact ⟨fun f _ => hF.fn f, k _ _ I m (put_defers _ _ _) (by rw [put_tmps]; exact h.put o.dst rel_und) fun j hj _ => hj⟩
    · rename_i hw
      rw [if_pos (wanted_sim h hw)]
      split at hev
      · rename_i hl
        subst hl
        split at hev
        · cases hev
        · rename_i v hv
          obtain ⟨gh, _, rfl⟩ := Option.map_eq_some_iff.1 hev
          exact lim_sim hok hF hcall hv h (Nat.le_trans hn0 (Nat.le_add_right _ _)) (hm o cont ho hi) fun a' W' I' m' hd hS hmm => k a' W' I' m' hd hS fun j hj hne => hmm j hj fun hal => hne o cont ho hi hal
      · split at hev
        · cases hev
        · rename_i st1 hop
          obtain ⟨gh, _, rfl⟩ := Option.map_eq_some_iff.1 hev
          refine evOp_sim hok hF hcall hop h.rebase fun a' W' ⟨hd, I', m', hS⟩ => ?_
          exact k a' W' I' m' hd (hS.unbase h.pre) fun j hj _ => pre_get hS.pre hj
  · cases hev

def Srcs (ops : List Oper) (info : List (Bool × List Nat)) (t : Tmp) : Prop := ∃ (k : Nat) (y : Oper) (c : List Nat), ops[k]? = some y ∧ info[k]? = some (false, c) ∧ y.op = .move (.tmp t)

def Indep (ops : List Oper) (info : List (Bool × List Nat)) (i j : Nat) : Prop := ∃ x y cx ly cy, Apart ops info (Srcs ops info) i j x y cx ly cy

theorem evD_inv {ops : List Oper} {i : Nat} {s s' : DS} (h : evD cfg orc n0 ops info i s = some s') :
    s'.gh.length = s.gh.length ∧ (∀ k, i ≠ k → s'.gh.getD k [] = s.gh.getD k []) ∧ (AlIn (Srcs ops info) s.st → AlIn (Srcs ops info) s'.st) := by
  unfold evD at h
  split at h
  · rename_i o lim cont ho hi
    split at h
    · cases h
    · cases h; exact ⟨rfl, fun _ _ => rfl, fun ha => ha.put _ _⟩
    · split at h
      · split at h
        · cases h
        · obtain ⟨gh, ht, rfl⟩ := Option.map_eq_some_iff.1 h
          obtain ⟨h1, h2⟩ := touched_other ht
          exact ⟨h1, h2, fun ha => ha.put _ _⟩
      · rename_i hl
        split at h
        · cases h
        · rename_i st1 hop
          obtain ⟨gh, ht, rfl⟩ := Option.map_eq_some_iff.1 h
          obtain ⟨h1, h2⟩ := touched_other ht
          have hl : lim = false := by simpa using hl
          subst hl
          exact ⟨h1, h2, (evOp_frame hop fun t he => ⟨i, o, cont, ho, hi, he⟩).2.2⟩
  · cases h

theorem front {ops : List Oper} {i : Nat} {post : List Nat} : ∀ (pre : List Nat) {s s' : DS}, s.gh.length = ops.length → AlIn (Srcs ops info) s.st → s.gh.getD i [] = [] → (∀ b ∈ pre, s.gh.getD b [] = []) → pre.Nodup → i ∉ pre →
    (∀ b ∈ pre, Indep ops info b i ∨ Indep ops info i b) → evDs cfg orc n0 ops info (pre ++ i :: post) s = some s' → evDs cfg orc n0 ops info (i :: (pre ++ post)) s = some s'
  | [], s, s', _, _, _, _, _, _, _, h => h
  | b :: pre, s, s', hl, hal, hi, hb, hnd, hni, hin, h => by
    simp only [List.cons_append, evDs] at h
    rcases h1 : evD cfg orc n0 ops info b s with _ | s1
    · rw [h1] at h; cases h
    · rw [h1] at h
      simp only at h
      simp only [List.mem_cons, not_or] at hni
      obtain ⟨q1, q2, q3⟩ := evD_inv h1
      have hbn := (List.nodup_cons.1 hnd).1
      have := front pre (s := s1) (s' := s') (by rw [q1, hl]) (q3 hal) (by rw [q2 i fun e => hni.1 e.symm]; exact hi) (fun c hc => by rw [q2 c fun e => hbn (e ▸ hc)]; exact hb c (List.mem_cons_of_mem _ hc)) (List.nodup_cons.1 hnd).2 hni.2
        (fun c hc => hin c (List.mem_cons_of_mem _ hc)) h
      simp only [evDs] at this
      rcases h2 : evD cfg orc n0 ops info i s1 with _ | s2
      · rw [h2] at this; cases this
      · rw [h2] at this
        simp only at this
        have hsw : ∃ s1', evD cfg orc n0 ops info i s = some s1' ∧ evD cfg orc n0 ops info b s1' = some s2 := by
          rcases hin b List.mem_cons_self with ⟨x, y, cx, ly, cy, A⟩ | ⟨x, y, cx, ly, cy, A⟩
          · exact swap1 A hl (hb b List.mem_cons_self) hi hal h1 h2
          · exact swap2 A hl hi (hb b List.mem_cons_self) hal h1 h2
        obtain ⟨s1', h3, h4⟩ := hsw
        simp only [List.cons_append, evDs, h3, h4]
        exact this

structure Preds (ops : List Oper) (pr : List (List Nat)) : Prop where
  lt : ∀ i p, p ∈ pr.getD i [] → i < ops.length → p < i
  edge : ∀ i o, ops[i]? = some o → ∀ e ∈ o.after, Region.binds .any e = true → e.on < i ∧ e.on ∈ pr.getD i []
  back : ∀ i o, ops[i]? = some o → ∀ p ∈ pr.getD i [], ∃ e ∈ o.after, Region.binds .any e = true ∧ (e.on = p ∨ p ∈ pr.getD e.on [])

theorem preds_of {ops : List Oper} {pr : List (List Nat)} (h : predsOk ops pr = true) : Preds ops pr := by
  simp only [predsOk, List.all_eq_true, List.mem_range] at h
  have key : ∀ i o, ops[i]? = some o → _ := fun i o ho => by
    have := h i (List.getElem?_eq_some_iff.1 ho).1
    rw [ho] at this
    exact this
  refine ⟨fun i p hp hi => ?_, fun i o ho e he hb => ?_, fun i o ho p hp => ?_⟩
  · have := key i _ (List.getElem?_eq_getElem hi)
    simp only [Bool.and_eq_true, List.all_eq_true] at this
    simpa using this.1.1 p hp
  · have := key i o ho
    simp only [Bool.and_eq_true, List.all_eq_true] at this
    have := this.1.2 e (by simpa using he)
    simp only [hb, Bool.not_true, Bool.false_or, Bool.and_eq_true, List.contains_iff_mem] at this
    exact ⟨by simpa using this.1.1, this.1.2⟩
  · have := key i o ho
    simp only [Bool.and_eq_true, List.all_eq_true] at this
    have := this.2 p hp
    simp only [List.any_eq_true, Bool.and_eq_true, Bool.or_eq_true] at this
    obtain ⟨e, he, hb, hc⟩ := this
    exact ⟨e, by simpa using he, hb, hc.imp (fun h => Nat.eq_of_beq_eq_true h) fun h => by simpa using h⟩

theorem isSource_of {o : Oper} {t : Tmp} (h : o.op = .move (.tmp t)) : isSource o (some t) = true := by
  simp [isSource, h]

theorem indep_of {ops : List Oper} (hd : drawsOk ops info = true) {i j : Nat} (hij : i ≠ j) (h : isLim info i = true ∧ apartOk ops info i j = true) : Indep ops info i j := by
  obtain ⟨h1, h2⟩ := h
  unfold apartOk at h2
  split at h2
  · rename_i x y lx cx ly cy hx hy hix hiy
    simp only [Bool.and_eq_true, Bool.or_eq_true, Bool.not_eq_true'] at h2
    obtain ⟨⟨⟨h3, h4⟩, h5⟩, h6⟩ := h2
    have hl : lx = true := by simpa [isLim, hix] using h1
    subst hl
    obtain ⟨d1, d2, d3⟩ := Oper.apart_spec h3
    refine ⟨x, y, cx, ly, cy, hij, hx, hy, hix, hiy, d1, d2, d3, by simpa using h4, fun hly hlx hwy => ?_, fun d hxd ⟨k, z, c, hz, hk, he⟩ => ?_, fun hly t ht => ⟨j, y, cy, hy, by rw [hiy, hly], ht⟩, fun ha => by rw [ha, Bool.true_and] at h6; exact h6⟩
    · rcases h5 with (h5 | h5) | h5
      · rw [hly] at h5; cases h5
      · rw [hlx, hwy] at h5; cases h5
      · exact h5
    · simp only [drawsOk, Bool.and_eq_true] at hd
      have := List.all_eq_true.1 hd.1.2 i (List.mem_range.2 (List.getElem?_eq_some_iff.1 hx).1)
      simp only [h1, Bool.not_true, Bool.false_or, List.all_eq_true, List.mem_range] at this
      have := this k (List.getElem?_eq_some_iff.1 hz).1
      have hkl : isLim info k = false := by simp [isLim, hk]
      rw [hkl, hx, hz] at this
      simp only [Bool.false_or, Bool.not_eq_true'] at this
      rw [hxd, isSource_of he] at this
      cases this
  · cases h2

theorem drawn_of {ops : List Oper} (hd : drawsOk ops info = true) {i j : Nat} (hij : i < j) (hj : j < ops.length) : i ∈ (preds ops 0 []).getD j [] ∨ Indep ops info i j ∨ Indep ops info j i := by
  have hd0 := hd
  simp only [drawsOk, Bool.and_eq_true] at hd
  have := List.all_eq_true.1 hd.1.1.2 j (List.mem_range.2 hj)
  have := List.all_eq_true.1 this i (List.mem_range.2 hij)
  simp only [Bool.or_eq_true, Bool.and_eq_true, List.contains_iff_mem] at this
  rcases this with (h | h) | h
  · exact .inl h
  · exact .inr (.inl (indep_of hd0 (by omega) h))
  · exact .inr (.inr (indep_of hd0 (by omega) h))

def rem (n : Nat) (listed : Array Bool) : List Nat := (List.range n).filter fun i => !listed.getD i true

theorem mem_rem {k n : Nat} {listed : Array Bool} : k ∈ rem n listed ↔ k < n ∧ listed.getD k true = false := by simp [rem]

theorem rem_sorted {n : Nat} {listed : Array Bool} : (rem n listed).Pairwise (· < ·) := List.Pairwise.filter _ List.pairwise_lt_range

theorem rem_set {n i : Nat} {listed : Array Bool} {pre post : List Nat} (hs : listed.size = n) (h : rem n listed = pre ++ i :: post) : rem n (listed.setIfInBounds i true) = pre ++ post := by
  have hsort := rem_sorted (n := n) (listed := listed)
  rw [h] at hsort
  have hi : i < n := (mem_rem.1 (by rw [h]; simp : i ∈ rem n listed)).1
  have e : rem n (listed.setIfInBounds i true) = (rem n listed).filter fun k => k != i := by
    unfold rem
    rw [List.filter_filter]
    apply List.filter_congr
    intro k hk
    rw [List.mem_range] at hk
    by_cases hki : i = k
    · subst hki; simp [hs, hi]
    · rw [getD_set_ne true hki]
      have : (k != i) = true := by simpa using fun e => hki e.symm
      rw [this, Bool.true_and]
  rw [e, h, List.filter_append, List.filter_cons_of_neg (by simp)]
  simp only [List.pairwise_append, List.pairwise_cons] at hsort
  congr 1
  · rw [List.filter_eq_self]
    intro k hk
    have := hsort.2.2 k hk i List.mem_cons_self
    simp; omega
  · rw [List.filter_eq_self]
    intro k hk
    have := hsort.2.1.1 k hk
    simp; omega

theorem listed_conv {listed : Array Bool} {i : Nat} (h : i < listed.size) : listed.getD i true = listed.getD i false := by simp [h]

theorem rank_lt {ops : List Oper} : ∀ {info : List (Bool × List Nat)} {i j : Nat}, i < j → ∀ {o : Oper} {c : List Nat}, ops[i]? = some o → info[i]? = some (true, c) → isAlloc o = true → rank ops info i < rank ops info j := by
  induction ops with
  | nil => intro info i j _ o c h; simp at h
  | cons o0 ops ih =>
    intro info i j hij o c ho hi hal
    cases info with
    | nil => simp at hi
    | cons x info =>
      obtain ⟨l, c0⟩ := x
      cases j with
      | zero => omega
      | succ j =>
        cases i with
        | zero =>
          simp only [List.getElem?_cons_zero, Option.some.injEq, Prod.mk.injEq] at ho hi
          obtain ⟨rfl, rfl⟩ := hi
          subst ho
          simp [rank, hal]
          omega
        | succ i =>
          simp only [List.getElem?_cons_succ] at ho hi
          have := ih (by omega : i < j) ho hi hal
          simp only [rank]
          omega

section
variable {ops : Array Oper} {Q : Exit → Act → World → Prop} {s' : DS}

theorem draw_any (hok : cfg.Ok P) (hF : FOk F) (hcall : CallOk P orc) (hd : drawsOk ops.toList info = true) (hn0 : B.m.length ≤ n0) : ∀ (fuel : Nat) (listed : Array Bool) {s : DS} {a : Act} {W : World} {I : Nat → Nat → Prop} {m : List (Option Nat)},
    listed.size = ops.size → (rem ops.size listed).length ≤ fuel → (∀ i, listed.getD i false = true → ∀ p ∈ (preds ops.toList 0 []).getD i [], listed.getD p false = true) →
    s.gh.length = ops.size → (∀ k ∈ rem ops.size listed, s.gh.getD k [] = []) → AlIn (Srcs ops.toList info) s.st →
    (∀ k ∈ rem ops.size listed, ∀ o c, ops[k]? = some o → info[k]? = some (true, c) → isAlloc o = true → m[n0 + rank ops.toList info k]? = some none) →
    Sim B W I m s.st a.tmps → evDs cfg orc n0 ops.toList info (rem ops.size listed) s = some s' → (∀ a' W', After B s'.st a.defers a' W' → Q .normal a' W') → wpAnyIn F n P .any ops Q fuel listed a W := by
  have hpo : Preds ops.toList (preds ops.toList 0 []) := preds_of (by
    simp only [drawsOk, Bool.and_eq_true] at hd
    exact hd.1.1.1.2)
  have ready_rem : ∀ {listed : Array Bool} {i : Nat}, i ∈ Region.ready .any ops listed → i ∈ rem ops.size listed := fun {listed i} hi => by
    obtain ⟨h0, o, ho, _⟩ := mem_ready.1 hi
    exact mem_rem.2 ⟨(Array.getElem?_eq_some_iff.1 ho).1, h0⟩
  have rem_ready : ∀ {listed : Array Bool}, listed.size = ops.size → Region.ready .any ops listed = [] → rem ops.size listed = [] := fun {listed} hs hr => by
    rcases h : rem ops.size listed with _ | ⟨i, r⟩
    · rfl
    · exfalso
      have hsort := rem_sorted (n := ops.size) (listed := listed)
      rw [h] at hsort
      have hi := mem_rem.1 (by rw [h]; simp : i ∈ rem ops.size listed)
      have : i ∈ Region.ready .any ops listed := by
        refine mem_ready.2 ⟨hi.2, ops[i], Array.getElem?_eq_getElem hi.1, fun e he hb => ?_⟩
        obtain ⟨hlt, _⟩ := hpo.edge i ops[i] (by rw [Array.getElem?_toList]; exact Array.getElem?_eq_getElem hi.1) e he hb
        rw [← listed_conv (by omega)]
        cases hc : listed.getD e.on true with
        | true => rfl
        | false =>
          have hm : e.on ∈ rem ops.size listed := mem_rem.2 ⟨by omega, hc⟩
          rw [h] at hm
          rcases List.mem_cons.1 hm with e1 | hm
          · omega
          · have := (List.pairwise_cons.1 hsort).1 _ hm
            omega
      rw [hr] at this
      cases this
  intro fuel
  induction fuel with
  | zero =>
    intro listed s a W I m hs hl hcl hgl hg hal hm h hev k
    have h0 : rem ops.size listed = [] := List.eq_nil_of_length_eq_zero (by omega)
    rw [h0] at hev
    simp only [evDs, Option.some.injEq] at hev
    subst hev
    refine ⟨?_, k _ _ ⟨rfl, I, m, h⟩⟩
    rcases hr : Region.ready .any ops listed with _ | ⟨i, r⟩
    · rfl
    · have : i ∈ rem ops.size listed := ready_rem (by rw [hr]; simp)
      rw [h0] at this
      cases this
  | succ fuel ih =>
    intro listed s a W I m hs hl hcl hgl hg hal hm h hev k
    refine ⟨fun hr => ?_, fun i hi => ?_⟩
    · rw [rem_ready hs hr] at hev
      simp only [evDs, Option.some.injEq] at hev
      subst hev
      exact k _ _ ⟨rfl, I, m, h⟩
    · obtain ⟨h0, o, ho, hall⟩ := mem_ready.1 hi
      have him := ready_rem hi
      obtain ⟨pre, post, hsplit⟩ := List.append_of_mem him
      have hsort := rem_sorted (n := ops.size) (listed := listed)
      rw [hsplit] at hsort hev
      have hnd : (pre ++ i :: post).Nodup := hsort.imp fun h => by omega
      simp only [List.nodup_append, List.nodup_cons] at hnd
      simp only [List.pairwise_append, List.pairwise_cons] at hsort
      have hip : i ∉ pre := fun hip => hnd.2.2 i hip i List.mem_cons_self rfl
      have hrem : ∀ b ∈ pre, b ∈ rem ops.size listed := fun b hb => by rw [hsplit]; simp [hb]
      -- what comes before it is listed
      have hpre : ∀ p ∈ (preds ops.toList 0 []).getD i [], listed.getD p false = true := fun p hp => by
        obtain ⟨e, he, hb, hc⟩ := hpo.back i o (by rw [Array.getElem?_toList]; exact ho) p hp
        rcases hc with rfl | hc
        · exact hall e he hb
        · exact hcl _ (hall e he hb) p hc
      have hind : ∀ b ∈ pre, Indep ops.toList info b i ∨ Indep ops.toList info i b := fun b hb => by
        have hlt := hsort.2.2 b hb i List.mem_cons_self
        rcases drawn_of hd hlt (by rw [Array.length_toList]; exact (Array.getElem?_eq_some_iff.1 ho).1) with hp | hp | hp
        · have h1 := hpre b hp
          obtain ⟨h2, h3⟩ := mem_rem.1 (hrem b hb)
          rw [listed_conv (by omega), h1] at h3
          cases h3
        · exact .inl hp
        · exact .inr hp
      have hfr := front (cfg := cfg) (orc := orc) (n0 := n0) (info := info) pre (by rw [hgl, Array.length_toList]) hal (hg i him) (fun b hb => hg b (hrem b hb)) hnd.1 hip hind hev
      simp only [evDs] at hfr
      rcases h1 : evD cfg orc n0 ops.toList info i s with _ | s1
      · rw [h1] at hfr; cases hfr
      · rw [h1] at hfr
        simp only at hfr
        obtain ⟨q1, q2, q3⟩ := evD_inv h1
        have hrs := rem_set hs hsplit
        refine evD_sim hok hF hcall h1 h hn0 (hm i him) fun a' W' I' m' hde hS hmm => ?_
        refine ih (listed.setIfInBounds i true) (s := s1) (by simp [hs]) (by rw [hrs]; rw [hsplit] at hl; simp at hl ⊢; omega) (fun j hj p hp => ?_) (by rw [q1, hgl]) (fun b hb => ?_) (q3 hal) (fun b hb o' c' hob hib hab => ?_) hS (by rw [hrs]; exact hfr)
          (by rw [hde]; exact k)
        · by_cases hij : i = j
          · subst hij; exact getD_set_true (hpre p hp)
          · rw [getD_set_ne false hij] at hj
            exact getD_set_true (hcl j hj p hp)
        · rw [hrs] at hb
          have hne : i ≠ b := fun e => by
            subst e
            rcases List.mem_append.1 hb with hb | hb
            · exact hip hb
            · exact hnd.2.1.1 hb
          rw [q2 b hne]
          exact hg b (by rw [hsplit]; simp at hb ⊢; rcases hb with hb | hb <;> simp [hb])
        · rw [hrs] at hb
          have hne : i ≠ b := fun e => by
            subst e
            rcases List.mem_append.1 hb with hb | hb
            · exact hip hb
            · exact hnd.2.1.1 hb
          refine hmm _ (hm b (by rw [hsplit]; simp at hb ⊢; rcases hb with hb | hb <;> simp [hb]) o' c' hob hib hab) fun oi ci hoi hii hai he => ?_
          have he : rank ops.toList info b = rank ops.toList info i := by omega
          rcases Nat.lt_or_ge b i with hlt | hge
          · have := rank_lt (ops := ops.toList) hlt (by rw [Array.getElem?_toList]; exact hob) hib hab
            omega
          · have := rank_lt (ops := ops.toList) (show i < b by omega) (by rw [Array.getElem?_toList]; exact hoi) hii hai
            omega
end

theorem laid_length {ops : List Oper} : ∀ {info : List (Bool × List Nat)}, (laidAhead cfg ops info).length = rank ops info ops.length := by
  induction ops with
  | nil => intro info; cases info <;> rfl
  | cons o ops ih =>
    intro info
    cases info with
    | nil => rfl
    | cons x info =>
      obtain ⟨l, c⟩ := x
      simp only [List.length_cons, rank, ← ih]
      cases l with
      | false => simp [laidAhead]
      | true =>
        simp only [laidAhead]
        cases ho : o.op <;> simp [isAlloc, ho]
        omega

theorem evDraw_sim (hok : cfg.Ok P) (hF : FOk F) (hcall : CallOk P orc) (hmix : P.follows .mixedOrders = true) {ops : Array Oper} (hd : drawsOk ops.toList info = true) {id : Nat} (hev : evDraw cfg orc ops.toList info st = some st') (h : Sim B W I m st a.tmps)
    {Q : Exit → Act → World → Prop} (k : ∀ a' W', After B st' a.defers a' W' → Q .normal a' W') : (Code.region id ops true).wpIn F n P Q a W := by
  obtain ⟨s', hs', rfl⟩ := Option.map_eq_some_iff.1 hev
  have hlen : m.length = st.hp.length := h.mlen
  have h0 := ((h.noAl).holes (laidAhead cfg ops.toList info)).drew (n := W.drawn + 1) (Nat.le_succ _)
  have hrem : rem ops.size (Array.replicate ops.size false) = List.range ops.size := by
    unfold rem
    rw [List.filter_eq_self]
    intro i hi
    rw [List.mem_range] at hi
    simp [hi]
  refine wpIn_region_any hmix (draw_any (n0 := st.hp.length) (s := { st := { st with hp := st.hp ++ laidAhead cfg ops.toList info, al := [] }, gh := List.replicate ops.toList.length [] }) hok hF hcall hd (by have := h.pre.length_le; omega) ops.size _
    (by simp) (by rw [hrem]; simp) (fun i hi => ?_) (by simp) (fun j hj => ?_) (fun p hp => by cases hp) (fun j hj o c ho hi hal => ?_) h0 (by rw [hrem]; simpa using hs') k)
  · simp [Array.getElem?_replicate] at hi
    split at hi <;> simp at hi
  · simp [List.getD_eq_getElem?_getD, List.getElem?_replicate]
    split <;> rfl
  · obtain ⟨hjl, _⟩ := mem_rem.1 hj
    have := rank_lt (ops := ops.toList) (info := info) (j := ops.toList.length) (by simpa using hjl) (by rw [Array.getElem?_toList]; exact ho) hi hal
    rw [List.getElem?_append_right (by omega), List.getElem?_replicate, if_pos]
    rw [laid_length]
    omega

end Go.Abs
/-! Ranges over functions: the records, the marks, what is forgotten at a loop's head. -/
namespace Go.Abs
open Go.Lib
variable [BT] {F : Fence} {n : Nat} {P : Program} {cfg : Cfg} {B : Base} {W : World} {I : Nat → Nat → Prop} {m : List (Option Nat)} {st st' : St} {a : Act} {o : Oper} {tmps : Array Value} {orc : Orc}

theorem Sim.gc (h : Sim B W I m st tmps) (hB : B.n0 = B.m.length) : ∃ m', Sim B W I m' st.gc tmps := by
  unfold St.gc
  simp only
  generalize upTo st.hp (st.hp.length - max st.nb (topIds st.fr)) (max st.nb (topIds st.fr)) = n
  split
  · rename_i hc
    simp only [Bool.and_eq_true, Nat.ble_eq] at hc
    obtain ⟨⟨hn, hfr⟩, hb⟩ := hc
    refine ⟨m.take n, ?_⟩
    have hpre : B.m <+: m.take n := by
      obtain ⟨r, hr⟩ := h.pre
      have hle : B.m.length ≤ n := by rw [← hB]; exact Nat.le_trans h.nb hn
      refine ⟨r.take (n - B.m.length), ?_⟩
      rw [← hr, List.take_append, List.take_of_length_le hle]
    have hget : ∀ {j : Nat} {b : Blk}, (st.hp.take n)[j]? = some b → j < n ∧ st.hp[j]? = some b := fun {j b} hj => by
      rw [List.getElem?_take] at hj
      split at hj
      · exact ⟨by assumption, hj⟩
      · cases hj
    have hmg : ∀ {j : Nat} {x : Option Nat}, (m.take n)[j]? = some x → m[j]? = some x := fun {j x} hj => by
      rw [List.getElem?_take] at hj
      split at hj
      · exact hj
      · cases hj
    have hsub : ∀ {g}, some g ∈ m.take n → some g ∈ m := fun hg => List.mem_of_mem_take hg
    have hh : ∀ {l xs u}, Held W (m.take n) { st with hp := st.hp.take n, al := [] } tmps l xs u → Held W m st tmps l xs u := fun hh => by
      cases hh with
      | tmp h1 h2 => exact .tmp h1 h2
      | cell h1 h2 h3 h4 h5 => exact .cell (hget h1).2 h2 h3 (hmg h4) h5
    refine ⟨h.grow, hpre, h.live, h.len, fun t x hx => (h.fr t x hx).restrict (alll_get hfr hx), by simp [h.mlen], fun i j g hi hj => h.inj i j g (hmg hi) (hmg hj), fun j b hj => ?_, fun g hg => h.mA g (hsub hg), fun g hg => h.notI g (hsub hg),
      fun l xs u k => h.own _ _ _ (hh k), fun l xs u g k hc => ⟨(h.ownA _ _ _ _ (hh k) hc).1, fun hg => (h.ownA _ _ _ _ (hh k) hc).2 (hsub hg)⟩,
      fun l l' xs xs' u u' g k k' => h.ownInj l l' xs xs' u u' g (hh k) (hh k'), fun t o k => (by cases k), h.nb⟩
    obtain ⟨hlt, hj'⟩ := hget hj
    obtain ⟨x, hx, hb'⟩ := h.blk j b hj'
    exact ⟨x, by rw [List.getElem?_take, if_pos hlt]; exact hx, hb'.on (List.all_eq_true.1 hb b (List.mem_of_getElem? hj))⟩
  · exact ⟨m, h⟩

theorem heap_old (W : World) (ob : Obj) {g : Nat} (hg : g < W.heap.size) : (W.alloc ob).heap[g]? = W.heap[g]? := by
  simp only [World.alloc, Array.getElem?_push]; rw [if_neg (by omega)]

theorem Sim.grown (h : Sim B W I m st tmps) (ob : Obj) : Sim B (W.alloc ob) I m st tmps :=
  h.world rfl ⟨rfl, Nat.le_refl _⟩ rfl (by simp) (fun g hg => heap_old W ob hg) (fun _ _ h => h) (fun _ _ h => .inl h) fun g o hi => by
    obtain ⟨v, hv⟩ := h.live g o hi
    exact ⟨v, (cell_same (heap_old W ob (lt_of_cell hv))).trans hv⟩

theorem Sim.pushObj (h : Sim B W I m st tmps) (b : Blk) (ob : Obj) (hnc : ∀ t ow cs, b ≠ .cells t ow cs) (hb : ∀ m', MLe m m' → BlkOk (W.alloc ob) I m' b (some W.heap.size)) :
    Sim B (W.alloc ob) I (m ++ [some W.heap.size]) { st with hp := st.hp ++ [b] } tmps := by
  have k := h.grown ob
  have hle : MLe m (m ++ [some W.heap.size]) := MLe.pre (List.prefix_append _ _)
  have hnm : some W.heap.size ∉ m := fun hg => absurd (h.mlt hg) (by omega)
  have hm : ∀ {j g : Nat}, (m ++ [some W.heap.size])[j]? = some (some g) → m[j]? = some (some g) ∨ (j = m.length ∧ g = W.heap.size) := fun {j g} hj => by
    rw [List.getElem?_append] at hj
    split at hj
    · exact .inl hj
    · have hlt := (List.getElem?_eq_some_iff.1 hj).1
      simp at hlt
      have e : j - m.length = 0 := by omega
      rw [e] at hj
      simp at hj
      exact .inr ⟨by omega, hj.symm⟩
  have hmem : ∀ {g}, some g ∈ (m ++ [some W.heap.size]) → some g ∈ m ∨ g = W.heap.size := fun {g} hg => by
    rcases List.mem_append.1 hg with hg | hg
    · exact .inl hg
    · simp at hg; exact .inr hg
  have hbk : ∀ {j : Nat} {c : Blk}, (st.hp ++ [b])[j]? = some c → st.hp[j]? = some c ∨ (j = st.hp.length ∧ c = b) := fun {j c} hj => by
    rw [List.getElem?_append] at hj
    split at hj
    · exact .inl hj
    · have hlt := (List.getElem?_eq_some_iff.1 hj).1
      simp at hlt
      have e : j - st.hp.length = 0 := by omega
      rw [e] at hj
      simp at hj
      exact .inr ⟨by omega, hj.symm⟩
  have hheld : ∀ {l xs v}, Held (W.alloc ob) (m ++ [some W.heap.size]) { st with hp := st.hp ++ [b] } tmps l xs v → Held (W.alloc ob) m st tmps l xs v := fun hh => by
    cases hh with
    | tmp h1 h2 => exact .tmp h1 h2
    | cell h1 h2 h3 h4 h5 =>
      rcases hbk h1 with h1 | ⟨_, e⟩
      · rcases hm h4 with h4 | ⟨e, _⟩
        · exact .cell h1 h2 h3 h4 h5
        · have := (List.getElem?_eq_some_iff.1 h1).1
          rw [e, h.mlen] at this; omega
      · exact absurd e.symm (hnc _ _ _)
  refine ⟨k.grow, List.IsPrefix.trans k.pre (List.prefix_append _ _), k.live, k.len, fun t x hx => (k.fr t x hx).mono_le (fun _ _ h => h) (KeepI.refl _ _) hle, by simp [h.mlen], fun i j g hi hj => ?_, fun j c hj => ?_, fun g hg => ?_, fun g hg o hi => ?_,
    fun l xs v hh => k.own l xs v (hheld hh), fun l xs v g hh hc => ⟨(k.ownA l xs v g (hheld hh) hc).1, fun hg => ?_⟩, fun l l' xs xs' v v' g hh hh' => k.ownInj l l' xs xs' v v' g (hheld hh) (hheld hh'), fun t o ho => ?_, k.nb⟩
  · rcases hm hi with hi | ⟨hi, e⟩ <;> rcases hm hj with hj | ⟨hj, e'⟩
    · exact h.inj i j g hi hj
    · subst e'; exact absurd (List.mem_of_getElem? hi) hnm
    · subst e; exact absurd (List.mem_of_getElem? hj) hnm
    · omega
  · rcases hbk hj with hj | ⟨rfl, rfl⟩
    · obtain ⟨x, hx, hb'⟩ := k.blk j c hj
      exact ⟨x, pre_get (List.prefix_append _ _) hx, hb'.mono (fun _ _ h => h) (KeepI.refl _ _) hle fun _ _ => rfl⟩
    · exact ⟨some W.heap.size, by rw [← h.mlen]; simp, hb _ hle⟩
  · rcases hmem hg with hg | rfl
    · exact k.mA g hg
    · exact .inr h.grow.size
  · rcases hmem hg with hg | rfl
    · exact k.notI g hg o hi
    · exact absurd (h.ilt hi) (by omega)
  · rcases hmem hg with hg | rfl
    · exact (k.ownA l xs v g (hheld hh) hc).2 hg
    · have hh2 := (hheld hh).world (W := W) fun g hg => heap_old W ob (h.mlt hg)
      exact absurd (claim_lt (h.own _ _ _ hh2) hc) (by omega)
  · have := k.al t o ho
    cases o with
    | tmp u => exact this
    | cell id off =>
      intro hlt
      obtain ⟨g, hg, hc⟩ := this hlt
      exact ⟨g, hle _ _ hg, hc⟩
    | base id off =>
      intro hlt
      obtain ⟨g, a, n, c, p, hg, hc⟩ := this hlt
      exact ⟨g, a, n, c, p, hle _ _ hg, hc⟩

theorem Sim.setObj (h : Sim B W I m st tmps) {id g : Nat} {b0 : Blk} (hb0 : st.hp[id]? = some b0) (hg : m[id]? = some (some g)) (b : Blk) (ob : Obj) (hnc : ∀ t ow cs, b ≠ .cells t ow cs) (hb : KeepI I W (W.putObj g ob) → BlkOk (W.putObj g ob) I m b (some g)) (hb1 : ∀ t ow cs, b0 ≠ .cells t ow cs := by simp) (hb2 : b0 ≠ .dead := by simp) :
    Sim B (W.putObj g ob) I m { st with hp := st.hp.set id b, al := [] } tmps := by
  have hni : ∀ p, rowInfo W g = some p → rowInfo (W.putObj g ob) g = some p := fun p hp => by
    obtain ⟨x, hx, hbx⟩ := h.blk id _ hb0
    rw [hg] at hx; cases hx
    cases hbx with
    | cells h1 => exact absurd rfl (hb1 _ _ _)
    | loop h1 => simp [rowInfo, h1] at hp
    | map h1 => simp [rowInfo, h1] at hp
    | dead h1 => exact absurd rfl hb2
  have hgm : some g ∈ m := List.mem_of_getElem? hg
  have hother : ∀ g', g' ≠ g → (W.putObj g ob).heap[g']? = W.heap[g']? := fun g' hne => World.putObj_heap_other hne
  have hk : KeepI I W (W.putObj g ob) := ⟨fun g' o hi => cell_same (hother g' fun e => h.notI g hgm o (e ▸ hi)), info_but hother hni⟩
  have hlt : id < st.hp.length := (List.getElem?_eq_some_iff.1 hb0).1
  have hget : ∀ (j : Nat) (c : Blk), (st.hp.set id b)[j]? = some c → (j = id ∧ c = b) ∨ (j ≠ id ∧ st.hp[j]? = some c) := fun j c hj => by
    rw [List.getElem?_set] at hj
    by_cases e : id = j
    · subst e; rw [if_pos rfl, if_pos hlt] at hj; exact .inl ⟨rfl, by simpa using hj.symm⟩
    · rw [if_neg e] at hj; exact .inr ⟨fun e' => e e'.symm, hj⟩
  have hmne : ∀ {j g'}, j ≠ id → m[j]? = some (some g') → g' ≠ g := fun {j g'} hne hj e => by
    subst e
    exact hne (h.inj _ _ _ hj hg)
  have hheld : ∀ {l xs v}, Held (W.putObj g ob) m { st with hp := st.hp.set id b, al := [] } tmps l xs v → Held W m st tmps l xs v := fun hh => by
    cases hh with
    | tmp h1 h2 => exact .tmp h1 h2
    | cell h1 h2 h3 h4 h5 =>
      rcases hget _ _ h1 with ⟨_, e⟩ | ⟨hne, h1⟩
      · exact absurd e.symm (hnc _ _ _)
      · exact .cell h1 h2 h3 h4 ((cell_same (hother _ (hmne hne h4))).symm.trans h5)
  refine ⟨⟨h.grow.os, ⟨h.grow.tape.eq, h.grow.tape.le⟩, h.grow.output, by simpa using h.grow.size, fun g' hg' ha => (hother g' fun e => ?_).trans (h.grow.same g' hg' ha), h.grow.sub, h.grow.fresh,
      h.grow.keep.after hk h.grow.sub, fun g' hg' => (hother g' fun e => h.memD hgm (e ▸ h.grow.dfr g' hg')).trans (h.grow.dfr g' hg'), h.grow.dnd⟩, h.pre, fun g' o hi => ?_, h.len, fun t x hx => (h.fr t x hx).mono (fun _ _ h => h) hk (List.prefix_refl _), by simp [h.mlen], h.inj, fun j c hj => ?_, h.mA, h.notI,
    fun l xs v hh => ?_, fun l xs v g' hh => h.ownA l xs v g' (hheld hh), fun l l' xs xs' v v' g' hh hh' => h.ownInj l l' xs xs' v v' g' (hheld hh) (hheld hh'), fun t o k => (by cases k), h.nb⟩
  · subst e
    rcases h.mA _ hgm with k | k
    · exact ha k
    · omega
  · obtain ⟨v, hv⟩ := h.live g' o hi
    exact ⟨v, (hk.cell g' o hi).trans hv⟩
  · rcases hget j c hj with ⟨rfl, rfl⟩ | ⟨hne, hj⟩
    · exact ⟨_, hg, hb hk⟩
    · obtain ⟨x, hx, hb'⟩ := h.blk j c hj
      exact ⟨x, hx, hb'.mono (fun _ _ h => h) hk (MLe.refl _) fun g' e => hother g' (hmne hne (e ▸ hx))⟩
  · refine (h.own l xs v (hheld hh)).mono (fun g' hc => hother g' fun e => ?_) fun _ _ _ h => h
    subst e
    exact (h.ownA l xs v _ (hheld hh) hc).2 hgm

def mark (g : Nat) : Deferred := { target := .collected g, args := #[] }

theorem Sim.marked (h : Sim B W I m st tmps) : Sim { B with D := W.heap.size :: B.D } (W.alloc (.deferred (some []))) I m st tmps := by
  have k := h.grown (.deferred (some []))
  refine ⟨⟨k.grow.os, k.grow.tape, k.grow.output, k.grow.size, k.grow.same, k.grow.sub, k.grow.fresh, k.grow.keep, fun g hg => ?_, ?_, fun g hg => ?_⟩, k.pre, k.live, k.len, k.fr, k.mlen, k.inj, k.blk, k.mA, k.notI, k.own, k.ownA, k.ownInj, k.al, k.nb⟩
  · rcases List.mem_cons.1 hg with rfl | hg
    · exact World.alloc_heap_new W _
    · exact k.grow.dfr g hg
  · exact List.nodup_cons.2 ⟨fun hg => absurd (lt_of_heap (h.grow.dfr _ hg)) (by omega), h.grow.dnd.1⟩
  · rcases List.mem_cons.1 hg with rfl | hg
    · exact h.grow.size
    · exact h.grow.dnd.2 g hg

theorem Sim.taken {g : Nat} {D : List Nat} (h : Sim { B with D := g :: D } W I m st tmps) : Sim { B with D := D } (W.putObj g (.deferred none)) I m st tmps := by
  have hd : W.heap[g]? = some (.deferred (some [])) := h.grow.dfr g (by simp)
  have hge : B.W.heap.size ≤ g := h.grow.dnd.2 g (by simp)
  have hother : ∀ g', g' ≠ g → (W.putObj g (.deferred none)).heap[g']? = W.heap[g']? := fun g' hne => World.putObj_heap_other hne
  have hgm : ∀ g', some g' ∈ m → g' ≠ g := fun g' hg' e => h.memD hg' (e ▸ hd)
  have hk : KeepI I W (W.putObj g (.deferred none)) := ⟨fun g' o hi => cell_same (hother g' fun e => by
    obtain ⟨v, hv⟩ := h.live g' o hi
    subst e
    simp [World.cell?, hd] at hv), info_but hother fun p hp => by simp [rowInfo, hd] at hp⟩
  have hheld : ∀ {l xs v}, Held (W.putObj g (.deferred none)) m st tmps l xs v → Held W m st tmps l xs v := fun hh => hh.world fun g' hg' => hother g' (hgm g' hg')
  have hnd := List.nodup_cons.1 h.grow.dnd.1
  refine ⟨⟨h.grow.os, ⟨h.grow.tape.eq, h.grow.tape.le⟩, h.grow.output, by simpa using h.grow.size, fun g' hg' ha => (hother g' fun e => ?_).trans (h.grow.same g' hg' ha), h.grow.sub, h.grow.fresh,
      h.grow.keep.after hk h.grow.sub, fun g' hg' => (hother g' fun e => hnd.1 (e ▸ hg')).trans (h.grow.dfr g' (List.mem_cons_of_mem _ hg')), hnd.2, fun g' hg' => h.grow.dnd.2 g' (List.mem_cons_of_mem _ hg')⟩, h.pre, fun g' o hi => ?_, h.len, fun t x hx => (h.fr t x hx).mono (fun _ _ h => h) hk (List.prefix_refl _), h.mlen, h.inj, fun j c hj => ?_, h.mA, h.notI,
    fun l xs v hh => ?_, fun l xs v g' hh => h.ownA l xs v g' (hheld hh), fun l l' xs xs' v v' g' hh hh' => h.ownInj l l' xs xs' v v' g' (hheld hh) (hheld hh'), fun t o k => ?_, h.nb⟩
  · simp only at hg'; omega
  · obtain ⟨v, hv⟩ := h.live g' o hi
    exact ⟨v, (hk.cell g' o hi).trans hv⟩
  · obtain ⟨x, hx, hb'⟩ := h.blk j c hj
    exact ⟨x, hx, hb'.mono (fun _ _ h => h) hk (MLe.refl _) fun g' e => hother g' (hgm g' (List.mem_of_getElem? (e ▸ hx)))⟩
  · exact (h.own l xs v (hheld hh)).mono (fun g' hc => hother g' fun e => h.heldD (hheld hh) hc (e ▸ hd)) fun _ _ _ h => h
  · have := h.al t o k
    cases o with
    | tmp u => exact this
    | cell id off =>
      intro hlt
      obtain ⟨g', hg', hc⟩ := this hlt
      exact ⟨g', hg', (cell_same (hother _ (hgm _ (List.mem_of_getElem? hg')))).trans hc⟩
    | base id off =>
      intro hlt
      obtain ⟨g', a, n, c, p, hg', hc, hp⟩ := this hlt
      exact ⟨g', a, n, c, p, hg', (cell_same (hother _ (hgm _ (List.mem_of_getElem? hg')))).trans hc, hp⟩

theorem Sim.lessD {D : List Nat} (h : Sim { B with D := D ++ B.D } W I m st tmps) : Sim B W I m st tmps :=
  ⟨⟨h.grow.os, h.grow.tape, h.grow.output, h.grow.size, h.grow.same, h.grow.sub, h.grow.fresh, h.grow.keep, fun g hg => h.grow.dfr g (List.mem_append.2 (.inr hg)), (List.nodup_append.1 h.grow.dnd.1).2.1, fun g hg => h.grow.dnd.2 g (List.mem_append.2 (.inr hg))⟩,
    h.pre, h.live, h.len, h.fr, h.mlen, h.inj, h.blk, h.mA, h.notI, h.own, h.ownA, h.ownInj, h.al, h.nb⟩

theorem leaves_marks (hF : FOk F) {fn : Func} {R : Ending → World → Prop} : ∀ (D : List Nat) {W : World} {st : St}, Sim { B with D := D } W I m st tmps →
    (∀ W', Sim { B with D := [] } W' I m st tmps → LeavesIn F n P fn tmps R [] .returning W') → LeavesInM F n P fn tmps R (D.map mark) .returning W
  | [], W, st, h, k => k W h
  | g :: D, W, st, h, k => by
    refine ⟨by simp, .inl ⟨g, _, rfl, run_takeDeferred (h.grow.dfr g (by simp)), ?_⟩⟩
    exact leaves_marks hF D h.taken k

end Go.Abs
/-! Slices that are written in place, and maps: every operation. -/
namespace Go.Abs
open Go.Lib
variable [BT] {F : Fence} {n : Nat} {P : Program} {cfg : Cfg} {B : Base} {W : World} {I : Nat → Nat → Prop} {m : List (Option Nat)} {st st' : St} {a : Act} {o : Oper} {tmps : Array Value} {orc : Orc}

theorem makeM_sim (hok : cfg.Ok P) (h : Sim B W I m st a.tmps) {dst : Option Tmp} {t : TypeId} {len cap : Operand} (hev : makeM cfg dst t (ev st.fr len) (ev st.fr cap) st = some st') :
    ∃ w W' I' m', (Instr.makeSlice t (a.eval len) (a.eval cap)).run P W = .ok w W' ∧ Sim B W' I' m' st' (aput a.tmps dst w) := by
  unfold makeM at hev
  split at hev
  · rename_i e nn c hk h1 h2
    have r1 := rel_ev h len
    have r2 := rel_ev h cap
    rw [h1] at r1
    rw [h2] at r2
    split at hev
    · rename_i ti hti
      split at hev
      · rename_i hc
        obtain ⟨hsz, hso, h0, hle, hb, h63⟩ := hc
        cases hev
        obtain ⟨d, hu, hkd⟩ := hok.kind hk
        have := kok_slice hkd; subst this
        obtain ⟨i, d', z, T⟩ := hok.ty _ _ hti
        generalize a.eval len = vl at r1
        generalize a.eval cap = vc at r2
        cases r1
        cases r2
        obtain ⟨c, rfl⟩ : ∃ k : Nat, c = k := ⟨c.toNat, by omega⟩
        obtain ⟨nn, rfl⟩ : ∃ k : Nat, nn = k := ⟨nn.toNat, by omega⟩
        simp only [Int.toNat_natCast] at hb ⊢
        have hrun := run_make (P := P) W t e i z hu T.info T.zero .i64 .i64 nn c (by omega) hle (by rw [T.bytes]; simp only [strMax] at hb; rw [Int.mul_comm, ← Int.natCast_mul]; omega) h63
        simp only [Int.toNat_natCast] at hrun
        have hso' : ¬ BT.solo e := fun hs => by have := (hok.bt4 _).1 hs; rw [hso] at this; cases this
        have hrow : RowRel W I m (reps c ti.zero) (madeCells z.cells (c * i.size)) := by
          have := rowRel_reps (rowRel_zero (W := W) (I := I) (m := m) T) c
          have hzl : ti.zero.length = i.size := by rw [T.zeq, T.size, ← T.zsize]; simp
          rw [hzl] at this
          exact this
        have hpre : RowPre W I m (reps c ti.zero) (madeCells z.cells (c * i.size)) := by
          have := rowPre_of (R := #[]) hrow
          simpa using this
        exact ⟨_, _, _, _, hrun, born (W1 := W) (ti := ti) h rfl rfl ⟨rfl, Nat.le_refl _⟩ rfl hpre hso' (by omega) (Nat.le_refl _) (.inl rfl) dst⟩
      · cases hev
    · cases hev
  · cases hev

theorem Sim.mapAt (h : Sim B W I m st tmps) {id g : Nat} {es : List (V × List V)} (hb : st.hp[id]? = some (.map es)) (hg : m[id]? = some (some g)) :
    ∃ ents clock, W.heap[g]? = some (.map ents clock) ∧ ents.size = es.length ∧ ∀ (j : Nat) (k : V) (vs : List V) (e : MapEntry), es[j]? = some (k, vs) → ents[j]? = some e → V.lt 0 k = true ∧ Rel W I m k e.key ∧ ∃ v, vs = [v] ∧ Rel W I m v e.val := by
  obtain ⟨x, hx, hbx⟩ := h.blk id _ hb
  rw [hg] at hx; cases hx
  cases hbx with
  | map h1 h2 h3 => exact ⟨_, _, h1, h2, h3⟩

theorem key_kind (hok : cfg.Ok P) {kt : TypeId} {k : V} (h : ((cfg.ty kt).map fun ti => keyFits ti.k k).getD false = true) :
    ∃ d, P.underlying kt = some d ∧ ((∃ ik jk a, d = .int ik ∧ k = .int jk a) ∨ (d = .string ∧ ∃ s, k = .str s) ∨ (d = .bool ∧ ∃ b, k = .bool b)) := by
  cases hti : cfg.ty kt with
  | none => simp [hti] at h
  | some ti =>
    simp only [hti, Option.map_some, Option.getD_some] at h
    unfold keyFits at h
    split at h
    · rename_i ik jk a hk
      obtain ⟨d, hu, hkd⟩ := hok.kind (t := kt) (k := .int ik) (by rw [hti]; simp [hk])
      cases d <;> simp [KOk] at hkd
      exact ⟨_, hu, .inl ⟨_, _, _, rfl, rfl⟩⟩
    · rename_i s hk
      obtain ⟨d, hu, hkd⟩ := hok.kind (t := kt) (k := .str) (by rw [hti]; simp [hk])
      cases d <;> simp [KOk] at hkd
      exact ⟨_, hu, .inr (.inl ⟨rfl, _, rfl⟩)⟩
    · rename_i b hk
      obtain ⟨d, hu, hkd⟩ := hok.kind (t := kt) (k := .bool) (by rw [hti]; simp [hk])
      cases d <;> simp [KOk] at hkd
      exact ⟨_, hu, .inr (.inr ⟨rfl, _, rfl⟩)⟩
    · cases h

theorem run_checkKeyM {kt : TypeId} {d : TypeDesc} {k : V} {e : Bool} {vk : Value} (hu : P.underlying kt = some d) (hd : (∃ ik jk a, d = .int ik ∧ k = .int jk a) ∨ (d = .string ∧ ∃ s, k = .str s) ∨ (d = .bool ∧ ∃ b, k = .bool b)) :
    (Instr.checkKey e 10000 kt vk).run P W = .ok () W := by
  rw [show (10000 : Nat) = 9999 + 1 from rfl]
  unfold Instr.checkKey
  simp only [Sem.run_bind, run_und hu, Result.andThen_ok]
  rcases hd with ⟨ik, jk, a, rfl, _⟩ | ⟨rfl, _⟩ | ⟨rfl, _⟩ <;> cases vk <;> rfl

theorem keyEq_sim {d : TypeDesc} {k k' : V} {vk vk' : Value} {b : Bool} (hd : (∃ ik jk a, d = .int ik ∧ k = .int jk a) ∨ (d = .string ∧ ∃ s, k = .str s) ∨ (d = .bool ∧ ∃ b, k = .bool b)) (hk : Rel W I m k vk) (hk' : Rel W I m k' vk') (he : keyEq k k' = some b) :
    Instr.sameNow d vk vk' = some b ∧ (b = true → k = k' ∧ vk = vk' ∧ ∀ n, Instr.sameBits n vk' vk = true) := by
  unfold keyEq at he
  split at he
  · rename_i j1 a1 j2 a2
    cases hk; cases hk'
    rcases hd with ⟨ik, jk, a, rfl, _⟩ | ⟨_, s, e⟩ | ⟨_, s, e⟩
    · split at he
      · rename_i ej
        subst ej
        cases he
        refine ⟨by simp [Instr.sameNow], fun hb => ?_⟩
        have : a1 = a2 := by simpa using hb
        subst this
        exact ⟨rfl, rfl, fun n => by cases n <;> simp [Instr.sameBits]⟩
      · cases he
    · cases e
    · cases e
  · rename_i s1 s2
    cases he
    rcases hd with ⟨ik, jk, a, _, e⟩ | ⟨rfl, _⟩ | ⟨_, s, e⟩
    · cases e
    · rw [rel_str_inv hk, rel_str_inv hk']
      have hne : ∀ a b : List UInt8, ((⟨a.toArray⟩ : ByteArray) == ⟨b.toArray⟩) = (a == b) := fun a b => by
        show ByteArray.beq _ _ = _
        simp [ByteArray.beq]
      refine ⟨by simp only [Instr.sameNow, hne], fun hb => ?_⟩
      have : s1 = s2 := by simpa using hb
      subst this
      exact ⟨rfl, rfl, fun n => by cases n <;> simp only [Instr.sameBits, hne, beq_self_eq_true]⟩
    · cases e
  · rename_i b1 b2
    cases he
    cases hk; cases hk'
    rcases hd with ⟨ik, jk, a, _, e⟩ | ⟨_, s, e⟩ | ⟨rfl, _⟩
    · cases e
    · cases e
    · refine ⟨by simp [Instr.sameNow], fun hb => ?_⟩
      have : b1 = b2 := by simpa using hb
      subst this
      exact ⟨rfl, rfl, fun n => by cases n <;> simp [Instr.sameBits]⟩
  · cases he

theorem findM_sim {d : TypeDesc} {k : V} {vk : Value} (hd : (∃ ik jk a, d = .int ik ∧ k = .int jk a) ∨ (d = .string ∧ ∃ s, k = .str s) ∨ (d = .bool ∧ ∃ b, k = .bool b)) (hk : Rel W I m k vk) :
    ∀ (es : List (V × List V)) (ents : List MapEntry) (i : Nat) (r : Option (Nat × List V)), es.length = ents.length →
      (∀ (j : Nat) (k : V) (vs : List V) (e : MapEntry), es[j]? = some (k, vs) → ents[j]? = some e → V.lt 0 k = true ∧ Rel W I m k e.key ∧ ∃ v, vs = [v] ∧ Rel W I m v e.val) →
      findM k es i = some r → (r = none ∧ Instr.findNow d vk ents i = some none) ∨
        ∃ j v e, r = some (i + j, [v]) ∧ ents[j]? = some e ∧ Instr.findNow d vk ents i = some (some (i + j, e.val)) ∧ Rel W I m v e.val ∧ es[j]? = some (k, [v]) ∧ e.key = vk ∧ ∀ n, Instr.sameBits n e.key vk = true
  | [], [], i, r, _, _, h => by
    simp only [findM, Option.some.injEq] at h
    exact .inl ⟨h.symm, rfl⟩
  | (k', vs) :: es, e :: ents, i, r, hl, hr, h => by
    obtain ⟨p1, p2, v, rfl, p4⟩ := hr 0 k' vs e rfl rfl
    simp only [findM] at h
    split at h
    · rename_i he
      cases h
      obtain ⟨q1, q2⟩ := keyEq_sim hd hk p2 he
      obtain ⟨rfl, rfl, q5⟩ := q2 rfl
      exact .inr ⟨0, v, e, by simp, rfl, by simp [Instr.findNow, q1], p4, rfl, rfl, q5⟩
    · rename_i he
      obtain ⟨q1, _⟩ := keyEq_sim hd hk p2 he
      rcases findM_sim hd hk es ents (i + 1) r (by simpa using hl) (fun j => hr (j + 1)) h with ⟨rfl, h2⟩ | ⟨j, v', e', rfl, h3, h4, h5, h6⟩
      · exact .inl ⟨rfl, by simp [Instr.findNow, q1, h2]⟩
      · exact .inr ⟨j + 1, v', e', by simp; omega, by simpa using h3, by simp [Instr.findNow, q1, h4]; omega, h5, by simpa using h6⟩
    · cases h
  | [], _ :: _, _, _, hl, _, _ => by simp at hl
  | _ :: _, [], _, _, hl, _, _ => by simp at hl
end Go.Abs
/-! Slices that are written in place, and maps: every operation at once. -/
namespace Go.Abs
open Go.Lib
variable [BT] {F : Fence} {n : Nat} {P : Program} {cfg : Cfg} {B : Base} {W : World} {I : Nat → Nat → Prop} {m : List (Option Nat)} {st st' : St} {a : Act} {o : Oper} {tmps : Array Value} {orc : Orc}

theorem rel_zero {t : TypeId} {ti : TI} {i : TypeInfo} {d : TypeDesc} {z : Value} (T : TyOk P t ti i d z) {v : V} (hv : mkV ti.k.isAgg ti.zero = some v) : Rel W I m v z := by
  have hz := T.zagg
  cases hk : ti.k.isAgg with
  | true =>
    rw [hk] at hv hz
    simp only [mkV, if_true, Option.some.injEq] at hv
    subst hv
    cases z <;> simp [zAgg] at hz
    rename_i arr
    have e := T.zeq
    have ec : (Value.agg arr).cells = arr := rfl
    rw [ec] at e
    rw [e]
    refine .agg (by simp) (fun j x hx => ?_) fun j x hx => ?_
    · simp only [List.getElem?_map, Option.map_eq_some_iff, Array.getElem?_toList] at hx
      obtain ⟨u, hu, rfl⟩ := hx
      rw [getD_arr hu]
      exact T.zone u (by rw [ec]; exact List.mem_of_getElem? (by rw [Array.getElem?_toList]; exact hu))
    · simp only [List.getElem?_map, Option.map_eq_some_iff, Array.getElem?_toList] at hx
      obtain ⟨u, hu, rfl⟩ := hx
      rw [getD_arr hu]
      exact rel_const u
  | false =>
    rw [hk] at hv hz
    have ec : z.cells = #[z] := by cases z <;> first | rfl | simp [zAgg] at hz
    have e := T.zeq
    rw [ec] at e
    rw [e] at hv
    simp [mkV] at hv
    subst hv
    exact rel_const z

theorem mapGet_sim (hok : cfg.Ok P) (h : Sim B W I m st a.tmps) {dst : Option Tmp} {t : TypeId} {x k : Operand} {ok : Bool} (hev : mapGet cfg dst t (ev st.fr x) (ev st.fr k) ok st = some st') :
    ∃ w, (Instr.lookup t (a.eval x) (a.eval k) ok).run P W = .ok w W ∧ Sim B W I m st' (aput a.tmps dst w) := by
  unfold mapGet at hev
  split at hev
  · rename_i kt et hk
    split at hev
    · rename_i hkk
      obtain ⟨d, hukt, hd⟩ := key_kind hok hkk
      obtain ⟨dt, hut, hkd⟩ := hok.kind hk
      cases dt <;> simp [KOk] at hkd
      obtain ⟨rfl, rfl⟩ := hkd
      have rk := rel_ev h k
      have rx := rel_ev h x
      split at hev
      · rename_i te hte
        obtain ⟨i, d', z, T⟩ := hok.ty _ _ hte
        -- the map's entries
        have key : ∀ (es : List (V × List V)), (match ev st.fr x with
            | .nilm => some []
            | .map id => match st.hp[id]? with
              | some (.map es) => some es
              | _ => none
            | _ => none) = some es → ∃ ents : Array MapEntry, ((a.eval x = .map none ∧ ents = #[]) ∨ ∃ g clock, a.eval x = .map (some g) ∧ W.heap[g]? = some (.map ents clock)) ∧ es.length = ents.toList.length ∧ (∀ (j : Nat) (k : V) (vs : List V) (e : MapEntry), es[j]? = some (k, vs) → ents.toList[j]? = some e → V.lt 0 k = true ∧ Rel W I m k e.key ∧ ∃ v, vs = [v] ∧ Rel W I m v e.val) := fun es hes => by
          split at hes
          · rename_i hx
            cases hes
            rw [hx] at rx
            generalize a.eval x = vx at rx
            cases rx
            exact ⟨#[], .inl ⟨rfl, rfl⟩, rfl, by simp⟩
          · rename_i id hx
            rw [hx] at rx
            generalize a.eval x = vx at rx
            cases rx with
            | @map _ _ g hg =>
              split at hes
              · rename_i es' hb
                cases hes
                obtain ⟨ents, clock, h1, h2, h3⟩ := h.mapAt hb hg
                exact ⟨ents, .inr ⟨g, clock, rfl, h1⟩, by simp [h2], fun j k vs e p q => h3 j k vs e p (by simpa using q)⟩
              · cases hes
          · cases hes
        simp only at hev
        split at hev
        · cases hev
        · rename_i es hes
          obtain ⟨ents, hshape, hl, hr⟩ := key es hes
          have fin : ∀ (w0 : Value) (v0 : V) (b : Bool), Rel W I m v0 w0 → (Instr.lookup t (a.eval x) (a.eval k) ok).run P W = .ok (if ok then .tuple #[w0, .bool b] else w0) W → some (st.put dst (if ok then .tup [v0, .bool b] else v0)) = some st' →
              ∃ w, (Instr.lookup t (a.eval x) (a.eval k) ok).run P W = .ok w W ∧ Sim B W I m st' (aput a.tmps dst w) := fun w0 v0 b hr0 hrun0 hst => by
            cases hst
            refine ⟨_, hrun0, h.put dst ?_⟩
            cases ok with
            | false => exact hr0
            | true =>
              refine .tup rfl fun j y hy => ?_
              match j, hy with
              | 0, hy => simp at hy; subst hy; exact hr0
              | 1, hy => simp at hy; subst hy; exact .bool
          have look : ∀ (r : Option (Nat × Value)), Instr.findNow d (a.eval k) ents.toList 0 = some r → (Instr.lookup t (a.eval x) (a.eval k) ok).run P W =
              ((match r with | some (_, v) => pure (v, true) | none => do pure (← zeroValue et, false) : Sem (Value × Bool)).run P W).andThen fun p W' => .ok (if ok then .tuple #[p.1, .bool p.2] else p.1) W' := fun r hr => by
            have hz : (zeroValue et).run P W = .ok z W := by simp [zeroValue, typeInfo, T.info, T.zero]
            rcases hshape with ⟨e1, e2⟩ | ⟨g, clock, e1, e2⟩
            · rw [e1]
              subst e2
              cases r <;> simp [Instr.lookup, run_und hut, run_checkKeyM hukt hd, MapKept.run_findKey hukt hr, hz, Result.andThen]
            · rw [e1]
              cases r <;> simp [Instr.lookup, run_und hut, MapKept.run_getObj_map e2, run_checkKeyM hukt hd, MapKept.run_findKey hukt hr, hz, Result.andThen]
          split at hev
          · rename_i j v hf
            rcases findM_sim hd rk es ents.toList 0 _ hl hr hf with ⟨e, _⟩ | ⟨j', v', e', e1, _, h4, h5, _⟩
            · cases e
            · cases e1
              refine fin e'.val v true h5 ?_ hev
              rw [look _ h4]; rfl
          · rename_i hf
            rcases findM_sim hd rk es ents.toList 0 _ hl hr hf with ⟨_, h4⟩ | ⟨j', v', e', e1, _⟩
            · split at hev
              · rename_i zv hz
                have hzr : Rel W I m zv z := rel_zero T hz
                refine fin z zv false hzr ?_ hev
                rw [look _ h4]
                simp [zeroValue, typeInfo, T.info, T.zero]
              · cases hev
            · cases e1
          · cases hev
      · cases hev
    · cases hev
  · cases hev

theorem mapSet_sim (hok : cfg.Ok P) (h : Sim B W I m st a.tmps) {t : TypeId} {x k v : Operand} (hev : mapSet cfg t (ev st.fr x) (ev st.fr k) (ev st.fr v) st = some st') :
    ∃ W', (Instr.mapUpdate t (a.eval x) (a.eval k) (a.eval v)).run P W = .ok () W' ∧ Sim B W' I m st' a.tmps := by
  unfold mapSet at hev
  split at hev
  · rename_i kt et id hk hx
    split at hev
    · rename_i hkk
      obtain ⟨d, hukt, hd⟩ := key_kind hok hkk
      obtain ⟨dt, hut, hkd⟩ := hok.kind hk
      cases dt <;> simp [KOk] at hkd
      obtain ⟨rfl, rfl⟩ := hkd
      have rk := rel_ev h k
      have rx := rel_ev h x
      have rv := rel_ev h v
      rw [hx] at rx
      generalize a.eval x = vx at rx
      generalize a.eval k = vk at rk
      generalize a.eval v = vv at rv
      generalize ev st.fr k = kk at rk hd hev hkk
      generalize ev st.fr v = v0 at rv hev
      cases rx with
      | @map _ _ g hg =>
        split at hev
        · rename_i es hb
          obtain ⟨ents, clock, h1, h2, h3⟩ := h.mapAt hb hg
          have h3' : ∀ (j : Nat) (k : V) (vs : List V) (e : MapEntry), es[j]? = some (k, vs) → ents.toList[j]? = some e → V.lt 0 k = true ∧ Rel W I m k e.key ∧ ∃ v, vs = [v] ∧ Rel W I m v e.val := fun j k vs e p q => h3 j k vs e p (by simpa using q)
          have hpk : V.lt 0 kk = true := by
            rcases hd with ⟨_, _, _, _, rfl⟩ | ⟨_, _, rfl⟩ | ⟨_, _, rfl⟩ <;> rfl
          split at hev
          · rename_i es' hes
            cases hev
            unfold setM at hes
            split at hes
            · rename_i hf
              cases hes
              rcases findM_sim hd rk es ents.toList 0 _ (by simp [h2]) h3' hf with ⟨_, h4⟩ | ⟨_, _, _, e1, _⟩
              · refine ⟨W.putObj g (.map (ents.push { key := vk, val := vv, born := clock }) (clock + 1)), ?_, ?_⟩
                · unfold Instr.mapUpdate
                  simp only [Sem.run_bind, run_und hut, Result.andThen_ok, MapKept.run_getObj_map h1, run_checkKeyM hukt hd, MapKept.run_findKey hukt h4]
                  rw [MapKept.run_setObj_map _ h1]; rfl
                · refine h.setObj hb hg (.map _) _ (by simp) fun hkp => .map (ents := ents.push { key := vk, val := vv, born := clock }) (World.putObj_heap_same (lt_of_heap h1)) (by simp [h2]) fun j k vs e p q => ?_
                  rw [List.getElem?_append] at p
                  rw [Array.getElem?_push] at q
                  split at p
                  · rename_i hj
                    rw [if_neg (by omega)] at q
                    obtain ⟨p1, p2, v, p3, p4⟩ := h3 j k vs e p q
                    exact ⟨p1, p2.mono (fun _ _ h => h) hkp (List.prefix_refl _), v, p3, p4.mono (fun _ _ h => h) hkp (List.prefix_refl _)⟩
                  · rename_i hj
                    have hlt := (List.getElem?_eq_some_iff.1 p).1
                    simp only [List.length_cons, List.length_nil] at hlt
                    have e0 : j - es.length = 0 := by omega
                    rw [e0] at p
                    simp only [List.getElem?_cons_zero, Option.some.injEq, Prod.mk.injEq] at p
                    obtain ⟨rfl, rfl⟩ := p
                    rw [if_pos (by omega)] at q
                    cases q
                    exact ⟨hpk, rk.mono (fun _ _ h => h) hkp (List.prefix_refl _), v0, rfl, rv.mono (fun _ _ h => h) hkp (List.prefix_refl _)⟩
              · cases e1
            · rename_i i0 w0 hf
              cases hes
              rcases findM_sim hd rk es ents.toList 0 _ (by simp [h2]) h3' hf with ⟨e, _⟩ | ⟨j', v', e', e1, h3e, h4, h5, h6, h7, h8⟩
              · cases e
              · cases e1
                simp only [Nat.zero_add] at h4 ⊢
                have hge : ents[j']? = some e' := by simpa using h3e
                refine ⟨W.putObj g (.map (ents.modify j' fun e => { e with key := vk, val := vv }) clock), ?_, ?_⟩
                · unfold Instr.mapUpdate
                  simp only [Sem.run_bind, run_und hut, Result.andThen_ok, MapKept.run_getObj_map h1, run_checkKeyM hukt hd, MapKept.run_findKey hukt h4, hge, Option.map_some, Option.getD_some, Instr.keyThatStays, h8, if_true, Sem.run_pure]
                  rw [MapKept.run_setObj_map _ h1]; rfl
                · refine h.setObj hb hg (.map _) _ (by simp) fun hkp => .map (ents := ents.modify j' fun e => { e with key := vk, val := vv }) (World.putObj_heap_same (lt_of_heap h1)) (by simp [h2]) fun j k vs e p q => ?_
                  rw [List.getElem?_set] at p
                  rw [Array.getElem?_modify] at q
                  split at p
                  · rename_i hj
                    subst hj
                    rw [if_pos rfl, hge] at q
                    simp only [Option.map_some, Option.some.injEq] at q
                    subst q
                    split at p
                    · simp only [Option.some.injEq, Prod.mk.injEq] at p
                      obtain ⟨rfl, rfl⟩ := p
                      exact ⟨hpk, rk.mono (fun _ _ h => h) hkp (List.prefix_refl _), v0, rfl, rv.mono (fun _ _ h => h) hkp (List.prefix_refl _)⟩
                    · cases p
                  · rename_i hj
                    rw [if_neg hj] at q
                    obtain ⟨p1, p2, v, p3, p4⟩ := h3 j k vs e p q
                    exact ⟨p1, p2.mono (fun _ _ h => h) hkp (List.prefix_refl _), v, p3, p4.mono (fun _ _ h => h) hkp (List.prefix_refl _)⟩
            · cases hes
          · cases hev
        · cases hev
    · cases hev
  · cases hev
end Go.Abs
/-! Slices that are written in place, and maps: what is done there is what the model does; slices that are written no more. -/
namespace Go.Abs
open Go.Lib
variable [BT] {F : Fence} {n : Nat} {P : Program} {cfg : Cfg} {B : Base} {W : World} {I : Nat → Nat → Prop} {m : List (Option Nat)} {st st' : St} {a : Act} {o : Oper} {tmps : Array Value} {orc : Orc}

theorem emptyM_sim (h : Sim B W I m st a.tmps) {s : Operand} {st1 : St} (he : emptyM st s = some st1) : Sim B W I m st1 a.tmps ∧ ∃ aa, a.eval s = .slice aa 0 0 := by
  unfold emptyM at he
  split at he
  · cases he; exact ⟨h, none, rfl⟩
  · rename_i u
    split at he
    · rename_i ow ho
      split at he
      · rename_i hc
        cases he
        simp only [Bool.and_eq_true] at hc
        obtain ⟨h1, h2⟩ := hc
        obtain ⟨d, hx⟩ : ∃ d, ev st.fr (.tmp u) = .sl d [] := by
          generalize ev st.fr (.tmp u) = v at h1
          unfold emptyV at h1
          split at h1
          · exact ⟨_, rfl⟩
          · cases h1
        have hf : heldFits 1 (heldV st ow) = true := by
          generalize heldV st ow = v at h2
          unfold emptyV at h2
          split at h2
          · rfl
          · cases h2
        obtain ⟨hown, _⟩ := owner_sim h hx ho hf (.inl rfl) rfl
        refine ⟨(h.dropOwn ow).1, ?_⟩
        rcases hown with ⟨aa, e⟩ | ⟨_, _, _, _, _, _, _, hne, _⟩
        · exact ⟨aa, e⟩
        · exact absurd rfl hne
      · cases he
    · cases he
  · cases he

theorem appendM_sim (hok : cfg.Ok P) (hB : B.n0 = B.m.length) (h : Sim B W I m st a.tmps) {bi : Bool} {dst : Option Tmp} {t tx ty : TypeId} {s x : Operand} (hev : appendM cfg bi dst t tx s x st = some st') :
    ∃ w W' I' m', (Builtin.append_ #[t, tx] ty #[a.eval s, a.eval x]).run P W = .ok w W' ∧ Sim B W' I' m' st' (aput a.tmps dst w) := by
  unfold appendM at hev
  split at hev
  · rename_i e hk
    obtain ⟨d, hu, hkd⟩ := hok.kind hk
    have := kok_slice hkd; subst this
    split at hev
    · rename_i ti hti
      split at hev
      · cases hev
      · rename_i hno
        simp only [not_or] at hno
        obtain ⟨hsz, hbz, hso⟩ := hno
        have rs := rel_ev h s
        split at hev
        · rename_i id len cap hs
          rw [hs] at rs
          split at hev
          · rename_i k new hsrc
            exact appendAt_sim hok hB h hti hu hsz hbz hso hsrc hev rs (rel_ev h x)
          · cases hev
        · rename_i hs
          rw [hs] at rs
          generalize hvs : a.eval s = vs at rs
          cases rs
          exact appendNil_sim hok h h hti hu hsz hbz hso hev (rel_ev h x)
        · split at hev
          · split at hev
            · rename_i st1 he
              obtain ⟨hS, aa, e⟩ := emptyM_sim h he
              rw [e]
              exact appendNil_sim hok h hS hti hu hsz hbz hso hev (rel_ev h x)
            · cases hev
          · cases hev
        · cases hev
    · cases hev
  · cases hev

theorem rel_evN (h : Sim B W I m st a.tmps) (x : Operand) : Rel W I m (evN st.fr x) (a.eval x) := by
  unfold evN
  split
  · exact .nils
  · exact rel_ev h x

theorem args_relN (h : Sim B W I m st a.tmps) (args : Array Operand) {cap : List V} {arr : Array Value} (hl : arr.size = cap.length) (hr : ∀ (j : Nat) (x : V), cap[j]? = some x → Rel W I m x (arr.getD j undef)) :
    (args.map a.eval ++ arr).size = (args.toList.map (evN st.fr) ++ cap).length ∧ ∀ (j : Nat) (x : V), (args.toList.map (evN st.fr) ++ cap)[j]? = some x → Rel W I m x ((args.map a.eval ++ arr).getD j undef) := by
  refine ⟨by simp [hl], fun j x hx => ?_⟩
  by_cases hj : j < args.size
  · rw [List.getElem?_append_left (by simpa using hj)] at hx
    simp only [List.getElem?_map, Option.map_eq_some_iff, Array.getElem?_toList] at hx
    obtain ⟨p, hp, rfl⟩ := hx
    rw [getD_arr (show (args.map a.eval ++ arr)[j]? = some (a.eval p) by rw [Array.getElem?_append_left (by simpa using hj)]; simp [hp])]
    exact rel_evN h p
  · rw [List.getElem?_append_right (by simpa using hj)] at hx
    have hlt := (List.getElem?_eq_some_iff.1 hx).1
    simp only [List.length_map, Array.length_toList] at hx hlt
    have e : (args.map a.eval ++ arr).getD j undef = arr.getD (j - args.size) undef := by
      simp only [Array.getD_eq_getD_getElem?]
      rw [Array.getElem?_append_right (by simpa using hj)]
      simp
    rw [e]
    exact hr _ x hx

theorem nilCall_sim (hok : cfg.Ok P) (hF : FOk F) (hcall : CallOk P orc) {g : FuncId} {args0 : List V} (hn : nilCall cfg o st = some (g, args0)) (hev : callG orc o.dst g args0 st = some st') (h : Sim B W I m st a.tmps) {next : Act → World → Prop} {Q : Exit → Act → World → Prop}
    (k : ∀ a' W', After B st' a.defers a' W' → next a' W') : o.wpIn F n P a W next Q := by
  obtain ⟨dst, op, ty, pos, after, guard⟩ := o
  unfold nilCall at hn
  simp only at hn hev
  split at hn
  · rename_i f args types
    split at hn
    · rename_i g' cap hfv
      split at hn
      · cases hn
        have hfr := rel_ev h f
        rw [hfv] at hfr
        obtain ⟨arr, hfe, hl, hr⟩ : ∃ arr, a.eval f = .func (.func g) #[] arr ∧ arr.size = cap.length ∧ ∀ (j : Nat) (x : V), cap[j]? = some x → Rel W I m x (arr.getD j undef) := by
          generalize a.eval f = vf at hfr
          cases hfr with
          | fn hl hr => exact ⟨_, rfl, hl, hr⟩
        obtain ⟨hal, har⟩ := args_relN h args hl hr
        have enter : ∀ {fn : Func}, P.funcs[g]? = some fn → (fn.name == "runtime.NumGoroutine") = false → fn.body.isNone = false →
            (execOp a.eval { dst := dst, op := .call { callee := .value f, args := args, argTypes := types }, type := ty, pos := pos, after := after, guard := guard }).run P W = .ok (.enter g (args.map a.eval ++ arr)) W := fun hfn hname hbody => by
          simp only [execOp, resolve, hfe, Deferred.ofValue, Sem.run_bind, Sem.run_pure, Result.andThen_ok, invoke, callFunc, run_program, hfn, hname, hbody]
          simp
        have wpcall : ∀ {R : Ending → World → Prop}, (∃ fn, P.funcs[g]? = some fn ∧ (fn.name == "runtime.NumGoroutine") = false ∧ fn.body.isNone = false) → CallsIn F (n - 1) P g (args.map a.eval ++ arr) W R →
            (∀ e W', R e W' → ∃ w, e = .returned w ∧ next (a.put dst w) W') → Oper.wpIn F n P { dst := dst, op := .call { callee := .value f, args := args, argTypes := types }, type := ty, pos := pos, after := after, guard := guard } a W next Q := fun ⟨fn, h1, h2, h3⟩ hc hR => by
          refine ⟨fun f _ => hF.fn f, ?_⟩
          rw [Oper.semAt_eq _ _ _ (by simp), enter h1 h2 h3, Oper.uponIn_enter]
          refine ⟨fun hd => (by rw [hF.depth] at hd; cases hd), hc.mono ?_⟩
          intro e W' hR'
          obtain ⟨w, rfl, hn⟩ := hR e W' hR'
          exact hn
        have back : ∀ {R : List Nat} {v : V} {own : Bool} {hp : List Blk} {w : Value} {W' : World} {I' : Nat → Nat → Prop} {m' : List (Option Nat)} , Sees st R → Sim (Sim.base W I m st a.tmps R) W' I' m' (ret v own hp) #[w] →
            ({ st with hp := backHp st.hp R hp, al := keepAl R st.al }.putOwn dst (v.ren (backId R st.hp.length)) (own && isSl v)) = st' → next (a.put dst w) W' := fun {R v own hp w W' I' m'} hR hS hn => by
          cases hn
          have := h.back hR (ret_less (own' := own && isSl v) hS fun h => (Bool.and_eq_true_iff.1 h).1) dst fun h => isSl_inv (Bool.and_eq_true_iff.1 h).2
          refine k _ _ ⟨put_defers _ _ _, I', backM m R m', ?_⟩
          rw [put_tmps]
          exact this
        unfold callG at hev
        split at hev
        · rename_i hpure
          split at hev
          · rename_i v own hcl
            refine wpcall (hcall.call _ _ _ _ _ _ hcl).1 (pureCall_sim hcall hF h hcl hpure hal har) ?_
            rintro e W' ⟨w, I', m', rfl, hS⟩
            refine ⟨w, rfl, back sees_nil hS ?_⟩
            rw [ren_pure v (limCall_sim h hS).2.2]
            have e0 : backHp st.hp [] [] = st.hp := by simp [backHp, putBack]
            rw [e0]
            exact Option.some.inj hev
          · rename_i v own hp hcl
            refine wpcall (hcall.call _ _ _ _ _ _ hcl).1 (pureCall_sim hcall hF h hcl hpure hal har) ?_
            rintro e W' ⟨w, I', m', rfl, hS⟩
            exact ⟨w, rfl, back sees_nil hS (Option.some.inj hev)⟩
          · cases hev
        · simp only at hev
          split at hev
          · rename_i hclosed
            obtain ⟨hR, hargs⟩ := closed_sees hclosed
            split at hev
            · rename_i v own hp hcl
              refine wpcall (hcall.call _ _ _ _ _ _ hcl).1 (call_sim hcall hF h hR hargs hcl hal har) ?_
              rintro e W' ⟨w, I', m', rfl, hS⟩
              exact ⟨w, rfl, back hR hS (Option.some.inj hev)⟩
            · cases hev
          · cases hev
      · cases hn
    · cases hn
  · cases hn

theorem byteElem_inv {t e : TypeId} {f : TI} (h : byteElem cfg t = true) (hk : (cfg.ty t).map TI.k = some (.slice e)) (hf : cfg.ty e = some f) : f.k = .int .u8 := by
  unfold byteElem at h
  rw [hk] at h
  simp only [hf, Option.map_some] at h
  split at h
  · rename_i he; exact Option.some.inj he
  · cases h
theorem buildOwn_sim (hok : cfg.Ok P) (h : Sim B W I m st a.tmps) {t : TypeId} {len : Nat} {parts : Array (Nat × Operand)} {dst : Option Tmp}
    (hev : buildOwn cfg dst t (buildSliceV cfg t len (parts.toList.map fun (p : Nat × Operand) => (p.1, ev st.fr p.2))) st = some st') :
    ∃ w W' I', (Instr.buildSlice t len (parts.map fun (p : Nat × Operand) => (p.1, a.eval p.2))).run P W = .ok w W' ∧ Sim B W' I' m st' (aput a.tmps dst w) := by
  unfold buildOwn at hev
  split at hev
  · rename_i dd xs hv
    split at hev
    · rename_i hc
      cases hev
      obtain ⟨w, W', I', hrun, hS, hrel, b, rfl, d', xs', arr, e, f, hvv, rfl, hk, hf, hlen, hrows, hnew, hal, hI, hold⟩ := run_buildSliceV hok h hv
      cases hvv
      refine ⟨_, W', I', hrun, hS.putOwn dst hrel ?_ fun g hg => ?_⟩
      · subst hlen
        cases xs with
        | nil => exact .inl ⟨_, rfl⟩
        | cons x r =>
          refine .inr ⟨W.heap.size, r.length, arr, e, f.size, (0, 0), rfl, by simp, hrows, hnew, Nat.zero_le _, hal, Nat.le_refl _, hI, fun hb => ?_⟩
          simp only [Bool.or_eq_true, Bool.not_eq_true'] at hc
          rcases hc with hc | hc
          · exact hok.bt1 _ _ hf (byteElem_inv hc hk hf)
          · rw [hb] at hc; cases hc
      · have hg' : g = W.heap.size := by
          cases len with
          | zero => cases hg
          | succ n => cases hg; rfl
        subst hg'
        refine ⟨fun hm => ?_, .inr h.grow.size, fun l xs' v' hh hcl => ?_⟩
        · obtain ⟨id, hid⟩ := List.mem_iff_getElem?.1 hm
          have hlt : id < st.hp.length := by rw [← h.mlen]; exact (List.getElem?_eq_some_iff.1 hid).1
          obtain ⟨x, hx, hb⟩ := h.blk id _ (List.getElem?_eq_getElem hlt)
          rw [hid] at hx
          cases hx
          exact absurd hb.heap (Nat.lt_irrefl _)
        · have hh' : Held W m st a.tmps l xs' v' := by
            cases hh with
            | tmp ho hx => exact .tmp ho hx
            | cell hb ho hx hg hv =>
              refine .cell hb ho hx hg ?_
              obtain ⟨x, hx', hb'⟩ := h.blk _ _ hb
              rw [hg] at hx'
              cases hx'
              rw [← cell_same (hold _ hb'.heap)]; exact hv
          exact absurd (claim_lt (h.own _ _ _ hh') hcl) (Nat.lt_irrefl _)
    · cases hev
  · cases hev
theorem evNew_sim (hok : cfg.Ok P) (hF : FOk F) (hB : B.n0 = B.m.length) {bi : Bool} (hev : evNew cfg bi o st = some st') (h : Sim B W I m st a.tmps) {next : Act → World → Prop} {Q : Exit → Act → World → Prop}
    (k : ∀ a' W', After B st' a.defers a' W' → next a' W') : o.wpIn F n P a W next Q := by
  obtain ⟨dst, op, ty, pos, after, guard⟩ := o
  have give : ∀ {w : Value} {W' : World} {I' : Nat → Nat → Prop} {m' : List (Option Nat)}, (∀ c, op ≠ .defer c) → (execOp a.eval { dst := dst, op := op, type := ty, pos := pos, after := after, guard := guard }).run P W = .ok (.value w) W' → Sim B W' I' m' st' (aput a.tmps dst w) →
      Oper.wpIn F n P { dst := dst, op := op, type := ty, pos := pos, after := after, guard := guard } a W next Q := fun hnd hrun hS => wp_of_gives hF hnd ⟨_, _, _, _, hrun, hS⟩ k
  unfold evNew at hev
  simp only at hev
  split at hev
  · -- makeSlice
    rename_i t len cap
    obtain ⟨w, W', I', m', hrun, hS⟩ := makeM_sim hok h hev
    exact give (by simp) (by simp only [execOp, Sem.run_bind, hrun, Result.andThen_ok, Sem.run_pure]) hS
  · -- makeMap
    rename_i t
    cases hev
    have hP := (h.pushObj (.map []) (.map #[] 0) (by simp) fun m' _ => .map (heap_alloc_new W _) rfl (by simp)).noAl
    refine give (by simp) (w := .map (some W.heap.size)) (W' := W.alloc (.map #[] 0)) ?_ (hP.put dst (.map (g := W.heap.size) ?_))
    · have hrun : (Instr.makeMap t none).run P W = .ok (.map (some W.heap.size)) (W.alloc (.map #[] 0)) := rfl
      simp only [execOp, Option.map_none, hrun, Sem.run_bind, Result.andThen_ok, Sem.run_pure]
    · rw [← h.mlen, List.getElem?_append_right (Nat.le_refl _)]; simp
  · -- mapUpdate
    rename_i t mm kk vv
    split at hev
    · cases hev
    · rename_i hd
      simp only [Bool.not_eq_true, Option.isSome_eq_false_iff, Option.isNone_iff_eq_none] at hd
      subst hd
      obtain ⟨W', hrun, hS⟩ := mapSet_sim hok h hev
      exact wp_skip hF (by simp) (by simp only [execOp, Sem.run_bind, hrun, Result.andThen_ok, Sem.run_pure]) (k _ _ ⟨rfl, I, m, hS⟩)
  · -- lookup
    rename_i t x i ok
    obtain ⟨w, hrun, hS⟩ := mapGet_sim hok h hev
    exact give (by simp) (by simp only [execOp, Sem.run_bind, hrun, Result.andThen_ok, Sem.run_pure]) hS
  · -- slice literals
    rename_i t n parts
    split at hev
    · obtain ⟨w, W', I', hrun, hS⟩ := buildOwn_sim hok h hev
      exact give (by simp) (by simp only [execOp, Sem.run_bind, hrun, Result.andThen_ok, Sem.run_pure]) hS
    · cases hev
  · -- slice of nothing
    rename_i t x lo hi
    split at hev
    rotate_right 1
    · cases hev
    rename_i hx
    unfold sliceNil at hev
    split at hev
    · rename_i e l0 h0 hk hlo hhi
      by_cases hsome : (cfg.ty e).isSome = true
      rotate_right 1
      · rw [if_neg hsome] at hev; cases hev
      rw [if_pos hsome] at hev
      obtain ⟨te, hte⟩ := Option.isSome_iff_exists.1 hsome
      obtain ⟨i', d', z', hT⟩ := hok.ty _ _ hte
      cases hev
      obtain ⟨d, hu, hkd⟩ := hok.kind hk
      have := kok_slice hkd; subst this
      have rx := rel_ev h x
      rw [hx] at rx
      generalize hvx : a.eval x = vx at rx
      cases rx with
      | @nils _ aa =>
        have rlo := orel_ev h lo
        have rhi := orel_ev h hi
        have hl0 : l0 = 0 ∧ h0 = 0 := by
          refine ⟨?_, ?_⟩
          · unfold bound at hlo
            split at hlo
            · cases hlo; rfl
            · split at hlo
              · cases hlo; omega
              · cases hlo
            · cases hlo
          · unfold bound at hhi
            split at hhi
            · cases hhi; rfl
            · split at hhi
              · cases hhi; omega
              · cases hhi
            · cases hhi
        obtain ⟨rfl, rfl⟩ := hl0
        obtain ⟨hrun, h1, h2⟩ := run_bounds2 (P := P) (W := W) (isS := true) (cap := 0) (len := 0) hhi hlo rlo rhi (Nat.le_refl _)
        refine give (by simp) (w := .slice aa 0 0) ?_ (h.put dst .nils)
        have hrun2 : (Instr.sliceAt t (.slice aa 0 0) (lo.map a.eval) (hi.map a.eval) none).run P W = .ok (.slice aa 0 0) W := by
          cases aa <;> simp [Instr.sliceAt, Instr.slice, run_und hu, hrun, sizeOf_run hT, add_none]
        simp only [execOp, hvx, Option.map_none, Sem.run_bind, hrun2, Result.andThen_ok, Sem.run_pure]
    · cases hev
  · -- call
    rename_i c
    obtain ⟨callee, args, types⟩ := c
    split at hev
    · rename_i b hb
      simp only at hb
      subst hb
      have hexec : execOp a.eval { dst := dst, op := .call { callee := .builtin b, args := args, argTypes := types }, type := ty, pos := pos, after := after, guard := guard } =
          (do let d ← (pure { target := .builtin b types ty (args.map fun | .const _ => true | _ => false), args := args.map a.eval } : Sem Deferred); invoke d.target d.args) := rfl
      simp only at hev
      split at hev
      · rename_i s x t tx hargs htypes
        obtain ⟨w, W', I', m', hrun, hS⟩ := appendM_sim (ty := ty) hok hB h hev
        have e1 : args.map a.eval = #[a.eval s, a.eval x] := by
          have : args = #[s, x] := by apply Array.ext'; simpa using hargs
          rw [this]; simp
        have e2 : types = #[t, tx] := by apply Array.ext'; simpa using htypes
        refine give (by simp) (w := w) ?_ hS
        rw [hexec]
        simp only [Sem.run_bind, Sem.run_pure, Result.andThen_ok, invoke, builtin, e1, e2, hrun]
      · rename_i x t tys hargs htypes
        split at hev
        · rename_i e hk hx
          cases hev
          obtain ⟨d, hu, hkd⟩ := hok.kind hk
          have := kok_slice hkd; subst this
          have rx := rel_ev h x
          rw [hx] at rx
          have e1 : args.map a.eval = #[a.eval x] := by
            have : args = #[x] := by apply Array.ext'; simpa using hargs
            rw [this]; simp
          have e2 : types[0]? = some t := by rw [← Array.getElem?_toList, htypes]; rfl
          generalize a.eval x = vx at rx e1
          cases rx
          refine give (by simp) (w := .int .i64 0) ?_ (h.put dst .int)
          rw [hexec]
          simp only [Sem.run_bind, Sem.run_pure, Result.andThen_ok, invoke, builtin, e1, Builtin.cap_]
          simp [e2, run_und hu, goInt]
        · cases hev
      · cases hev
    · cases hev
  · cases hev

theorem lt0_all {p : Nat → Bool} : ∀ v : V, V.lt 0 v = true → V.all p v = true := by
  intro v
  refine V.rec (motive_1 := fun v => V.lt 0 v = true → V.all p v = true) (motive_2 := fun l => V.ltl 0 l = true → V.alll p l = true)
    (motive_3 := fun l => V.allll (fun i => Nat.blt i 0) l = true → V.allll p l = true) ?_ ?_ ?_ ?_ ?_ ?_ ?_ ?_ ?_ ?_ ?_ ?_ ?_ ?_ ?_ ?_ ?_ ?_ ?_ ?_ ?_ v <;> intros <;> simp_all [V.lt, V.ltl, V.all, V.alll, V.allll]
  · rename_i d _ _ h
    cases d <;> simp_all
  · rename_i d _ _ h
    cases d <;> simp_all
theorem cloneG_sim (hok : cfg.Ok P) (hF : FOk F) (hcall : CallOk P orc) {bi : Bool} {g : FuncId} {args0 : List V} (hn : clmCall cfg bi o st = some (g, args0)) (hev : cloneG orc o.dst g args0 st = some st') (h : Sim B W I m st a.tmps) {next : Act → World → Prop} {Q : Exit → Act → World → Prop}
    (k : ∀ a' W', After B st' a.defers a' W' → next a' W') : o.wpIn F n P a W next Q := by
  obtain ⟨dst, op, ty, pos, after, guard⟩ := o
  unfold clmCall at hn
  simp only at hn hev
  split at hn
  · rename_i f args types
    split at hn
    · rename_i g' hfv
      split at hn
      · rename_i hcond
        cases hn
        simp only [Bool.and_eq_true] at hcond
        have hpure := hcond.2
        have h0 := h.holes [Blk.hole]
        have hfr := rel_ev h f
        rw [hfv] at hfr
        obtain ⟨arr, hfe, hl, hr⟩ : ∃ arr, a.eval f = .func (.func g) #[] arr ∧ arr.size = ([] : List V).length ∧ ∀ (j : Nat) (x : V), ([] : List V)[j]? = some x → Rel W I m x (arr.getD j undef) := by
          generalize a.eval f = vf at hfr
          cases hfr with
          | fn hl hr => exact ⟨_, rfl, hl, hr⟩
        have harr : arr = #[] := Array.size_eq_zero_iff.1 hl
        subst harr
        have hal : (args.map a.eval).size = (args.toList.map (ev st.fr)).length := by simp
        have har : ∀ (j : Nat) (x : V), (args.toList.map (ev st.fr))[j]? = some x → Rel W I (m ++ List.replicate [Blk.hole].length none) x ((args.map a.eval).getD j undef) := fun j x hx => by
          rw [List.getElem?_map, Option.map_eq_some_iff] at hx
          obtain ⟨y, hy, rfl⟩ := hx
          have e : (args.map a.eval).getD j undef = a.eval y := by
            rw [Array.getD_eq_getD_getElem?, Array.getElem?_map]
            rw [Array.getElem?_toList] at hy
            rw [hy]; rfl
          rw [e]
          exact rel_ev h0 y
        have enter : ∀ {fn : Func}, P.funcs[g]? = some fn → (fn.name == "runtime.NumGoroutine") = false → fn.body.isNone = false →
            (execOp a.eval { dst := dst, op := .call { callee := .value f, args := args, argTypes := types }, type := ty, pos := pos, after := after, guard := guard }).run P W = .ok (.enter g (args.map a.eval)) W := fun hfn hname hbody => by
          simp only [execOp, resolve, hfe, Deferred.ofValue, Sem.run_bind, Sem.run_pure, Result.andThen_ok, invoke, callFunc, run_program, hfn, hname, hbody]
          simp
        have wpcall : ∀ {R : Ending → World → Prop}, (∃ fn, P.funcs[g]? = some fn ∧ (fn.name == "runtime.NumGoroutine") = false ∧ fn.body.isNone = false) → CallsIn F (n - 1) P g (args.map a.eval) W R →
            (∀ e W', R e W' → ∃ w, e = .returned w ∧ next (a.put dst w) W') → Oper.wpIn F n P { dst := dst, op := .call { callee := .value f, args := args, argTypes := types }, type := ty, pos := pos, after := after, guard := guard } a W next Q := fun ⟨fn, h1, h2, h3⟩ hc hR => by
          refine ⟨fun f _ => hF.fn f, ?_⟩
          rw [Oper.semAt_eq _ _ _ (by simp), enter h1 h2 h3, Oper.uponIn_enter]
          refine ⟨fun hd => (by rw [hF.depth] at hd; cases hd), hc.mono ?_⟩
          intro e W' hR'
          obtain ⟨w, rfl, hn⟩ := hR e W' hR'
          exact hn
        have hS : Sees { st with hp := st.hp ++ [Blk.hole] } [st.hp.length] := ⟨by simp, fun r hr => by
          rw [List.mem_singleton] at hr
          subst hr
          exact ⟨.hole, by simp, rfl⟩⟩
        have hargs : V.alll (fun i => [st.hp.length].contains i) (args.toList.map (ev st.fr)) = true := by
          rw [alll_iff]
          intro x hx
          exact lt0_all x (alll_iff.1 hpure x hx)
        have hsub : subHp (st.hp ++ [Blk.hole]) [st.hp.length] = [Blk.hole] := by simp [subHp, Blk.ren]
        have hren : V.renl (fun i => [st.hp.length].idxOf i) (args.toList.map (ev st.fr)) = args.toList.map (ev st.fr) := renl_pure _ hpure
        unfold cloneG at hev
        split at hev
        · rename_i v own hp hcl
          have hcl' := hcl
          rw [← hren, ← hsub] at hcl'
          refine wpcall (hcall.call _ _ _ _ _ _ hcl).1 (call_sim hcall hF h0 hS hargs hcl' hal har) ?_
          rintro e W' ⟨w, I', m', rfl, hS2⟩
          refine ⟨w, rfl, ?_⟩
          have hb := h0.back hS (ret_less (own' := own && isSl v) hS2 fun h => (Bool.and_eq_true_iff.1 h).1) dst fun h => isSl_inv (Bool.and_eq_true_iff.1 h).2
          refine k (a.put dst w) W' ⟨put_defers _ _ _, I', backM (m ++ List.replicate [Blk.hole].length none) [st.hp.length] m', ?_⟩
          rw [put_tmps]
          cases hev
          simpa using hb
        · cases hev
      · cases hn
    · cases hn
  · cases hn

theorem evOpM_sim (hok : cfg.Ok P) (hF : FOk F) (hB : B.n0 = B.m.length) (hcall : CallOk P orc) {bi : Bool} (hev : evOpM cfg orc bi o st = some st') (h : Sim B W I m st a.tmps) {next : Act → World → Prop} {Q : Exit → Act → World → Prop}
    (k : ∀ a' W', After B st' a.defers a' W' → next a' W') : o.wpIn F n P a W next Q := by
  unfold evOpM at hev
  split at hev
  · rename_i g args hn
    exact nilCall_sim hok hF hcall hn hev h k
  · split at hev
    · rename_i g args hn
      exact cloneG_sim hok hF hcall hn hev h k
    · split at hev
      · rename_i s hs
        cases hev
        exact evNew_sim hok hF hB hs h k
      · exact evOp_sim hok hF hcall hev h k

theorem rowsOf_rel {cs : List V} {arr : Array Value} {g off len size c : Nat} {m' : List (Option Nat)} {I' : Nat → Nat → Prop} {W' : World} {t : TypeId} {fz : Nat × Nat} (hw : W'.heap[g]? = some (.cells arr t fz)) (hle : off + len * size ≤ cs.length) (hca : cs.length ≤ arr.size)
    (h1 : ∀ (j : Nat) (x : V), cs[j]? = some x → (arr.getD j undef).oneCell' = true) (hr : ∀ (j : Nat) (x : V), cs[j]? = some x → Rel W' I' m' x (arr.getD j undef)) (hIn : ∀ q : Nat, off ≤ q → q < off + len * size → I' g q) (hc : len ≤ c) :
    Rel W' I' m' (.sl (V.ltl 0 ((cs.drop off).take (len * size))) (rowsOf size len (cs.drop off))) (.slice (some ⟨g, off, none⟩) len c) := by
  have hget : ∀ {i j : Nat} {row : List V} {x : V}, (rowsOf size len (cs.drop off))[i]? = some row → row[j]? = some x → i < len ∧ j < size ∧ cs[off + (i * size + j)]? = some x := fun {i j row x} p1 p2 => by
    obtain ⟨k1, rfl⟩ := rowsOf_get _ _ _ _ _ p1
    obtain ⟨k2, k3⟩ := take_drop_get p2
    rw [List.getElem?_drop] at k3
    exact ⟨k1, k2, k3⟩
  refine .sl (g := g) (o := off) (sz := size) (f := fun i j => arr.getD (off + (i * size + j)) undef) (rowsOf_length _ _ _).symm hc (fun _ => rfl) (fun i row hx => ?_) (fun i row j x p1 p2 => ?_) fun i row j x p1 p2 => ?_
  · obtain ⟨k1, rfl⟩ := rowsOf_get _ _ _ _ _ hx
    have : (i + 1) * size ≤ len * size := Nat.mul_le_mul_right _ k1
    rw [Nat.succ_mul] at this
    simp; omega
  · obtain ⟨k1, k2, k3⟩ := hget p1 p2
    have hlt := row_lt k1 k2
    refine ⟨hIn _ (by omega) (by omega), ?_, h1 _ x k3⟩
    rw [cell_of_blk hw]
    exact get_of_lt (by omega)
  · obtain ⟨k1, k2, k3⟩ := hget p1 p2
    have hlt := row_lt k1 k2
    cases hd : V.ltl 0 ((cs.drop off).take (len * size)) with
    | true =>
      refine (hr _ x k3).pure (ltl_get hd (j := i * size + j) ?_)
      rw [List.getElem?_take, if_pos hlt, List.getElem?_drop]
      exact k3
    | false => simpa using hr _ x k3

theorem freezeT_sim (hok : cfg.Ok P) (hB : B.n0 = B.m.length) {t : Tmp} (hev : freezeT cfg t st = some st') (h : Sim B W I m st tmps) (hlt : t < st.fr.length) : ∃ I' m', Sim B W I' m' st' tmps := by
  have hself : aput tmps (some t) (tmps.getD t undef) = tmps := by
    apply Array.ext_getElem?
    intro i
    simp only [aput, Array.getElem?_setIfInBounds]
    split
    · rename_i e
      subst e
      have h2 : t < tmps.size := by rw [h.len]; exact hlt
      rw [if_pos h2]
      simp [Array.getD_eq_getD_getElem?, Array.getElem?_eq_getElem h2]
    · rfl
  have hx : st.fr[t]? = some (st.fr.getD t .any) := by simp [List.getD_eq_getElem?_getD, List.getElem?_eq_getElem hlt]
  have hrel := h.fr t _ hx
  unfold freezeT at hev
  split at hev
  · rename_i hv
    cases hev
    rw [hv] at hrel
    refine ⟨I, m, ?_⟩
    rw [← hself]
    refine h.put (some t) ?_
    generalize tmps.getD t undef = w at hrel
    cases hrel
    exact .sl (g := 0) (o := 0) (sz := 0) (f := fun _ _ => undef) rfl (by simp) (by simp) (by simp) (by simp) (by simp)
  · cases hev; exact ⟨I, m, h⟩
  · rename_i id off len cap hv
    rw [hv] at hrel
    split at hev
    · rename_i e ow cs hb
      split at hev
      · rename_i ti hti
        split at hev
        · rename_i hc
          obtain ⟨hnb, hle, hsz, hal, hnm⟩ := hc
          cases hev
          obtain ⟨w, hw0⟩ : ∃ w, w = tmps.getD t undef := ⟨_, rfl⟩
          rw [← hw0] at hrel hself
          cases hrel with
          | @ms _ _ _ _ _ c g hg hlc hcc hz =>
            obtain ⟨x, hx2, hbk⟩ := h.blk id _ hb
            rw [hg] at hx2; cases hx2
            cases hbk with
            | @cells _ _ _ arr _ hw hsa h1 hr =>
              have hidl : id < st.hp.length := (List.getElem?_eq_some_iff.1 hb).1
              have hid : B.m.length ≤ id := by have := h.nb; omega
              obtain ⟨hL, hLn⟩ := h.lose hid hidl hal
              obtain ⟨hgm, hgc⟩ := hLn g hg
              let I' : Nat → Nat → Prop := fun g' q => I g' q ∨ (g' = g ∧ q < cs.length)
              have hput : ∀ (j g : Nat), (!Nat.beq j id) = true → m[j]? = some (some g) → (m.set id none)[j]? = some (some g) := fun j g hj hm => by
                rw [List.getElem?_set, if_neg fun e => (nb_ne.1 hj) e.symm]; exact hm
              have hsa1 := hsa.1
              have hS : Sim B W I' (m.set id none) (st.lose id) tmps := hL.worldX (fun g' => g' = g) rfl ⟨rfl, Nat.le_refl _⟩ rfl (Nat.le_refl _) (fun _ _ _ => rfl) (fun g' hg' => hg' ▸ hgm) (fun g' l xs' v' hg' hh => hg' ▸ hgc l xs' v' hh) (fun g' hg' => hg' ▸ h.mA g (List.mem_of_getElem? hg)) (KeepI.refl _ _)
                (fun _ _ hi => .inl hi) (fun g' q hi => hi.imp (fun h => h) fun hi => .inr hi.1) (fun g' q hi => by
                  rcases hi with hi | ⟨rfl, hlt⟩
                  · exact h.live g' q hi
                  · rw [cell_of_blk hw]; exact ⟨_, Array.getElem?_eq_getElem (by omega)⟩) fun g' hg' x => (by rw [hg', hw]; simp)
              refine ⟨I', m.set id none, ?_⟩
              rw [← hself]
              refine hS.put (some t) (rowsOf_rel hw hle hsa1 h1 (fun j x hx => ?_) (fun q _ hq => .inr ⟨rfl, by omega⟩) (Nat.le_trans hlc hcc))
              exact ((hr j x hx).on hput (alll_get hnm hx)).mono_le (fun _ _ hi => .inl hi) (KeepI.refl _ _) (MLe.refl _)
        · cases hev
      · cases hev
    · cases hev
  · cases hev
end Go.Abs
