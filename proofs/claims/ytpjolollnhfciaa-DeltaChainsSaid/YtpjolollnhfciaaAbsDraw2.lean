/- An operation does not notice a slot that it does not look at; what it leaves as it was. -/
import Derived.Test.YtpjolollnhfciaaAbsDraw
set_option linter.all false
namespace Go.Abs
open Go.Lib
variable [BT] {cfg : Cfg} {orc : Orc} {st st' : St} {o : Oper}

theorem appendTo_put {ti : TI} {dst : Option Tmp} {t tx : TypeId} {d1 : Bool} {xs : List (List V)} {x : V} {d : Option Tmp} {v : V} (h : ∀ t, d = some t → dst ≠ some t) :
    appendTo cfg ti dst t tx d1 xs x (st.put d v) = (appendTo cfg ti dst t tx d1 xs x st).map fun s => s.put d v := by
  unfold appendTo
  split
  · split
    · rw [putOwn_comm h]; rfl
    · rfl
  · split
    · rw [putOwn_comm h]; rfl
    · rfl
  · rfl

theorem appendOp_put {dst : Option Tmp} {t tx : TypeId} {s x : Operand} {d : Option Tmp} {v : V} (h : ∀ t, d = some t → dst ≠ some t) (hs : ∀ t, d = some t → s ≠ .tmp t) (hx : ∀ t, d = some t → x ≠ .tmp t) (ha : NoAl st d) :
    appendOp cfg dst t tx s x (st.put d v) = (appendOp cfg dst t tx s x st).map fun s => s.put d v := by
  unfold appendOp
  rw [ev_put hx]
  split
  · split
    · split
      · rfl
      · split
        · rename_i u
          rw [ev_put hs]
          split
          · have hu : ∀ t, d = some t → u ≠ t := fun t ht e => hs t ht (by rw [e])
            rw [ownerOf_put hu ha]
            split
            · rfl
            · rename_i ow how
              have hne : ∀ t, d = some t → ow ≠ .tmp t := fun t ht => by subst ht; exact ownerOf_ne (hu t rfl) ha how
              rw [heldV_put hne]
              split
              · rw [dropOwn_comm, appendTo_put h]
              · rfl
          · rfl
        · rw [appendTo_put h]
        · rfl
    · rfl
  · rfl

theorem movesFrom_put {x : Operand} {d : Option Tmp} {v : V} (hx : ∀ t, d = some t → x ≠ .tmp t) : movesFrom (st.put d v) x = movesFrom st x := by
  unfold movesFrom
  split
  · rename_i u
    have hu : ∀ t, d = some t → u ≠ t := fun t ht e => hx t ht (by rw [e])
    rw [ev_put hx, own_put hu]
  · rfl
  · rfl

theorem setHp_put {d : Option Tmp} {v : V} (hp : List Blk) : ({ st.put d v with hp := hp, al := [] } : St) = ({ st with hp := hp, al := [] } : St).put d v := by
  cases d with
  | none => rfl
  | some d => simp [St.put]

theorem noAl_put {d : Option Tmp} {v : V} : ({ st.put d v with al := [] } : St) = ({ st with al := [] } : St).put d v := by
  cases d with
  | none => rfl
  | some d => simp [St.put]

theorem storeOp_put {t : TypeId} {p x : Operand} {d : Option Tmp} {v : V} (hp : ∀ t, d = some t → p ≠ .tmp t) (hx : ∀ t, d = some t → x ≠ .tmp t) :
    storeOp cfg t p x (st.put d v) = (storeOp cfg t p x st).map fun s => s.put d v := by
  unfold storeOp
  rw [ev_put hp, ev_put hx, hp_put, movesFrom_put hx]
  split
  · rfl
  · split
    · split
      · split
        · simp only
          cases d with
          | none => cases movesFrom st x with
            | none => rfl
            | some q => cases q <;> rfl
          | some d =>
            cases movesFrom st x with
            | none => simp [St.put]
            | some q =>
              cases q with
              | none => simp [St.put]
              | some u =>
                simp only [St.put, Option.map_some, Option.some.injEq, St.mk.injEq, true_and, List.filter_filter, List.filter_nil, and_true]
                congr 1; funext x; exact Bool.and_comm _ _
        · rfl
      · rfl
    · rfl

theorem dataOp_put {dst : Option Tmp} {x : Operand} {d : Option Tmp} {v : V} (h : ∀ t, d = some t → dst ≠ some t) (hx : ∀ t, d = some t → x ≠ .tmp t) (ha : NoAl st d) :
    dataOp dst x (st.put d v) = (dataOp dst x st).map fun s => s.put d v := by
  unfold dataOp
  cases x with
  | tmp u =>
    simp only
    have e : findAlias u (st.put d v).al = findAlias u st.al := by
      cases d with
      | none => rfl
      | some d => exact findAlias_filter (fun e => hx d rfl (by rw [e])) (ha d rfl)
    rw [e]
    split
    · rename_i id off _
      have : isOwner (st.put d v) (.cell id off) = isOwner st (.cell id off) := by simp only [isOwner, hp_put]
      rw [this, heldV_put (fun t _ e => by cases e), ev_put hx]
      split
      · rw [put_comm h, alias_comm h (fun t _ e => by cases e)]; rfl
      · rfl
    · rfl
  | _ => rfl

theorem textOp_put {dst : Option Tmp} {t : TypeId} {p n : Operand} {d : Option Tmp} {v : V} (h : ∀ t, d = some t → dst ≠ some t) (hp : ∀ t, d = some t → p ≠ .tmp t) (hn : ∀ t, d = some t → n ≠ .tmp t) (ha : NoAl st d) :
    textOp cfg dst t p n (st.put d v) = (textOp cfg dst t p n st).map fun s => s.put d v := by
  unfold textOp
  rw [ev_put hn]
  split
  · rename_i e u hk
    have e : findAlias u (st.put d v).al = findAlias u st.al := by
      cases d with
      | none => rfl
      | some d => exact findAlias_filter (fun e => hp d rfl (by rw [e])) (ha d rfl)
    rw [e]
    split
    · rename_i id off _ _
      have : isOwner (st.put d v) (.cell id off) = isOwner st (.cell id off) := by simp only [isOwner, hp_put]
      have hlen : (st.put d v).fr.length = st.fr.length := by cases d <;> simp [St.put]
      rw [this, hlen, heldV_put (fun t _ e => by cases e)]
      split
      · split
        · split
          · split
            · rw [put_comm h]; rfl
            · rfl
          · rfl
        · rfl
      · rfl
    · rfl
  · rfl

theorem builtinOp_put {b : Builtin} {dst : Option Tmp} {args : List Operand} {types : List TypeId} {d : Option Tmp} {v : V} (h : ∀ t, d = some t → dst ≠ some t) (hx : ∀ x ∈ args, ∀ t, d = some t → x ≠ .tmp t) (ha : NoAl st d) :
    builtinOp cfg b dst args types (st.put d v) = (builtinOp cfg b dst args types st).map fun s => s.put d v := by
  have hl : args.map (ev (st.put d v).fr) = args.map (ev st.fr) := List.map_congr_left fun x hm => ev_put (hx x hm)
  have hm : ∀ y : Option V, (y.map fun w => (st.put d v).put dst w) = ((y.map fun w => st.put dst w).map fun s => s.put d v) := fun y => by
    cases y with
    | none => rfl
    | some w => simp only [Option.map_some, put_comm h]
  unfold builtinOp
  split
  · exact appendOp_put h (hx _ (by simp)) (hx _ (by simp)) ha
  · rw [ev_put (hx _ (by simp))]; exact hm _
  · rw [hl]; exact hm _
  · rw [hl]; exact hm _
  · exact dataOp_put h (hx _ (by simp)) ha
  · exact textOp_put h (hx _ (by simp)) (hx _ (by simp)) ha
  · rfl

theorem pushBlk_put {dst : Option Tmp} {b : Blk} {d : Option Tmp} {v : V} (h : ∀ t, d = some t → dst ≠ some t) : pushBlk (st.put d v) dst b = (pushBlk st dst b).put d v := by
  unfold pushBlk
  rw [hp_put]
  have e : ({ st.put d v with hp := st.hp ++ [b] } : St) = ({ st with hp := st.hp ++ [b] } : St).put d v := by cases d <;> rfl
  rw [e, put_comm h]

/-- A slot that the operation does not look at, and that it does not write, may be written before it or behind it. -/
theorem evOp_put {d : Option Tmp} {v : V} (h : ∀ t, d = some t → o.dst ≠ some t) (hx : ∀ x ∈ o.op.operands, ∀ t, d = some t → x ≠ .tmp t) (ha : NoAl st d) :
    evOp cfg orc false o (st.put d v) = (evOp cfg orc false o st).map fun s => s.put d v := by
  obtain ⟨dst, op, ty, pos, after, guard⟩ := o
  simp only at h hx
  have hm : ∀ y : Option V, (y.map fun w => (st.put d v).put dst w) = ((y.map fun w => st.put dst w).map fun s => s.put d v) := fun y => by
    cases y with
    | none => rfl
    | some w => simp only [Option.map_some, put_comm h]
  have pairs : ∀ ps : Array (Nat × Operand), (∀ x ∈ (ps.toList.map (·.2)).toArray, ∀ t, d = some t → x ≠ .tmp t) → (ps.toList.map fun (p : Nat × Operand) => (p.1, ev (st.put d v).fr p.2)) = ps.toList.map fun (p : Nat × Operand) => (p.1, ev st.fr p.2) := fun ps hp =>
    List.map_congr_left fun p hm => by rw [ev_put (hp p.2 (by simp only [List.mem_toArray]; exact List.mem_map.2 ⟨p, hm, rfl⟩))]
  have lst : ∀ ps : List Operand, (∀ x ∈ ps, ∀ t, d = some t → x ≠ .tmp t) → ps.map (ev (st.put d v).fr) = ps.map (ev st.fr) := fun ps hp => List.map_congr_left fun x hm => ev_put (hp x hm)
  cases op <;> simp only [Op.operands] at hx <;> simp only [evOp, Bool.not_false, Bool.and_true, Bool.true_and, Bool.false_or, Bool.false_and, Bool.false_eq_true, if_false, Option.map_none]
  case move x =>
    have e := ev_put (st := st) (v := v) (hx x (by simp))
    cases x with
    | tmp u =>
      have hu : ∀ t, d = some t → u ≠ t := fun t ht e => hx (.tmp u) (by simp) t ht (by rw [e])
      simp only [own_put hu, e]
      split
      · rw [put_comm h, alias_comm h fun t ht e => hu t ht (by cases e; rfl)]; rfl
      · rw [put_comm h]; rfl
    | _ => simp only [e, put_comm h, Option.map_some]
  case assign x =>
    have e := ev_put (st := st) (v := v) (hx x (by simp))
    cases x with
    | tmp u =>
      have hu : ∀ t, d = some t → u ≠ t := fun t ht e => hx (.tmp u) (by simp) t ht (by rw [e])
      simp only [own_put hu, e]
      split
      · rw [dropOwn_comm, putOwn_comm h]; rfl
      · rw [put_comm h]; rfl
    | const c =>
      split
      · rename_i hc; cases hc
      · rw [putOwn_comm h]; rfl
      · simp only [e, put_comm h, Option.map_some]
    | _ => simp only [e, put_comm h, Option.map_some]
  case pick c x y =>
    rw [ev_put (hx c (by simp)), ev_put (hx x (by simp)), ev_put (hx y (by simp))]
    split
    · rw [put_comm h]; rfl
    · rw [put_comm h]; rfl
    · rfl
  case alloc t =>
    split
    · rw [pushBlk_put h]; rfl
    · rfl
  case box t x =>
    rw [ev_put (hx x (by simp))]
    split
    · rw [pushBlk_put h]; rfl
    · rfl
  case build t ps =>
    split
    · rw [pairs ps hx]; exact hm _
    · rfl
  case buildSlice t n ps => rw [pairs ps hx]; exact hm _
  case load t p =>
    rw [ev_put (hx p (by simp)), hp_put]
    cases loadV cfg st.hp t (ev st.fr p) with
    | none => rfl
    | some w =>
      simp only [Option.map_some]
      split
      · rw [put_comm h, alias_comm h]
        intro t' ht he
        obtain ⟨id, off, _, _, _, _, e2, _⟩ := cellOwner_inv he
        cases e2
      · rw [put_comm h]
  case store t p x =>
    split
    · rfl
    · exact storeOp_put (hx p (by simp)) (hx x (by simp))
  case nilCheck x =>
    rw [ev_put (hx x (by simp))]
    split <;> first | rfl | (rw [put_comm h]; rfl)
  case binOp op t x y t2 => rw [ev_put (hx x (by simp)), ev_put (hx y (by simp))]; exact hm _
  case unOp op t x => rw [ev_put (hx x (by simp))]; exact hm _
  case convert s t x =>
    rw [ev_put (hx x (by simp)), hp_put]
    split
    · rw [put_comm h]; rfl
    · exact hm _
  case makeFunc fn first cap =>
    cases fn <;> simp only [Option.map_none]
    split
    · rw [lst cap.toList fun x hm => hx x (by simp at hm ⊢; exact .inr hm), put_comm h]; rfl
    · rfl
  case slice t x lo hi mx =>
    have h1 : lo.map (ev (st.put d v).fr) = lo.map (ev st.fr) := by cases lo with
      | none => rfl
      | some y => simp only [Option.map_some]; rw [ev_put (hx y (by simp))]
    have h2 : hi.map (ev (st.put d v).fr) = hi.map (ev st.fr) := by cases hi with
      | none => rfl
      | some y => simp only [Option.map_some]; rw [ev_put (hx y (by simp))]
    have h3 : mx.map (ev (st.put d v).fr) = mx.map (ev st.fr) := by cases mx with
      | none => rfl
      | some y => simp only [Option.map_some]; rw [ev_put (hx y (by simp))]
    rw [ev_put (hx x (by simp)), h1, h2, h3]
    cases sliceV cfg t (ev st.fr x) (lo.map (ev st.fr)) (hi.map (ev st.fr)) (mx.map (ev st.fr)) with
    | none => rfl
    | some w =>
      simp only [Option.map_some]
      split
      · rw [putOwn_comm h]
      · rw [put_comm h]
  case fieldAddr t x i => rw [ev_put (hx x (by simp))]; exact hm _
  case field t x i => rw [ev_put (hx x (by simp))]; exact hm _
  case indexAddr t x i => rw [ev_put (hx x (by simp)), ev_put (hx i (by simp))]; exact hm _
  case index t x i => rw [ev_put (hx x (by simp)), ev_put (hx i (by simp))]; exact hm _
  case extract x i =>
    rw [ev_put (hx x (by simp))]
    split
    · split
      · rw [put_comm h]; rfl
      · rfl
    · rfl
  case call c =>
    obtain ⟨callee, args, types⟩ := c
    simp only [Call.operands] at hx
    have hxa : ∀ x ∈ args.toList, ∀ t, d = some t → x ≠ .tmp t := fun x hm => hx x (by simp at hm ⊢; cases callee <;> simp [hm])
    cases callee with
    | invoke r nm => rfl
    | builtin b =>
      simp only
      exact builtinOp_put h hxa ha
    | value f =>
      simp only
      rw [ev_put (hx f (by simp)), lst _ hxa, hp_put]
      split
      · split
        · split
          · rw [put_comm h]; rfl
          · rfl
        split
        · split
          · rw [setHp_put st.hp, putOwn_comm h]; rfl
          · rw [setHp_put, putOwn_comm h]; rfl
          · rfl
        · split
          · split
            · rw [setHp_put, putOwn_comm h]; rfl
            · rfl
          · rfl
      · split
        · split
          · rw [setHp_put, put_comm h]; rfl
          · rfl
        · rfl
      · rfl

/-- What it touches is the same. -/
theorem fullAt_put {d : Option Tmp} {v : V} (hx : ∀ x ∈ o.op.operands, ∀ t, d = some t → x ≠ .tmp t) (ha : NoAl st d) : fullAt o (st.put d v) (st'.put d v) = fullAt o st st' := by
  obtain ⟨dst, op, ty, pos, after, guard⟩ := o
  cases op <;> simp only [Op.operands] at hx <;> simp only [fullAt]
  case alloc => rw [hp_put]
  case box => rw [hp_put]
  case store t p x => rw [ev_put (hx p (by simp))]
  case call c =>
    obtain ⟨callee, args, types⟩ := c
    simp only [Call.operands] at hx
    have hxa : ∀ x ∈ args.toList, ∀ t, d = some t → x ≠ .tmp t := fun x hm => hx x (by simp at hm ⊢; cases callee <;> simp [hm])
    have hl : args.toList.map (ev (st.put d v).fr) = args.toList.map (ev st.fr) := List.map_congr_left fun x hm => ev_put (hxa x hm)
    cases callee with
    | invoke r nm => rfl
    | builtin b =>
      cases b <;> try rfl
      simp only
      split
      · rename_i u r he
        rw [he] at hxa
        rw [ownerOf_put (fun t ht e => hxa (.tmp u) (by simp) t ht (by rw [e])) ha]
      · rfl
    | value f =>
      simp only
      rw [ev_put (hx f (by simp)), hl, hp_put, hp_put]

/-! ### What an operation leaves as it was -/
theorem putOwn_fr (st : St) (d : Option Tmp) (v : V) (b : Bool) (t : Tmp) (h : d ≠ some t) : (st.putOwn d v b).fr.getD t .any = st.fr.getD t .any := by
  unfold St.putOwn St.owns
  split
  · exact put_fr st _ v t h
  · split
    · exact put_fr st _ v t h
    · exact put_fr st _ v t h

theorem alias_fr (st : St) (d : Option Tmp) (ow : Option Owner) : (st.alias d ow).fr = st.fr := by cases d <;> cases ow <;> rfl
theorem alias_hp (st : St) (d : Option Tmp) (ow : Option Owner) : (st.alias d ow).hp = st.hp := by cases d <;> cases ow <;> rfl
theorem dropOwn_fr (st : St) (ow : Owner) : (dropOwn st ow).fr = st.fr := by
  cases ow with
  | tmp t => rfl
  | cell id off => simp only [dropOwn]; split <;> rfl
  | base id off => rfl
theorem putOwn_hp (st : St) (d : Option Tmp) (v : V) (b : Bool) : (st.putOwn d v b).hp = st.hp := by cases d <;> cases b <;> rfl

theorem appendTo_fr {ti : TI} {dst : Option Tmp} {t tx : TypeId} {d1 : Bool} {xs : List (List V)} {x : V} (h : appendTo cfg ti dst t tx d1 xs x st = some st') : (∀ t, dst ≠ some t → st'.fr.getD t .any = st.fr.getD t .any) ∧ st'.hp = st.hp ∧ ∀ p ∈ st'.al, p ∈ st.al := by
  have key : ∀ w, (∀ t, dst ≠ some t → (st.putOwn dst w true).fr.getD t .any = st.fr.getD t .any) ∧ (st.putOwn dst w true).hp = st.hp ∧ ∀ p ∈ (st.putOwn dst w true).al, p ∈ st.al := fun w =>
    ⟨fun t h => putOwn_fr st dst w true t h, putOwn_hp _ _ _ _, fun p hp => by
      cases dst with
      | none => exact hp
      | some d => exact (List.mem_filter.1 hp).1⟩
  unfold appendTo at h
  split at h
  · split at h
    · cases h; exact key _
    · cases h
  · split at h
    · cases h; exact key _
    · cases h
  · cases h

theorem dropOwn_hp (st : St) {ow : Owner} {id : Nat} (h : ∀ off, ow ≠ .cell id off) : (dropOwn st ow).hp[id]? = st.hp[id]? := by
  cases ow with
  | tmp t => rfl
  | cell id' off =>
    simp only [dropOwn]
    split
    · simp only
      rw [List.getElem?_set_ne]
      intro e; subst e; exact h off rfl
    · rfl
  | base id' off => rfl

theorem dropOwn_al (st : St) (ow : Owner) : (dropOwn st ow).al = st.al := by
  cases ow with
  | tmp t => rfl
  | cell id off => simp only [dropOwn]; split <;> rfl
  | base id off => rfl

theorem appendOp_frame {dst : Option Tmp} {t tx : TypeId} {s x : Operand} (h : appendOp cfg dst t tx s x st = some st') :
    (∀ t, dst ≠ some t → st'.fr.getD t .any = st.fr.getD t .any) ∧ (∀ id, (∀ u off, s = .tmp u → ownerOf st u ≠ some (.cell id off)) → st'.hp[id]? = st.hp[id]?) ∧ ∀ p ∈ st'.al, p ∈ st.al := by
  unfold appendOp at h
  split at h
  · split at h
    · split at h
      · cases h
      · split at h
        · rename_i u
          split at h
          · split at h
            · cases h
            · rename_i ow how
              split at h
              · obtain ⟨h1, h2, h3⟩ := appendTo_fr h
                refine ⟨fun t ht => (h1 t ht).trans (by rw [dropOwn_fr]), fun id hid => ?_, fun p hp => by have := h3 p hp; rwa [dropOwn_al] at this⟩
                rw [h2]
                exact dropOwn_hp st fun off e => hid u off rfl (by rw [how, e])
              · cases h
          · cases h
        · obtain ⟨h1, h2, h3⟩ := appendTo_fr h
          exact ⟨h1, fun id _ => by rw [h2], h3⟩
        · cases h
    · cases h
  · cases h

theorem storeOp_frame {t : TypeId} {p x : Operand} (h : storeOp cfg t p x st = some st') : st'.fr = st.fr ∧ (∀ id, (∀ off, ev st.fr p ≠ .ptr id off) → st'.hp[id]? = st.hp[id]?) ∧ st'.al = [] := by
  unfold storeOp at h
  split at h
  · cases h
  · split at h
    · rename_i id0 off0 vs hp hvs
      split at h
      · split at h
        · have key : ∀ (id : Nat) (b : Blk), (∀ off, ev st.fr p ≠ .ptr id off) → (st.hp.set id0 b)[id]? = st.hp[id]? := fun id b hid => by
            rw [List.getElem?_set_ne]
            intro e; subst e; exact hid off0 hp
          simp only at h
          split at h <;> cases h <;> exact ⟨rfl, fun id hid => key id _ hid, rfl⟩
        · cases h
      · cases h
    · cases h

/-- No alias leads to a slot but those in S. -/
def AlIn (S : Tmp → Prop) (st : St) : Prop := ∀ p ∈ st.al, ∀ t, p.2 = .tmp t → S t

theorem AlIn.put {S : Tmp → Prop} (h : AlIn S st) (d : Option Tmp) (v : V) : AlIn S (st.put d v) := by
  cases d with
  | none => exact h
  | some d => exact fun p hp => h p (List.mem_filter.1 hp).1

theorem AlIn.putOwn {S : Tmp → Prop} (h : AlIn S st) (d : Option Tmp) (v : V) (b : Bool) : AlIn S (st.putOwn d v b) := by
  have := h.put d v
  cases d <;> cases b <;> exact this

theorem backHp_other {hp hp' : List Blk} {R : List Nat} {id : Nat} (hR : id ∉ R) (hlt : id < hp.length) : (backHp hp R hp')[id]? = hp[id]? := by
  unfold backHp
  simp only
  rw [List.getElem?_append_left (by rw [putBack_length]; exact hlt), putBack_other _ _ _ _ hR]

theorem backHp_length_ge {hp hp' : List Blk} {R : List Nat} : hp.length ≤ (backHp hp R hp').length := by
  unfold backHp
  simp [putBack_length]

/-- An operation writes no slot but its own, and no block but those that it touches. -/
theorem evOp_frame {S : Tmp → Prop} (h : evOp cfg orc false o st = some st') (hs : ∀ t, o.op = .move (.tmp t) → S t) :
    (∀ t, o.dst ≠ some t → st'.fr.getD t .any = st.fr.getD t .any) ∧ (∀ id : Nat, id ∉ fullAt o st st' → st'.hp[id]? = st.hp[id]?) ∧ (AlIn S st → AlIn S st') := by
  obtain ⟨dst, op, ty, pos, after, guard⟩ := o
  simp only at hs
  have simple : ∀ {w : V} {s : St}, s = st.put dst w → (∀ t, dst ≠ some t → s.fr.getD t .any = st.fr.getD t .any) ∧ (∀ id : Nat, s.hp[id]? = st.hp[id]?) ∧ (AlIn S st → AlIn S s) := fun {w s} e => by
    subst e; exact ⟨fun t ht => put_fr st dst w t ht, fun id => by rw [hp_put], fun ha => ha.put _ _⟩
  have simple2 : ∀ {w : V} {b : Bool} {s : St}, s = st.putOwn dst w b → (∀ t, dst ≠ some t → s.fr.getD t .any = st.fr.getD t .any) ∧ (∀ id : Nat, s.hp[id]? = st.hp[id]?) ∧ (AlIn S st → AlIn S s) := fun {w b s} e => by
    subst e; exact ⟨fun t ht => putOwn_fr st dst w b t ht, fun id => by rw [putOwn_hp], fun ha => ha.putOwn _ _ _⟩
  have wk : ∀ {s : St} {T : List Nat}, ((∀ t, dst ≠ some t → s.fr.getD t .any = st.fr.getD t .any) ∧ (∀ id : Nat, s.hp[id]? = st.hp[id]?) ∧ (AlIn S st → AlIn S s)) → (∀ t, dst ≠ some t → s.fr.getD t .any = st.fr.getD t .any) ∧ (∀ id : Nat, id ∉ T → s.hp[id]? = st.hp[id]?) ∧ (AlIn S st → AlIn S s) :=
    fun h => ⟨h.1, fun id _ => h.2.1 id, h.2.2⟩
  have mp : ∀ {y : Option V} {T : List Nat}, (y.map fun w => st.put dst w) = some st' → (∀ t, dst ≠ some t → st'.fr.getD t .any = st.fr.getD t .any) ∧ (∀ id : Nat, id ∉ T → st'.hp[id]? = st.hp[id]?) ∧ (AlIn S st → AlIn S st') := fun {y T} hy => by
    obtain ⟨w, _, rfl⟩ := map_put hy
    exact wk (simple rfl)
  have al : ∀ {w : V} {ow : Option Owner} {T : List Nat}, (∀ t, ow = some (.tmp t) → S t) → (∀ t, dst ≠ some t → ((st.put dst w).alias dst ow).fr.getD t .any = st.fr.getD t .any) ∧ (∀ id : Nat, id ∉ T → ((st.put dst w).alias dst ow).hp[id]? = st.hp[id]?) ∧ (AlIn S st → AlIn S ((st.put dst w).alias dst ow)) := fun {w ow T} how => by
    refine ⟨fun t ht => by rw [alias_fr]; exact put_fr st dst w t ht, fun id _ => by rw [alias_hp, hp_put], fun ha => ?_⟩
    have hput := ha.put dst w
    cases dst with
    | none => cases ow <;> exact hput
    | some d =>
      cases ow with
      | none => exact hput
      | some ow =>
        intro p hp t ht
        rcases List.mem_cons.1 hp with rfl | hp
        · exact how t (by rw [← ht])
        · exact hput p hp t ht
  have pb : ∀ {b : Blk}, (∀ t, dst ≠ some t → (pushBlk st dst b).fr.getD t .any = st.fr.getD t .any) ∧ (∀ id : Nat, id ∉ [st.hp.length] → (pushBlk st dst b).hp[id]? = st.hp[id]?) ∧ (AlIn S st → AlIn S (pushBlk st dst b)) := fun {b} => by
    unfold pushBlk
    refine ⟨fun t ht => by rw [put_fr _ _ _ _ ht], fun id hid => ?_, fun ha => AlIn.put (st := { st with hp := st.hp ++ [b] }) ha _ _⟩
    rw [hp_put]
    simp only [List.mem_singleton] at hid
    rw [List.getElem?_append]
    split
    · rfl
    · rw [List.getElem?_eq_none (by simp; omega), List.getElem?_eq_none (by omega)]
  cases op <;> simp only [evOp, Bool.not_false, Bool.and_true, Bool.true_and, Bool.false_or, Bool.false_and, Bool.false_eq_true, if_false] at h <;> try (cases h; done)
  case move x =>
    split at h
    · rename_i u
      split at h
      · cases h; exact al fun t e => by cases e; exact hs _ rfl
      · cases h; exact wk (simple rfl)
    · cases h; exact wk (simple rfl)
  case assign x =>
    split at h
    · rename_i u
      split at h
      · cases h
        refine ⟨fun t ht => by rw [putOwn_fr _ _ _ _ _ ht, dropOwn_fr], fun id _ => by rw [putOwn_hp]; rfl, fun ha => AlIn.putOwn (st := dropOwn st (.tmp u)) ha _ _ _⟩
      · cases h; exact wk (simple rfl)
    · cases h; exact wk (simple2 rfl)
    · cases h; exact wk (simple rfl)
  case pick c x y =>
    split at h
    · cases h; exact wk (simple rfl)
    · cases h; exact wk (simple rfl)
    · cases h
  case alloc t =>
    split at h
    · cases h; exact pb
    · cases h
  case box t x =>
    split at h
    · cases h; exact pb
    · cases h
  case build t ps =>
    split at h
    · exact mp h
    · cases h
  case buildSlice t n ps => exact mp h
  case load t p =>
    obtain ⟨w, _, hw⟩ := Option.map_eq_some_iff.1 h
    subst hw
    split
    · refine al fun t e => ?_
      obtain ⟨id, off, _, _, _, _, e2, _⟩ := cellOwner_inv e
      cases e2
    · exact wk (simple rfl)
  case store t p x =>
    split at h
    · cases h
    · rename_i hn
      obtain ⟨h1, h2, h3⟩ := storeOp_frame h
      refine ⟨fun t _ => by rw [h1], fun id hid => h2 id fun off e => hid ?_, fun _ p hp => by rw [h3] at hp; cases hp⟩
      simp [fullAt, e]
  case nilCheck x =>
    split at h <;> first | (cases h; done) | (cases h; exact wk (simple rfl))
  case binOp op t x y t2 => exact mp h
  case unOp op t x => exact mp h
  case convert s t x =>
    split at h
    · cases h; exact wk (simple rfl)
    · exact mp h
  case makeFunc fn first cap =>
    cases fn <;> simp only at h <;> try (cases h; done)
    split at h
    · cases h; exact wk (simple rfl)
    · cases h
  case slice t x lo hi mx =>
    obtain ⟨w, _, hw⟩ := Option.map_eq_some_iff.1 h
    subst hw
    split
    · exact wk (simple2 rfl)
    · exact wk (simple rfl)
  case fieldAddr t x i => exact mp h
  case field t x i => exact mp h
  case indexAddr t x i => exact mp h
  case index t x i => exact mp h
  case extract x i =>
    split at h
    · split at h
      · cases h; exact wk (simple rfl)
      · cases h
    · cases h
  case call c =>
    obtain ⟨callee, args, types⟩ := c
    cases callee with
    | invoke r nm => cases h
    | builtin b =>
      simp only at h
      unfold builtinOp at h
      split at h
      · rename_i s x t tx ha ht
        obtain ⟨h1, h2, h3⟩ := appendOp_frame h
        refine ⟨h1, fun id hid => h2 id fun u off e ho => hid ?_, fun hal p hp => hal p (h3 p hp)⟩
        subst e
        simp [fullAt, ha, ho]
      · exact mp h
      · exact mp h
      · exact mp h
      · -- unsafeSliceData
        unfold dataOp at h
        split at h
        · split at h
          · split at h
            · cases h
              exact al fun t e => by cases e
            · cases h
          · cases h
        · cases h
      · -- unsafeString
        unfold textOp at h
        split at h
        · split at h
          · split at h
            · split at h
              · split at h
                · split at h
                  · cases h; exact wk (simple rfl)
                  · cases h
                · cases h
              · cases h
            · cases h
          · cases h
        · cases h
      · cases h
    | value f =>
      simp only at h
      have bk : ∀ {s : St} {R : List Nat} {hp : List Blk} {w : V} {b : Bool}, s = ({ st with hp := backHp st.hp R hp, al := [] } : St).putOwn dst w b →
          (∀ t, dst ≠ some t → s.fr.getD t .any = st.fr.getD t .any) ∧ (∀ id : Nat, id ∉ R ++ (List.range (s.hp.length - st.hp.length)).map (st.hp.length + ·) → s.hp[id]? = st.hp[id]?) ∧ (AlIn S st → AlIn S s) := fun {s R hp w b} e => by
        subst e
        refine ⟨fun t ht => by rw [putOwn_fr _ _ _ _ _ ht], fun id hid => ?_, fun _ => AlIn.putOwn (st := ({ st with hp := backHp st.hp R hp, al := [] } : St)) (fun p hp => by cases hp) _ _ _⟩
        rw [putOwn_hp] at hid ⊢
        simp only [List.mem_append, List.mem_map, List.mem_range, not_or, not_exists, not_and] at hid
        simp only at hid ⊢
        by_cases hlt : id < st.hp.length
        · exact backHp_other hid.1 hlt
        · have hge := backHp_length_ge (hp := st.hp) (hp' := hp) (R := R)
          have : (backHp st.hp R hp).length ≤ id := by
            rcases Nat.lt_or_ge id (backHp st.hp R hp).length with h' | h'
            · exact absurd (show st.hp.length + (id - st.hp.length) = id by omega) (hid.2 (id - st.hp.length) (by omega))
            · exact h'
          rw [List.getElem?_eq_none this, List.getElem?_eq_none (by omega)]
      split at h
      · rename_i g cap hf
        have hT : fullAt { dst := dst, op := .call { callee := .value f, args := args, argTypes := types }, type := ty, pos := pos, after := after, guard := guard } st st' = reach st.hp (args.toList.map (ev st.fr) ++ cap) ++ (List.range (st'.hp.length - st.hp.length)).map (st.hp.length + ·) := by
          simp only [fullAt, hf]
        rw [hT]
        have wk2 : ∀ {R : List Nat} {T : List Nat}, ((∀ t, dst ≠ some t → st'.fr.getD t .any = st.fr.getD t .any) ∧ (∀ id : Nat, id ∉ ([] : List Nat) ++ T → st'.hp[id]? = st.hp[id]?) ∧ (AlIn S st → AlIn S st')) → (∀ t, dst ≠ some t → st'.fr.getD t .any = st.fr.getD t .any) ∧ (∀ id : Nat, id ∉ R ++ T → st'.hp[id]? = st.hp[id]?) ∧ (AlIn S st → AlIn S st') :=
          fun h => ⟨h.1, fun id hid => h.2.1 id fun hm => hid (List.mem_append.2 (.inr (by simpa using hm))), h.2.2⟩
        split at h
        · split at h
          · cases h; exact wk (simple rfl)
          · cases h
        split at h
        · split at h
          · cases h
            exact ⟨fun t ht => by rw [putOwn_fr _ _ _ _ _ ht], fun id _ => by rw [putOwn_hp], fun _ => AlIn.putOwn (st := ({ st with al := [] } : St)) (fun p hp => by cases hp) _ _ _⟩
          · cases h; exact wk2 (bk rfl)
          · cases h
        · split at h
          · split at h
            · cases h; exact bk rfl
            · cases h
          · cases h
      · rename_i id hf
        have hT : fullAt { dst := dst, op := .call { callee := .value f, args := args, argTypes := types }, type := ty, pos := pos, after := after, guard := guard } st st' = reach st.hp (.yld id :: args.toList.map (ev st.fr)) ++ (List.range (st'.hp.length - st.hp.length)).map (st.hp.length + ·) := by
          simp only [fullAt, hf]
        rw [hT]
        split at h
        · split at h
          · rename_i b hp hcl
            have e2 : ∀ (s : St) (v : V), s.putOwn dst v false = s.put dst v := fun s v => by cases dst <;> rfl
            rw [← e2] at h
            cases h
            exact bk rfl
          · cases h
        · cases h
      · cases h

end Go.Abs
