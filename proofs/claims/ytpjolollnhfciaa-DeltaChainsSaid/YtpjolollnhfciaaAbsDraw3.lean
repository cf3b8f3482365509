/- Operations that are not ordered may change places. -/
import Derived.Test.YtpjolollnhfciaaAbsDraw2
set_option linter.all false
namespace Go.Abs
open Go.Lib
variable [BT] {cfg : Cfg} {orc : Orc} {st st' : St} {o : Oper} {ops : List Oper} {info : List (Bool × List Nat)} {n0 : Nat}

theorem looks_ops {d : Tmp} (h : d ∉ o.looksAt ops.toArray) : ∀ x ∈ o.op.operands, x ≠ .tmp d := fun x hx e => h (by
  subst e
  exact List.mem_append_left _ (List.mem_filterMap.2 ⟨.tmp d, by simpa using hx, rfl⟩))

theorem wantedV_fr {fr fr' : List V} (h : ∀ t ∈ o.looksAt ops.toArray, fr.getD t .any = fr'.getD t .any) : wantedV ops fr o = wantedV ops fr' o := by
  unfold wantedV
  split
  · rfl
  · rename_i j want hg
    split
    · rename_i d hd
      rw [h d (by simp [Oper.looksAt, hg, hd])]
    · rfl

theorem disj_symm {x y : List Nat} (h : disj x y = true) : disj y x = true := by
  simp only [disj, List.all_eq_true, Bool.not_eq_true'] at h ⊢
  intro i hi
  rw [Bool.eq_false_iff]
  intro hc
  have := h i (by simpa using hc)
  simp [hi] at this

theorem disj_nil {x : List Nat} : disj x [] = true := by simp [disj]

theorem disj_not {x y : List Nat} (h : disj x y = true) {i : Nat} (hi : i ∈ x) : i ∉ y := by
  simp only [disj, List.all_eq_true, Bool.not_eq_true'] at h
  have := h i hi
  simpa using this

theorem getD_set_ne' {gh : List (List Nat)} {i k : Nat} {T : List Nat} (h : i ≠ k) : (gh.set i T).getD k [] = gh.getD k [] := by
  simp only [List.getD_eq_getElem?_getD]; rw [List.getElem?_set_ne h]
theorem getD_set_eq {gh : List (List Nat)} {i : Nat} {T : List Nat} (h : i < gh.length) : (gh.set i T).getD i [] = T := by
  simp only [List.getD_eq_getElem?_getD]; rw [List.getElem?_set_self h]; rfl

theorem touched_swap {gh gh1 gh2 : List (List Nat)} {i j : Nat} {ci cj Ti Tj : List Nat} (h1 : touched gh i ci Ti = some gh1) (h2 : touched gh1 j cj Tj = some gh2) (hij : i ≠ j) (hs : ci.contains j = cj.contains i)
    (hi : gh.getD i [] = []) (hj : gh.getD j [] = []) (hil : i < gh.length) (hjl : j < gh.length) :
    (∃ gh', touched gh j cj Tj = some gh' ∧ touched gh' i ci Ti = some gh2) ∧ (ci.contains j = true → disj Ti Tj = true) := by
  unfold touched at h1 h2
  split at h1
  · rename_i he
    cases h1
    have hcj : cj.contains i = false := by rw [← hs]; cases ci <;> simp_all
    refine ⟨⟨gh2, ?_, ?_⟩, fun h => by rw [hs, hcj] at h; cases h⟩
    · unfold touched; exact h2
    · unfold touched; rw [if_pos he]
  · rename_i hne
    split at h1
    · rename_i hall
      cases h1
      split at h2
      · rename_i he
        cases h2
        have hci : ci.contains j = false := by rw [hs]; cases cj <;> simp_all
        refine ⟨⟨gh, ?_, ?_⟩, fun h => by rw [hci] at h; cases h⟩
        · unfold touched; rw [if_pos he]
        · unfold touched; rw [if_neg hne, if_pos hall]
      · rename_i hne2
        split at h2
        · rename_i hall2
          cases h2
          have hd : ci.contains j = true → disj Ti Tj = true := fun h => by
            rw [hs] at h
            have := List.all_eq_true.1 hall2 i (by simpa using h)
            rw [getD_set_eq hil] at this
            exact disj_symm this
          refine ⟨⟨gh.set j Tj, ?_, ?_⟩, hd⟩
          · unfold touched
            rw [if_neg hne2, if_pos]
            rw [List.all_eq_true] at hall2 ⊢
            intro k hk
            by_cases e : i = k
            · subst e; rw [hi]; exact disj_nil
            · have := hall2 k hk
              rwa [getD_set_ne' e] at this
          · unfold touched
            rw [if_neg hne, if_pos, List.set_comm _ _ (fun e => hij e.symm)]
            rw [List.all_eq_true] at hall ⊢
            intro k hk
            by_cases e : j = k
            · subst e; rw [getD_set_eq hjl]; exact hd (by simpa using hk)
            · rw [getD_set_ne' e]; exact hall k hk
        · cases h2
    · cases h1

theorem touched_other {gh gh' : List (List Nat)} {i : Nat} {c T : List Nat} (h : touched gh i c T = some gh') : gh'.length = gh.length ∧ ∀ k, i ≠ k → gh'.getD k [] = gh.getD k [] := by
  unfold touched at h
  split at h
  · cases h; exact ⟨rfl, fun _ _ => rfl⟩
  · split at h
    · cases h; exact ⟨by simp, fun k hk => getD_set_ne' hk⟩
    · cases h

/-- What is asked of a light operation and another one. -/
structure Apart (ops : List Oper) (info : List (Bool × List Nat)) (S : Tmp → Prop) (i j : Nat) (x y : Oper) (cx : List Nat) (ly : Bool) (cy : List Nat) : Prop where
  ne : i ≠ j
  hx : ops[i]? = some x
  hy : ops[j]? = some y
  ix : info[i]? = some (true, cx)
  iy : info[j]? = some (ly, cy)
  d1 : ∀ d, x.dst = some d → d ∉ y.looksAt ops.toArray
  d2 : ∀ d, x.dst = some d → y.dst ≠ some d
  d3 : ∀ d, y.dst = some d → d ∉ x.looksAt ops.toArray
  cont : cx.contains j = cy.contains i
  mem : ly = false → looksIn x = true → writes y = true → cx.contains j = true
  src : ∀ d, x.dst = some d → ¬ S d
  srcY : ly = false → ∀ t, y.op = .move (.tmp t) → S t

theorem fullAt_nil (h : writes o = false) : fullAt o st st' = [] := by
  unfold writes at h
  unfold fullAt
  cases ho : o.op <;> simp only [ho] at h ⊢ <;> try (cases h; done)
  rename_i c
  obtain ⟨callee, args, types⟩ := c
  cases callee <;> simp only at h ⊢
  · cases h
  · rename_i b; cases b <;> simp at h ⊢

theorem limAt_nil {hole : Nat} {fr : List V} (h : looksIn o = false) : limAt hole o fr = [] := by
  unfold looksIn at h
  unfold limAt
  cases ho : o.op <;> simp only [ho] at h ⊢ <;> cases h

theorem evD_lim {i : Nat} {x : Oper} {cx : List Nat} (hx : ops[i]? = some x) (hi : info[i]? = some (true, cx)) {s s' : DS} : evD cfg orc n0 ops info i s = some s' ↔
    ∃ v gh', s' = ⟨s.st.put x.dst v, gh'⟩ ∧ ((wantedV ops s.st.fr x = some false ∧ v = .tup [] ∧ gh' = s.gh) ∨
      (wantedV ops s.st.fr x = some true ∧ limV cfg orc (n0 + rank ops info i) x s.st.fr s.st.hp = some v ∧ touched s.gh i cx (limAt (n0 + rank ops info i) x s.st.fr) = some gh')) := by
  unfold evD
  rw [hx, hi]
  simp only
  constructor
  · intro h
    split at h
    · cases h
    · rename_i hw; cases h; exact ⟨.tup [], s.gh, rfl, .inl ⟨hw, rfl, rfl⟩⟩
    · rename_i hw
      simp only [if_true] at h
      split at h
      · cases h
      · rename_i v hv
        obtain ⟨gh, h1, h2⟩ := Option.map_eq_some_iff.1 h
        exact ⟨v, gh, h2.symm, .inr ⟨hw, hv, h1⟩⟩
  · rintro ⟨v, gh', rfl, ⟨hw, rfl, rfl⟩ | ⟨hw, hv, ht⟩⟩
    · rw [hw]
    · rw [hw]; simp [hv, ht]

theorem evD_full {j : Nat} {y : Oper} {cy : List Nat} (hy : ops[j]? = some y) (hj : info[j]? = some (false, cy)) {s s' : DS} : evD cfg orc n0 ops info j s = some s' ↔
    (wantedV ops s.st.fr y = some false ∧ s' = ⟨s.st.put y.dst (.tup []), s.gh⟩) ∨
      (wantedV ops s.st.fr y = some true ∧ ∃ st1 gh', s' = ⟨st1, gh'⟩ ∧ evOp cfg orc false y s.st = some st1 ∧ touched s.gh j cy (fullAt y s.st st1) = some gh') := by
  unfold evD
  rw [hy, hj]
  simp only
  constructor
  · intro h
    split at h
    · cases h
    · rename_i hw; cases h; exact .inl ⟨hw, rfl⟩
    · rename_i hw
      simp only [Bool.false_eq_true, if_false] at h
      split at h
      · cases h
      · rename_i st1 hv
        obtain ⟨gh, h1, h2⟩ := Option.map_eq_some_iff.1 h
        exact .inr ⟨hw, st1, gh, h2.symm, hv, h1⟩
  · rintro (⟨hw, rfl⟩ | ⟨hw, st1, gh', rfl, hv, ht⟩)
    · rw [hw]
    · rw [hw]; simp [hv, ht]

section
variable {S : Tmp → Prop} {i j : Nat} {x y : Oper} {cx cy : List Nat} {ly : Bool} {s s1 s2 : DS}

theorem Apart.noAl (A : Apart ops info S i j x y cx ly cy) (h : AlIn S st) : NoAl st x.dst := fun t ht p hp e => A.src t ht (h p hp t e)

theorem Apart.looksY (A : Apart ops info S i j x y cx ly cy) {v : V} : ∀ t ∈ y.looksAt ops.toArray, (st.put x.dst v).fr.getD t .any = st.fr.getD t .any := fun t ht =>
  put_fr st x.dst v t fun e => A.d1 t e ht

theorem Apart.opsY (A : Apart ops info S i j x y cx ly cy) : ∀ z ∈ y.op.operands, ∀ t, x.dst = some t → z ≠ .tmp t := fun z hz t ht => looks_ops (A.d1 t ht) z hz

/-- What the light one looks at is as it was, behind the other one. -/
theorem Apart.same (A : Apart ops info S i j x y cx ly cy) {fr' : List V} (h : ∀ t, y.dst ≠ some t → fr'.getD t .any = st.fr.getD t .any) :
    (∀ t ∈ x.looksAt ops.toArray, fr'.getD t .any = st.fr.getD t .any) ∧ ∀ z ∈ x.op.operands, ev fr' z = ev st.fr z := by
  have h1 : ∀ t ∈ x.looksAt ops.toArray, fr'.getD t .any = st.fr.getD t .any := fun t ht => h t fun e => A.d3 t e ht
  refine ⟨h1, fun z hz => ?_⟩
  cases z with
  | tmp t => exact h1 t (List.mem_append_left _ (List.mem_filterMap.2 ⟨.tmp t, by simpa using hz, rfl⟩))
  | _ => rfl

theorem Apart.light (A : Apart ops info S i j x y cx ly cy) {st1 : St} {hole : Nat} (hfr : ∀ t, y.dst ≠ some t → st1.fr.getD t .any = st.fr.getD t .any) (hhp : ∀ id ∈ limAt hole x st.fr, st1.hp[id]? = st.hp[id]?) :
    wantedV ops st1.fr x = wantedV ops st.fr x ∧ limV cfg orc hole x st1.fr st1.hp = limV cfg orc hole x st.fr st.hp ∧ limAt hole x st1.fr = limAt hole x st.fr := by
  obtain ⟨h1, h2⟩ := A.same hfr
  have h3 : limAt hole x st1.fr = limAt hole x st.fr := limAt_fr h2
  refine ⟨wantedV_fr h1, ?_, h3⟩
  rw [limV_fr h2]
  exact limV_hp hhp

/-- The light one first, then the other one: as the other way round. -/
theorem swap1 (A : Apart ops info S i j x y cx ly cy) (hl : s.gh.length = ops.length) (hi : s.gh.getD i [] = []) (hj : s.gh.getD j [] = []) (hal : AlIn S s.st)
    (h1 : evD cfg orc n0 ops info i s = some s1) (h2 : evD cfg orc n0 ops info j s1 = some s2) : ∃ s1', evD cfg orc n0 ops info j s = some s1' ∧ evD cfg orc n0 ops info i s1' = some s2 := by
  have hil : i < s.gh.length := by rw [hl]; exact (List.getElem?_eq_some_iff.1 A.hx).1
  have hjl : j < s.gh.length := by rw [hl]; exact (List.getElem?_eq_some_iff.1 A.hy).1
  obtain ⟨v, gh1, rfl, hv⟩ := (evD_lim A.hx A.ix).1 h1
  have hwy : wantedV ops (s.st.put x.dst v).fr y = wantedV ops s.st.fr y := wantedV_fr A.looksY
  have hne : ∀ t, x.dst = some t → y.dst ≠ some t := A.d2
  -- the other one is not wanted
  have unw : wantedV ops s.st.fr y = some false → s2 = ⟨(s.st.put x.dst v).put y.dst (.tup []), gh1⟩ → evD cfg orc n0 ops info i ⟨s.st.put y.dst (.tup []), s.gh⟩ = some s2 := fun hw e => by
    subst e
    refine (evD_lim A.hx A.ix).2 ⟨v, gh1, by rw [put_comm hne], ?_⟩
    obtain ⟨e1, e2, e3⟩ := A.light (cfg := cfg) (orc := orc) (st := s.st) (st1 := s.st.put y.dst (.tup [])) (hole := n0 + rank ops info i) (fun t ht => put_fr _ _ _ _ ht) (fun id _ => by rw [hp_put])
    simp only
    rw [e1, e2, e3]
    exact hv
  cases ly with
  | true =>
    obtain ⟨w, gh2, rfl, hw⟩ := (evD_lim A.hy A.iy).1 h2
    simp only at hw
    rw [hwy] at hw
    have hvy : limV cfg orc (n0 + rank ops info j) y (s.st.put x.dst v).fr (s.st.put x.dst v).hp = limV cfg orc (n0 + rank ops info j) y s.st.fr s.st.hp := by
      rw [hp_put]; exact limV_fr fun z hz => ev_put (A.opsY z hz)
    have hty : limAt (n0 + rank ops info j) y (s.st.put x.dst v).fr = limAt (n0 + rank ops info j) y s.st.fr := limAt_fr fun z hz => ev_put (A.opsY z hz)
    rw [hvy, hty] at hw
    rcases hw with ⟨hw, rfl, rfl⟩ | ⟨hw, hwv, hwt⟩
    · exact ⟨⟨s.st.put y.dst (.tup []), s.gh⟩, (evD_lim A.hy A.iy).2 ⟨.tup [], s.gh, rfl, .inl ⟨hw, rfl, rfl⟩⟩, unw hw rfl⟩
    · obtain ⟨e1, e2, e3⟩ := A.light (cfg := cfg) (orc := orc) (st := s.st) (st1 := s.st.put y.dst w) (hole := n0 + rank ops info i) (fun t ht => put_fr _ _ _ _ ht) (fun id _ => by rw [hp_put])
      rcases hv with ⟨hx, rfl, rfl⟩ | ⟨hx, hxv, hxt⟩
      · exact ⟨⟨s.st.put y.dst w, gh2⟩, (evD_lim A.hy A.iy).2 ⟨w, gh2, rfl, .inr ⟨hw, hwv, hwt⟩⟩, (evD_lim A.hx A.ix).2 ⟨.tup [], gh2, by rw [put_comm hne], .inl ⟨e1.trans hx, rfl, rfl⟩⟩⟩
      · obtain ⟨⟨gh', t1, t2⟩, _⟩ := touched_swap hxt hwt A.ne A.cont hi hj hil hjl
        refine ⟨⟨s.st.put y.dst w, gh'⟩, (evD_lim A.hy A.iy).2 ⟨w, gh', rfl, .inr ⟨hw, hwv, t1⟩⟩, (evD_lim A.hx A.ix).2 ⟨v, gh2, by rw [put_comm hne], .inr ⟨e1.trans hx, e2.trans hxv, ?_⟩⟩⟩
        simp only
        rw [e3]; exact t2
  | false =>
    rcases (evD_full A.hy A.iy).1 h2 with ⟨hw, rfl⟩ | ⟨hw, st2, gh2, rfl, hev, hwt⟩
    · simp only at hw
      rw [hwy] at hw
      exact ⟨⟨s.st.put y.dst (.tup []), s.gh⟩, (evD_full A.hy A.iy).2 (.inl ⟨hw, rfl⟩), unw hw rfl⟩
    · simp only at hw hev hwt
      rw [hwy] at hw
      rw [evOp_put hne A.opsY (A.noAl hal)] at hev
      obtain ⟨st1, hst1, rfl⟩ := Option.map_eq_some_iff.1 hev
      rw [fullAt_put A.opsY (A.noAl hal)] at hwt
      obtain ⟨f1, f2, _⟩ := evOp_frame hst1 (A.srcY rfl)
      have fin : ∀ gh', touched s.gh j cy (fullAt y s.st st1) = some gh' → (∀ id ∈ limAt (n0 + rank ops info i) x s.st.fr, st1.hp[id]? = s.st.hp[id]?) →
          ((wantedV ops s.st.fr x = some false ∧ v = .tup [] ∧ gh2 = gh') ∨ (wantedV ops s.st.fr x = some true ∧ limV cfg orc (n0 + rank ops info i) x s.st.fr s.st.hp = some v ∧ touched gh' i cx (limAt (n0 + rank ops info i) x s.st.fr) = some gh2)) →
          ∃ s1', evD cfg orc n0 ops info j s = some s1' ∧ evD cfg orc n0 ops info i s1' = some ⟨st1.put x.dst v, gh2⟩ := fun gh' ht hhp hc => by
        obtain ⟨e1, e2, e3⟩ := A.light (cfg := cfg) (orc := orc) (st := s.st) (st1 := st1) (hole := n0 + rank ops info i) f1 hhp
        refine ⟨⟨st1, gh'⟩, (evD_full A.hy A.iy).2 (.inr ⟨hw, st1, gh', rfl, hst1, ht⟩), (evD_lim A.hx A.ix).2 ⟨v, gh2, rfl, ?_⟩⟩
        simp only
        rw [e1, e2, e3]; exact hc
      rcases hv with ⟨hx, rfl, rfl⟩ | ⟨hx, hxv, hxt⟩
      · -- the light one is not wanted
        refine ⟨⟨st1, gh2⟩, (evD_full A.hy A.iy).2 (.inr ⟨hw, st1, gh2, rfl, hst1, hwt⟩), (evD_lim A.hx A.ix).2 ⟨.tup [], gh2, rfl, .inl ⟨?_, rfl, rfl⟩⟩⟩
        exact (wantedV_fr (A.same f1).1).trans hx
      · obtain ⟨⟨gh', t1, t2⟩, t3⟩ := touched_swap hxt hwt A.ne A.cont hi hj hil hjl
        refine fin gh' t1 (fun id hid => f2 id ?_) (.inr ⟨hx, hxv, t2⟩)
        cases hlx : looksIn x with
        | false => rw [limAt_nil hlx] at hid; cases hid
        | true =>
          cases hwy2 : writes y with
          | false => rw [fullAt_nil hwy2]; simp
          | true => exact disj_not (t3 (A.mem rfl hlx hwy2)) hid

/-- The other one first, then the light one: as the other way round. -/
theorem swap2 (A : Apart ops info S i j x y cx ly cy) (hl : s.gh.length = ops.length) (hi : s.gh.getD i [] = []) (hj : s.gh.getD j [] = []) (hal : AlIn S s.st)
    (h1 : evD cfg orc n0 ops info j s = some s1) (h2 : evD cfg orc n0 ops info i s1 = some s2) : ∃ s1', evD cfg orc n0 ops info i s = some s1' ∧ evD cfg orc n0 ops info j s1' = some s2 := by
  have hil : i < s.gh.length := by rw [hl]; exact (List.getElem?_eq_some_iff.1 A.hx).1
  have hjl : j < s.gh.length := by rw [hl]; exact (List.getElem?_eq_some_iff.1 A.hy).1
  have hne : ∀ t, x.dst = some t → y.dst ≠ some t := A.d2
  obtain ⟨v, gh2, rfl, hv⟩ := (evD_lim A.hx A.ix).1 h2
  have hwy : wantedV ops (s.st.put x.dst v).fr y = wantedV ops s.st.fr y := wantedV_fr A.looksY
  -- the other one is not wanted
  have unw : ∀ {u : V}, s1 = ⟨s.st.put y.dst u, s.gh⟩ → evD cfg orc n0 ops info i s = some ⟨s.st.put x.dst v, gh2⟩ := fun {u} e => by
    subst e
    obtain ⟨e1, e2, e3⟩ := A.light (cfg := cfg) (orc := orc) (st := s.st) (st1 := s.st.put y.dst u) (hole := n0 + rank ops info i) (fun t ht => put_fr _ _ _ _ ht) (fun id _ => by rw [hp_put])
    simp only at hv
    rw [e1, e2, e3] at hv
    exact (evD_lim A.hx A.ix).2 ⟨v, gh2, rfl, hv⟩
  cases ly with
  | true =>
    obtain ⟨w, gh1, rfl, hw⟩ := (evD_lim A.hy A.iy).1 h1
    have hvy : limV cfg orc (n0 + rank ops info j) y (s.st.put x.dst v).fr (s.st.put x.dst v).hp = limV cfg orc (n0 + rank ops info j) y s.st.fr s.st.hp := by
      rw [hp_put]; exact limV_fr fun z hz => ev_put (A.opsY z hz)
    have hty : limAt (n0 + rank ops info j) y (s.st.put x.dst v).fr = limAt (n0 + rank ops info j) y s.st.fr := limAt_fr fun z hz => ev_put (A.opsY z hz)
    obtain ⟨e1, e2, e3⟩ := A.light (cfg := cfg) (orc := orc) (st := s.st) (st1 := s.st.put y.dst w) (hole := n0 + rank ops info i) (fun t ht => put_fr _ _ _ _ ht) (fun id _ => by rw [hp_put])
    rcases hw with ⟨hw, rfl, rfl⟩ | ⟨hw, hwv, hwt⟩
    · exact ⟨⟨s.st.put x.dst v, gh2⟩, unw rfl, (evD_lim A.hy A.iy).2 ⟨.tup [], gh2, by rw [put_comm hne], .inl ⟨hwy.trans hw, rfl, rfl⟩⟩⟩
    · simp only at hv
      rw [e1, e2, e3] at hv
      rcases hv with ⟨hx, rfl, rfl⟩ | ⟨hx, hxv, hxt⟩
      · refine ⟨⟨s.st.put x.dst (.tup []), s.gh⟩, (evD_lim A.hx A.ix).2 ⟨.tup [], s.gh, rfl, .inl ⟨hx, rfl, rfl⟩⟩, (evD_lim A.hy A.iy).2 ⟨w, gh2, by rw [put_comm hne], .inr ⟨hwy.trans hw, hvy.trans hwv, ?_⟩⟩⟩
        simp only
        rw [hty]; exact hwt
      · obtain ⟨⟨gh', t1, t2⟩, _⟩ := touched_swap hwt hxt (fun e => A.ne e.symm) A.cont.symm hj hi hjl hil
        refine ⟨⟨s.st.put x.dst v, gh'⟩, (evD_lim A.hx A.ix).2 ⟨v, gh', rfl, .inr ⟨hx, hxv, t1⟩⟩, (evD_lim A.hy A.iy).2 ⟨w, gh2, by rw [put_comm hne], .inr ⟨hwy.trans hw, hvy.trans hwv, ?_⟩⟩⟩
        simp only
        rw [hty]; exact t2
  | false =>
    rcases (evD_full A.hy A.iy).1 h1 with ⟨hw, rfl⟩ | ⟨hw, st1, gh1, rfl, hev, hwt⟩
    · exact ⟨⟨s.st.put x.dst v, gh2⟩, unw rfl, (evD_full A.hy A.iy).2 (.inl ⟨hwy.trans hw, by rw [put_comm hne]⟩)⟩
    · obtain ⟨f1, f2, _⟩ := evOp_frame hev (A.srcY rfl)
      have hev2 : evOp cfg orc false y (s.st.put x.dst v) = some (st1.put x.dst v) := by rw [evOp_put hne A.opsY (A.noAl hal), hev]; rfl
      simp only at hv
      have hwx : wantedV ops st1.fr x = wantedV ops s.st.fr x := wantedV_fr (A.same f1).1
      have hax : limAt (n0 + rank ops info i) x st1.fr = limAt (n0 + rank ops info i) x s.st.fr := limAt_fr (A.same f1).2
      rw [hwx, hax] at hv
      rcases hv with ⟨hx, rfl, rfl⟩ | ⟨hx, hxv, hxt⟩
      · refine ⟨⟨s.st.put x.dst (.tup []), s.gh⟩, (evD_lim A.hx A.ix).2 ⟨.tup [], s.gh, rfl, .inl ⟨hx, rfl, rfl⟩⟩, (evD_full A.hy A.iy).2 (.inr ⟨hwy.trans hw, _, gh2, rfl, hev2, ?_⟩)⟩
        simp only
        rw [fullAt_put A.opsY (A.noAl hal)]; exact hwt
      · obtain ⟨⟨gh', t1, t2⟩, t3⟩ := touched_swap hwt hxt (fun e => A.ne e.symm) A.cont.symm hj hi hjl hil
        have hhp : ∀ id ∈ limAt (n0 + rank ops info i) x s.st.fr, st1.hp[id]? = s.st.hp[id]? := fun id hid => f2 id (by
          cases hlx : looksIn x with
          | false => rw [limAt_nil hlx] at hid; cases hid
          | true =>
            cases hwy2 : writes y with
            | false => rw [fullAt_nil hwy2]; simp
            | true => exact disj_not (disj_symm (t3 (by rw [← A.cont]; exact A.mem rfl hlx hwy2))) hid)
        obtain ⟨e1, e2, e3⟩ := A.light (cfg := cfg) (orc := orc) (st := s.st) (st1 := st1) (hole := n0 + rank ops info i) f1 hhp
        rw [e2] at hxv
        refine ⟨⟨s.st.put x.dst v, gh'⟩, (evD_lim A.hx A.ix).2 ⟨v, gh', rfl, .inr ⟨hx, hxv, t1⟩⟩, (evD_full A.hy A.iy).2 (.inr ⟨hwy.trans hw, _, gh2, rfl, hev2, ?_⟩)⟩
        simp only
        rw [fullAt_put A.opsY (A.noAl hal)]; exact t2
end

end Go.Abs
