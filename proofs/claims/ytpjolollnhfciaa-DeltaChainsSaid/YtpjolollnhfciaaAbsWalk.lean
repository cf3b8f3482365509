/- Walking code: what holds behind it. -/
import Derived.Attr
import Derived.Test.YtpjolollnhfciaaAbsLim
set_option linter.all false
namespace Go.Abs
variable {cfg : Cfg} {f : FuncId} {r : Option Nat} {st : St} {Q : Ex → St → Prop} {orc : Orc}

/-- The code comes to an end in which Q holds. -/
def Wp (cfg : Cfg) (f : FuncId) (r : Option Nat) (c : Code) (st : St) (Q : Ex → St → Prop) : Prop := ∃ e s, (Lim cfg).code f r c st = some (e, s) ∧ Q e s

def WpO (o : Option St) (K : St → Prop) : Prop := ∃ s, o = some s ∧ K s
def WpC (v : V) (x y : Prop) : Prop := (v = .bool true ∧ x) ∨ (v = .bool false ∧ y)
def WpN (Q : Ex → St → Prop) (K : St → Prop) (e : Ex) (s : St) : Prop :=
  match e with
  | .normal => K s
  | .exit i => Q (.exit i) s
  | .ret => Q .ret s

@[congr] theorem WpO_congr {o o' : Option St} {K : St → Prop} (h : o = o') : WpO o K = WpO o' K := by rw [h]
@[congr] theorem WpC_congr {v v' : V} {x y : Prop} (h : v = v') : WpC v x y = WpC v' x y := by rw [h]
@[congr] theorem Wp_congr {c : Code} : Wp cfg f r c st Q = Wp cfg f r c st Q := rfl

theorem WpO_some {s : St} {K : St → Prop} : WpO (some s) K = K s := by simp [WpO]
theorem WpO_none {K : St → Prop} : WpO none K = False := by simp [WpO]
theorem WpC_true {x y : Prop} : WpC (.bool true) x y = x := by simp [WpC]
theorem WpC_false {x y : Prop} : WpC (.bool false) x y = y := by simp [WpC]
theorem WpC_split {b : Bool} {x y : Prop} (h1 : b = true → x) (h2 : b = false → y) : WpC (.bool b) x y := by cases b <;> simp_all [WpC]
theorem WpN_normal {K : St → Prop} {s : St} : WpN Q K .normal s = K s := rfl
theorem WpN_exit {K : St → Prop} {s : St} {i : Nat} : WpN Q K (.exit i) s = Q (.exit i) s := rfl
theorem WpN_ret {K : St → Prop} {s : St} : WpN Q K .ret s = Q .ret s := rfl

def WpB (id : Nat) (Q : Ex → St → Prop) (e : Ex) (s : St) : Prop :=
  match e with
  | .exit i => if i = id then Q .normal s else Q (.exit i) s
  | .normal => Q .normal s
  | .ret => Q .ret s
theorem WpB_normal {id : Nat} {s : St} : WpB id Q .normal s = Q .normal s := rfl
theorem WpB_ret {id : Nat} {s : St} : WpB id Q .ret s = Q .ret s := rfl
theorem WpB_exit {id i : Nat} {s : St} : WpB id Q (.exit i) s = if i = id then Q .normal s else Q (.exit i) s := rfl

theorem w_skip : Wp cfg f r .skip st Q = Q .normal st := by
  apply propext; simp only [Wp]; rw [lim_code]
  exact ⟨fun ⟨e, s, h, hq⟩ => by cases h; exact hq, fun h => ⟨_, _, rfl, h⟩⟩
theorem w_label {l : Nat} : Wp cfg f r (.label l) st Q = Q .normal st := by
  apply propext; simp only [Wp]; rw [lim_code]
  exact ⟨fun ⟨e, s, h, hq⟩ => by cases h; exact hq, fun h => ⟨_, _, rfl, h⟩⟩
theorem w_exit {i : Nat} : Wp cfg f r (.exit i) st Q = Q (.exit i) st := by
  apply propext; simp only [Wp]; rw [lim_code]
  exact ⟨fun ⟨e, s, h, hq⟩ => by cases h; exact hq, fun h => ⟨_, _, rfl, h⟩⟩
theorem w_ret : Wp cfg f r .ret st Q = Q .ret st := by
  apply propext; simp only [Wp]; rw [lim_code]
  exact ⟨fun ⟨e, s, h, hq⟩ => by cases h; exact hq, fun h => ⟨_, _, rfl, h⟩⟩
theorem w_scope {c : Code} : Wp cfg f r (.scope c) st Q = Wp cfg f r c st Q := by simp only [Wp]; rw [lim_code]; rfl

theorem w_seq {a b : Code} : Wp cfg f r (.seq a b) st Q = Wp cfg f r a st (WpN Q fun s => Wp cfg f r b s Q) := by
  apply propext
  simp only [Wp]
  constructor
  · rintro ⟨e, s, h, hq⟩
    rw [lim_code] at h
    simp only [step] at h
    split at h
    · rename_i s1 h1
      exact ⟨_, _, h1, e, s, h, hq⟩
    · rename_i hn
      refine ⟨e, s, h, ?_⟩
      cases e with
      | normal => exact absurd h (hn s)
      | exit i => exact hq
      | ret => exact hq
  · rintro ⟨e, s, h, hq⟩
    cases e with
    | normal =>
      obtain ⟨e2, s2, h2, hq2⟩ := hq
      refine ⟨e2, s2, ?_, hq2⟩
      rw [lim_code]; simp only [step, h, h2]
    | exit i => refine ⟨_, _, ?_, hq⟩; rw [lim_code]; simp only [step, h]
    | ret => refine ⟨_, _, ?_, hq⟩; rw [lim_code]; simp only [step, h]

theorem w_cond {c : Operand} {a b : Code} : Wp cfg f r (.cond c a b) st Q = WpC (ev st.fr c) (Wp cfg f r a st Q) (Wp cfg f r b st Q) := by
  apply propext
  simp only [Wp, WpC]
  rw [lim_code]
  simp only [step]
  constructor
  · rintro ⟨e, s, h, hq⟩
    split at h
    · rename_i hc; exact .inl ⟨hc, e, s, h, hq⟩
    · rename_i hc; exact .inr ⟨hc, e, s, h, hq⟩
    · cases h
  · rintro (⟨hc, e, s, h, hq⟩ | ⟨hc, e, s, h, hq⟩)
    · exact ⟨e, s, by rw [hc]; exact h, hq⟩
    · exact ⟨e, s, by rw [hc]; exact h, hq⟩

theorem w_block {id : Nat} {c : Code} : Wp cfg f r (.block id c) st Q = Wp cfg f r c st (WpB id Q) := by
  apply propext
  simp only [Wp]
  constructor
  · rintro ⟨e, s, h, hq⟩
    rw [lim_code] at h
    simp only [step] at h
    split at h
    · rename_i i s1 h1
      refine ⟨_, _, h1, ?_⟩
      simp only [WpB]
      split at h <;> rename_i hi <;> cases h
      · rw [if_pos hi]; exact hq
      · rw [if_neg hi]; exact hq
    · rename_i hn
      refine ⟨e, s, h, ?_⟩
      cases e with
      | normal => exact hq
      | exit i => exact absurd h (hn i s)
      | ret => exact hq
  · rintro ⟨e, s, h, hq⟩
    cases e with
    | normal => refine ⟨_, _, ?_, hq⟩; rw [lim_code]; simp only [step, h]
    | ret => refine ⟨_, _, ?_, hq⟩; rw [lim_code]; simp only [step, h]
    | exit i =>
      simp only [WpB] at hq
      by_cases hi : i = id
      · rw [if_pos hi] at hq
        refine ⟨_, _, ?_, hq⟩; rw [lim_code]; simp only [step, h]; rw [if_pos hi]
      · rw [if_neg hi] at hq
        refine ⟨_, _, ?_, hq⟩; rw [lim_code]; simp only [step, h]; rw [if_neg hi]

theorem w_region {id : Nat} {ops : Array Oper} : Wp cfg f r (.region id ops false) st Q = WpO (evOps cfg (Lim cfg) (fun _ => false) ops.toList (List.range ops.size) st) fun s => Q .normal { s with al := [] } := by
  apply propext
  simp only [Wp, WpO]
  rw [lim_code]
  simp only [step, Bool.false_eq_true, if_false, Option.map_eq_some_iff]
  constructor
  · rintro ⟨e, s, ⟨s1, h1, h2⟩, hq⟩
    cases h2
    exact ⟨s1, h1, hq⟩
  · rintro ⟨s1, h1, hq⟩
    exact ⟨_, _, ⟨s1, h1, rfl⟩, hq⟩

theorem w_draw {id : Nat} {ops : Array Oper} : Wp cfg f r (.region id ops true) st Q = WpO (evDraw cfg (Lim cfg) ops.toList (cfg.draw f id) st) fun s => Q .normal { s with al := [] } := by
  apply propext
  simp only [Wp, WpO]
  rw [lim_code]
  simp only [step, if_true, Option.map_eq_some_iff]
  constructor
  · rintro ⟨e, s, ⟨s1, h1, h2⟩, hq⟩
    cases h2
    exact ⟨s1, h1, hq⟩
  · rintro ⟨s1, h1, hq⟩
    exact ⟨_, _, ⟨s1, h1, rfl⟩, hq⟩

theorem Wp.mono {c : Code} {Q' : Ex → St → Prop} (h : Wp cfg f r c st Q) (k : ∀ e s, Q e s → Q' e s) : Wp cfg f r c st Q' := by
  obtain ⟨e, s, h, hq⟩ := h
  exact ⟨e, s, h, k _ _ hq⟩

/-- One round of a loop, and on. -/
theorem w_loop1 {c : Code} : Wp cfg f r (.loop c) st Q = Wp cfg f r c (st.kill (cfg.kill f (firstReg c))).gc (WpN Q fun s => Wp cfg f r (.loop c) s Q) := by
  apply propext
  simp only [Wp]
  constructor
  · rintro ⟨e, s, h, hq⟩
    rw [lim_code] at h
    simp only [step] at h
    split at h
    · rename_i s1 h1
      exact ⟨_, _, h1, e, s, h, hq⟩
    · rename_i hn
      refine ⟨e, s, h, ?_⟩
      cases e with
      | normal => exact absurd h (hn s)
      | exit i => exact hq
      | ret => exact hq
  · rintro ⟨e, s, h, hq⟩
    cases e with
    | normal =>
      obtain ⟨e2, s2, h2, hq2⟩ := hq
      refine ⟨e2, s2, ?_, hq2⟩
      rw [lim_code]; simp only [step, h, h2]
    | exit i => refine ⟨_, _, ?_, hq⟩; rw [lim_code]; simp only [step, h]
    | ret => refine ⟨_, _, ?_, hq⟩; rw [lim_code]; simp only [step, h]

/-- The state at a loop's head. -/
def St.head (st : St) (K : List Nat) : St := (st.kill K).gc

/-- A loop: at its head the state is S x, x being one for which I holds; each round makes μ less. -/
theorem w_loop {α : Type} {c : Code} (S : α → St) (I : α → Prop) (μ : α → Nat) (x0 : α) (hI : I x0) (h0 : st.head (cfg.kill f (firstReg c)) = S x0)
    (round : ∀ x, I x → Wp cfg f r c (S x) (WpN Q fun s => ∃ y, I y ∧ μ y < μ x ∧ s.head (cfg.kill f (firstReg c)) = S y)) : Wp cfg f r (.loop c) st Q := by
  have key : ∀ (n : Nat) (x : α) (st : St), μ x = n → I x → st.head (cfg.kill f (firstReg c)) = S x → Wp cfg f r (.loop c) st Q := by
    intro n
    induction n using Nat.strongRecOn with
    | _ n ih =>
      intro x st hn hx hs
      rw [w_loop1]
      have := round x hx
      simp only [St.head] at hs
      rw [hs]
      refine this.mono fun e s h => ?_
      cases e with
      | normal =>
        obtain ⟨y, hy, hlt, hsy⟩ := h
        exact ih _ (hn ▸ hlt) y s rfl hy hsy
      | exit i => exact h
      | ret => exact h
  exact key _ x0 st rfl hI h0

/-- What a call hands back. -/
def Ret (cfg : Cfg) (rs : List ResultVar) (n : Nat) (R : V → Bool → List Blk → Prop) (e : Ex) (s : St) : Prop :=
  (∀ i, e ≠ .exit i) ∧ ∃ v own, resultsV cfg s rs = some (v, own) ∧
    R v (own && isSl v) (if V.lt n v && (s.hp.take n).all (Blk.all fun i => Nat.blt i n) then s.hp.take n else s.hp)

theorem call_of {fn : Func} {c : Code} {args : List V} {hp : List Blk} {R : V → Bool → List Blk → Prop} (hf : cfg.fn f = some fn) (hb : fn.body = some c)
    (h : Wp cfg f none c { fr := args ++ List.replicate (fn.ntmps - args.length) .any, own := [], hp := hp, al := [], nb := hp.length } (Ret cfg fn.results.toList hp.length R)) :
    ∃ v own hp', (Lim cfg).call f args hp = some (v, own, hp') ∧ R v own hp' := by
  obtain ⟨e, s, hc, he, v, own, hv, hR⟩ := h
  rw [lim_call]
  simp only [step, hf, hb, hc, hv]
  cases e with
  | exit i => exact absurd rfl (he i)
  | normal =>
    split at hR <;> rename_i hcond
    · exact ⟨_, _, _, by rw [if_pos hcond], hR⟩
    · exact ⟨_, _, _, by rw [if_neg hcond], hR⟩
  | ret =>
    split at hR <;> rename_i hcond
    · exact ⟨_, _, _, by rw [if_pos hcond], hR⟩
    · exact ⟨_, _, _, by rw [if_neg hcond], hR⟩

/-- A call, by its body's walk. -/
theorem call_eq {fn : Func} {c : Code} {args : List V} {hp : List Blk} {v : V} {own : Bool} {hp' : List Blk} (hf : cfg.fn f = some fn) (hb : fn.body = some c)
    (h : Wp cfg f none c { fr := args ++ List.replicate (fn.ntmps - args.length) .any, own := [], hp := hp, al := [], nb := hp.length } (Ret cfg fn.results.toList hp.length fun v' own' h' => v' = v ∧ own' = own ∧ h' = hp')) :
    (Lim cfg).call f args hp = some (v, own, hp') := by
  obtain ⟨v', own', h', hc, rfl, rfl, rfl⟩ := call_of hf hb h
  exact hc

/-! ### Operations -/
theorem evOps_nil {lim : Nat → Bool} {ops : List Oper} : evOps cfg orc lim ops [] st = some st := rfl

def evOne (cfg : Cfg) (orc : Orc) (ops : List Oper) (i : Nat) (st : St) : Option St :=
  match ops[i]? with
  | none => none
  | some o => match wantedV ops st.fr o with
    | none => none
    | some false => some (st.put o.dst (.tup []))
    | some true => evOp cfg orc false o st

theorem evOps_cons {ops : List Oper} {i : Nat} {l : List Nat} : evOps cfg orc (fun _ => false) ops (i :: l) st = (evOne cfg orc ops i st).bind (evOps cfg orc (fun _ => false) ops l) := by
  simp only [evOps, evOne]
  rcases ops[i]? with _ | o
  · rfl
  · simp only
    rcases wantedV ops st.fr o with _ | _ | _
    · rfl
    · rfl
    · simp only
      rcases evOp cfg orc false o st with _ | s <;> rfl

theorem WpO_bind {o : Option St} {k : St → Option St} {K : St → Prop} : WpO (o.bind k) K = WpO o fun s => WpO (k s) K := by
  apply propext
  simp only [WpO, Option.bind_eq_some_iff]
  constructor
  · rintro ⟨s, ⟨a, h1, h2⟩, h3⟩; exact ⟨a, h1, s, h2, h3⟩
  · rintro ⟨a, h1, s, h2, h3⟩; exact ⟨s, ⟨a, h1, h2⟩, h3⟩

/-- A guarded operation. -/
def guardV (v : V) (want : Bool) (x : Option St) (y : Option St) : Option St :=
  match v with
  | .bool b => if b == want then x else y
  | .tup [] => y
  | _ => none
@[congr] theorem guardV_congr {v v' : V} {w : Bool} {x y : Option St} (h : v = v') : guardV v w x y = guardV v' w x y := by rw [h]
theorem guardV_u {w : Bool} {x y : Option St} : guardV (.tup []) w x y = y := rfl
theorem guardV_tt {x y : Option St} : guardV (.bool true) true x y = x := rfl
theorem guardV_tf {x y : Option St} : guardV (.bool true) false x y = y := rfl
theorem guardV_ft {x y : Option St} : guardV (.bool false) true x y = y := rfl
theorem guardV_ff {x y : Option St} : guardV (.bool false) false x y = x := rfl

/-- What the operation that a guard names has yielded. -/
def guardAt (all : List (Option Tmp)) (fr : List V) (j : Nat) : V :=
  match all.getD j none with
  | some d => fr.getD d .any
  | none => .any

def dsts (ops : List Oper) : List (Option Tmp) := ops.map (·.dst)

theorem dsts_get {ops : List Oper} {j : Nat} : (dsts ops).getD j none = (ops[j]?).bind (·.dst) := by
  simp only [dsts, List.getD_eq_getElem?_getD, List.getElem?_map]
  rcases ops[j]? with _ | o <;> simp

/-- A region's operations, one behind the other. -/
def evO (cfg : Cfg) (orc : Orc) (all : List (Option Tmp)) (o : Oper) (st : St) : Option St :=
  match o.guard with
  | none => evOp cfg orc false o st
  | some (j, w) => guardV (guardAt all st.fr j) w (evOp cfg orc false o st) (some (st.put o.dst (.tup [])))

def evGo (cfg : Cfg) (orc : Orc) (all : List (Option Tmp)) : List Oper → St → Option St
  | [], st => some st
  | o :: rest, st => (evO cfg orc all o st).bind (evGo cfg orc all rest)

theorem evO_eq {all : List Oper} {o : Oper} : evO cfg orc (dsts all) o st = match wantedV all st.fr o with
    | none => none
    | some false => some (st.put o.dst (.tup []))
    | some true => evOp cfg orc false o st := by
  simp only [evO, wantedV, guardAt, dsts_get]
  rcases o.guard with _ | ⟨j, w⟩
  · rfl
  · simp only
    rcases (all[j]?).bind (·.dst) with _ | e
    · rfl
    · simp only
      cases st.fr.getD e .any <;> try rfl
      · rename_i b; cases b <;> cases w <;> rfl
      · rename_i l; cases l <;> rfl

theorem evGo_eq {all : List Oper} : ∀ (rest : List Oper) (k : Nat) (st : St), all.drop k = rest → evOps cfg orc (fun _ => false) all ((List.range' k rest.length)) st = evGo cfg orc (dsts all) rest st
  | [], k, st, h => rfl
  | o :: rest, k, st, h => by
    have hk : all[k]? = some o := by
      have := congrArg (·[0]?) h
      simpa using this
    simp only [List.length_cons, List.range'_succ, evOps_cons, evGo]
    have h1 : evOne cfg orc all k st = evO cfg orc (dsts all) o st := by
      rw [evO_eq]
      simp only [evOne, hk]
    rw [h1]
    congr 1
    funext s
    exact evGo_eq rest (k + 1) s (by rw [← List.drop_drop, h]; rfl)

theorem w_reg {id : Nat} {ops : Array Oper} : Wp cfg f r (.region id ops false) st Q = WpO (evGo cfg (Lim cfg) (dsts ops.toList) ops.toList st) fun s => Q .normal { s with al := [] } := by
  rw [w_region, show List.range ops.size = List.range' 0 ops.toList.length by simp [List.range_eq_range'], evGo_eq ops.toList 0 st rfl]

theorem g_cons {all : List (Option Tmp)} {o : Oper} {rest : List Oper} {K : St → Prop} : WpO (evGo cfg orc all (o :: rest) st) K = WpO (evO cfg orc all o st) fun s => WpO (evGo cfg orc all rest s) K := WpO_bind

theorem o_plain {all : List (Option Tmp)} {d : Option Tmp} {op : Op} {ty : TypeId} {ps : String} {af : Array Edge} : evO cfg orc all ⟨d, op, ty, ps, af, none⟩ st = evOp cfg orc false ⟨d, op, ty, ps, af, none⟩ st := rfl
theorem o_guard {all : List (Option Tmp)} {d : Option Tmp} {op : Op} {ty : TypeId} {ps : String} {af : Array Edge} {j : Nat} {w : Bool} :
    evO cfg orc all ⟨d, op, ty, ps, af, some (j, w)⟩ st = guardV (guardAt all st.fr j) w (evOp cfg orc false ⟨d, op, ty, ps, af, some (j, w)⟩ st) (some (st.put d (.tup []))) := rfl

/-! ### Regions that draw -/
/-- One operation of a region that draws; 'hole' is where the next block that is laid ahead lies. -/
def evD0 (cfg : Cfg) (orc : Orc) (hole : Nat) (i : Nat) (o : Oper) (l : Bool) (c : List Nat) (st : St) (gh : List (List Nat)) : Option DS :=
  if l then
    match limV cfg orc hole o st.fr st.hp with
    | none => none
    | some v => (touched gh i c (limAt hole o st.fr)).map fun gh => { st := st.put o.dst v, gh := gh }
  else
    match evOp cfg orc false o st with
    | none => none
    | some st' => (touched gh i c (fullAt o st st')).map fun gh => { st := st', gh := gh }

def guardD (v : V) (want : Bool) (x : Option DS) (y : Option DS) : Option DS :=
  match v with
  | .bool b => if b == want then x else y
  | .tup [] => y
  | _ => none
@[congr] theorem guardD_congr {v v' : V} {w : Bool} {x y : Option DS} (h : v = v') : guardD v w x y = guardD v' w x y := by rw [h]
theorem guardD_u {w : Bool} {x y : Option DS} : guardD (.tup []) w x y = y := rfl
theorem guardD_tt {x y : Option DS} : guardD (.bool true) true x y = x := rfl
theorem guardD_tf {x y : Option DS} : guardD (.bool true) false x y = y := rfl
theorem guardD_ft {x y : Option DS} : guardD (.bool false) true x y = y := rfl
theorem guardD_ff {x y : Option DS} : guardD (.bool false) false x y = x := rfl

def evD1 (cfg : Cfg) (orc : Orc) (hole : Nat) (all : List (Option Tmp)) (i : Nat) (o : Oper) (l : Bool) (c : List Nat) (st : St) (gh : List (List Nat)) : Option DS :=
  match o.guard with
  | none => evD0 cfg orc hole i o l c st gh
  | some (j, w) => guardD (guardAt all st.fr j) w (evD0 cfg orc hole i o l c st gh) (some { st := st.put o.dst (.tup []), gh := gh })

/-- Where the next block lies. -/
def nextHole (l : Bool) (o : Oper) (hole : Nat) : Nat := if l && isAlloc o then hole + 1 else hole

def evDgo (cfg : Cfg) (orc : Orc) (all : List (Option Tmp)) : Nat → Nat → List Oper → List (Bool × List Nat) → DS → Option DS
  | _, _, [], _, s => some s
  | hole, i, o :: rest, (l, c) :: left, s => (evD1 cfg orc hole all i o l c s.st s.gh).bind (evDgo cfg orc all (nextHole l o hole) (i + 1) rest left)
  | _, _, _ :: _, [], _ => none

theorem rank_succ : ∀ (ops : List Oper) (info : List (Bool × List Nat)) (i : Nat) {o : Oper} {l : Bool} {c : List Nat}, ops[i]? = some o → info[i]? = some (l, c) → rank ops info (i + 1) = rank ops info i + (if l && isAlloc o then 1 else 0)
  | [], info, i, o, l, c, h, _ => by simp at h
  | x :: ops, [], i, o, l, c, _, h => by simp at h
  | x :: ops, (m, d) :: info, 0, o, l, c, h1, h2 => by
    simp only [List.getElem?_cons_zero, Option.some.injEq, Prod.mk.injEq] at h1 h2
    obtain ⟨rfl, rfl⟩ := h2
    subst h1
    simp [rank]
  | x :: ops, (m, d) :: info, i + 1, o, l, c, h1, h2 => by
    simp only [List.getElem?_cons_succ] at h1 h2
    have := rank_succ ops info i h1 h2
    rw [show rank (x :: ops) ((m, d) :: info) (i + 1 + 1) = (if m && isAlloc x then 1 else 0) + rank ops info (i + 1) from rfl, show rank (x :: ops) ((m, d) :: info) (i + 1) = (if m && isAlloc x then 1 else 0) + rank ops info i from rfl, this]
    omega

theorem evDgo_eq {n0 : Nat} {all : List Oper} {info : List (Bool × List Nat)} : ∀ (rest : List Oper) (left : List (Bool × List Nat)) (i : Nat) (s : DS), all.drop i = rest → info.drop i = left →
    evDs cfg orc n0 all info (List.range' i rest.length) s = evDgo cfg orc (dsts all) (n0 + rank all info i) i rest left s
  | [], left, i, s, _, _ => by simp [evDs, evDgo]
  | o :: rest, left, i, s, h1, h2 => by
    have ho : all[i]? = some o := by
      have := congrArg (·[0]?) h1
      simpa using this
    have hl : info[i]? = left[0]? := by
      have := congrArg (·[0]?) h2
      simpa using this
    simp only [List.length_cons, List.range'_succ, evDs]
    cases left with
    | nil =>
      simp only [evDgo]
      have : evD cfg orc n0 all info i s = none := by
        unfold evD
        simp only [ho, hl]; rfl
      rw [this]
    | cons lc left =>
      obtain ⟨l, c⟩ := lc
      simp only [evDgo]
      have h0 : evD cfg orc n0 all info i s = evD1 cfg orc (n0 + rank all info i) (dsts all) i o l c s.st s.gh := by
        unfold evD evD1
        simp only [ho, hl, List.getElem?_cons_zero]
        rcases hg : o.guard with _ | ⟨j, w⟩
        · simp only [wantedV, hg, evD0]; rfl
        · simp only [wantedV, hg, guardAt, dsts_get]
          rcases (all[j]?).bind (·.dst) with _ | e
          · rfl
          · simp only
            cases s.st.fr.getD e .any <;> try rfl
            · rename_i b; cases b <;> cases w <;> rfl
            · rename_i l; cases l <;> rfl
      rw [h0]
      rcases evD1 cfg orc (n0 + rank all info i) (dsts all) i o l c s.st s.gh with _ | s'
      · rfl
      · simp only [Option.bind_some]
        rw [evDgo_eq rest left (i + 1) s' (by rw [← List.drop_drop, h1]; rfl) (by rw [← List.drop_drop, h2]; rfl), rank_succ all info i ho (by rw [hl]; rfl)]
        congr 1
        unfold nextHole
        split <;> omega

/-! ### The walk, as a machine -/
inductive KI where
  | code (c : Code)
  | ops (all : List (Option Tmp)) (rest : List Oper)
  | blk (id : Nat)
  | again (c : Code)
  | drw (hole i : Nat) (all : List (Option Tmp)) (rest : List Oper) (left : List (Bool × List Nat)) (gh : List (List Nat))

/-- What is left to do, and what holds in the end. -/
def WK (cfg : Cfg) (f : FuncId) (r : Option Nat) : List KI → (Ex → St → Prop) → Ex → St → Prop
  | [], Q, e, s => Q e s
  | .code c :: k, Q, e, s => match e with
    | .normal => Wp cfg f r c s (WK cfg f r k Q)
    | e => WK cfg f r k Q e s
  | .ops all rest :: k, Q, e, s => match e with
    | .normal => WpO (evGo cfg (Lim cfg) all rest s) fun s => WK cfg f r k Q .normal { s with al := [] }
    | e => WK cfg f r k Q e s
  | .drw hole i all rest left gh :: k, Q, e, s => match e with
    | .normal => ∃ d, evDgo cfg (Lim cfg) all hole i rest left { st := s, gh := gh } = some d ∧ WK cfg f r k Q .normal { d.st with al := [] }
    | e => WK cfg f r k Q e s
  | .blk id :: k, Q, e, s => match e with
    | .exit i => if i = id then WK cfg f r k Q .normal s else WK cfg f r k Q (.exit i) s
    | e => WK cfg f r k Q e s
  | .again c :: k, Q, e, s => match e with
    | .normal => Wp cfg f r (.loop c) s (WK cfg f r k Q)
    | e => WK cfg f r k Q e s

/-- On with a state, if there is one. -/
def WS (cfg : Cfg) (f : FuncId) (r : Option Nat) (k : List KI) (Q : Ex → St → Prop) (o : Option St) : Prop := ∃ s, o = some s ∧ WK cfg f r k Q .normal s
/-- On with a drawn region's state. -/
def WD (cfg : Cfg) (f : FuncId) (r : Option Nat) (hole i : Nat) (all : List (Option Tmp)) (rest : List Oper) (left : List (Bool × List Nat)) (k : List KI) (Q : Ex → St → Prop) (o : Option DS) : Prop :=
  ∃ s, o = some s ∧ WK cfg f r (.drw hole i all rest left s.gh :: k) Q .normal s.st

variable {k : List KI}

theorem k_start {c : Code} : Wp cfg f r c st Q = WK cfg f r [.code c] Q .normal st := by
  simp only [WK]
theorem k_nil {e : Ex} : WK cfg f r [] Q e st = Q e st := rfl
theorem k_skip : WK cfg f r (.code .skip :: k) Q .normal st = WK cfg f r k Q .normal st := by simp only [WK, w_skip]
theorem k_label {l : Nat} : WK cfg f r (.code (.label l) :: k) Q .normal st = WK cfg f r k Q .normal st := by simp only [WK, w_label]
theorem k_scope {c : Code} : WK cfg f r (.code (.scope c) :: k) Q .normal st = WK cfg f r (.code c :: k) Q .normal st := by simp only [WK, w_scope]
theorem k_ret : WK cfg f r (.code .ret :: k) Q .normal st = WK cfg f r k Q .ret st := by simp only [WK, w_ret]
theorem k_exit {i : Nat} : WK cfg f r (.code (.exit i) :: k) Q .normal st = WK cfg f r k Q (.exit i) st := by simp only [WK, w_exit]

theorem WpN_WK {k : List KI} {b : Code} : (WpN (WK cfg f r k Q) fun s => Wp cfg f r b s (WK cfg f r k Q)) = WK cfg f r (.code b :: k) Q := by
  funext e s; cases e <;> rfl
theorem WpB_WK {k : List KI} {id : Nat} : WpB id (WK cfg f r k Q) = WK cfg f r (.blk id :: k) Q := by
  funext e s; cases e <;> rfl
theorem k_seq {a b : Code} : WK cfg f r (.code (.seq a b) :: k) Q .normal st = WK cfg f r (.code a :: .code b :: k) Q .normal st := by
  show Wp cfg f r _ _ _ = Wp cfg f r _ _ _
  rw [w_seq, WpN_WK]
theorem k_block {id : Nat} {c : Code} : WK cfg f r (.code (.block id c) :: k) Q .normal st = WK cfg f r (.code c :: .blk id :: k) Q .normal st := by
  show Wp cfg f r _ _ _ = Wp cfg f r _ _ _
  rw [w_block, WpB_WK]
/-- A way is chosen. -/
def WC (cfg : Cfg) (f : FuncId) (r : Option Nat) (k : List KI) (Q : Ex → St → Prop) (st : St) (v : V) (a b : Code) : Prop := WpC v (WK cfg f r (.code a :: k) Q .normal st) (WK cfg f r (.code b :: k) Q .normal st)
@[congr] theorem WC_congr {s s' : St} {v v' : V} {a b : Code} (h0 : s = s') (h : v = v') : WC cfg f r k Q s v a b = WC cfg f r k Q s' v' a b := by rw [h0, h]
theorem WC_true {a b : Code} : WC cfg f r k Q st (.bool true) a b = WK cfg f r (.code a :: k) Q .normal st := WpC_true
theorem WC_false {a b : Code} : WC cfg f r k Q st (.bool false) a b = WK cfg f r (.code b :: k) Q .normal st := WpC_false
theorem WC_split {a b : Code} {x : Bool} (h1 : x = true → WK cfg f r (.code a :: k) Q .normal st) (h2 : x = false → WK cfg f r (.code b :: k) Q .normal st) : WC cfg f r k Q st (.bool x) a b := WpC_split h1 h2
theorem k_cond {c : Operand} {a b : Code} : WK cfg f r (.code (.cond c a b) :: k) Q .normal st = WC cfg f r k Q st (ev st.fr c) a b := by
  show Wp cfg f r _ _ _ = WpC _ (Wp cfg f r _ _ _) (Wp cfg f r _ _ _)
  rw [w_cond]
/-- A region is entered. -/
def WR (cfg : Cfg) (f : FuncId) (r : Option Nat) (k : List KI) (Q : Ex → St → Prop) (st : St) (all : List (Option Tmp)) (rest : List Oper) : Prop := WK cfg f r (.ops all rest :: k) Q .normal st
@[congr] theorem WR_congr {all all' : List (Option Tmp)} {rest : List Oper} (h : all = all') : WR cfg f r k Q st all rest = WR cfg f r k Q st all' rest := by rw [h]
theorem k_enter {all : List (Option Tmp)} {rest : List Oper} : WR cfg f r k Q st all rest = WK cfg f r (.ops all rest :: k) Q .normal st := rfl
def WDR (cfg : Cfg) (f : FuncId) (r : Option Nat) (k : List KI) (Q : Ex → St → Prop) (st : St) (hole : Nat) (all : List (Option Tmp)) (rest : List Oper) (left : List (Bool × List Nat)) (gh : List (List Nat)) : Prop := WK cfg f r (.drw hole 0 all rest left gh :: k) Q .normal st
@[congr] theorem WDR_congr {s s' : St} {hole hole' : Nat} {all all' : List (Option Tmp)} {rest : List Oper} {left left' : List (Bool × List Nat)} {gh gh' : List (List Nat)} (h0 : s = s') (h1 : hole = hole') (h2 : all = all') (h3 : left = left') (h4 : gh = gh') :
    WDR cfg f r k Q s hole all rest left gh = WDR cfg f r k Q s' hole' all' rest left' gh' := by rw [h0, h1, h2, h3, h4]
theorem k_enterD {hole : Nat} {all : List (Option Tmp)} {rest : List Oper} {left : List (Bool × List Nat)} {gh : List (List Nat)} : WDR cfg f r k Q st hole all rest left gh = WK cfg f r (.drw hole 0 all rest left gh :: k) Q .normal st := rfl

theorem k_region {id : Nat} {ops : Array Oper} : WK cfg f r (.code (.region id ops false) :: k) Q .normal st = WR cfg f r k Q st (dsts ops.toList) ops.toList := by
  show Wp cfg f r _ _ _ = _
  rw [w_reg]; rfl
theorem k_draw {id : Nat} {ops : Array Oper} : WK cfg f r (.code (.region id ops true) :: k) Q .normal st =
    WDR cfg f r k Q { st with hp := st.hp ++ laidAhead cfg ops.toList (cfg.draw f id), al := [] } st.hp.length (dsts ops.toList) ops.toList (cfg.draw f id) (List.replicate ops.toList.length []) := by
  show Wp cfg f r _ _ _ = ∃ d, _
  rw [w_draw]
  apply propext
  have h0 : rank ops.toList (cfg.draw f id) 0 = 0 := by cases ops.toList <;> simp [rank]
  have e : ∀ s, evDs cfg (Lim cfg) st.hp.length ops.toList (cfg.draw f id) (List.range ops.toList.length) s = evDgo cfg (Lim cfg) (dsts ops.toList) st.hp.length 0 ops.toList (cfg.draw f id) s := fun s => by
    rw [List.range_eq_range', evDgo_eq ops.toList (cfg.draw f id) 0 s rfl rfl, h0, Nat.add_zero]
  simp only [WpO, evDraw, Option.map_eq_some_iff, e]
  constructor
  · rintro ⟨s, ⟨d, h1, h2⟩, h3⟩; subst h2; exact ⟨d, h1, h3⟩
  · rintro ⟨d, h1, h3⟩; exact ⟨_, ⟨d, h1, rfl⟩, h3⟩
theorem k_drw_nil {hole i : Nat} {all : List (Option Tmp)} {left : List (Bool × List Nat)} {gh : List (List Nat)} : WK cfg f r (.drw hole i all [] left gh :: k) Q .normal st = WK cfg f r k Q .normal { st with al := [] } := by
  show (∃ d, _) = _
  simp [evDgo]
theorem k_drw {hole i : Nat} {all : List (Option Tmp)} {rest : List Oper} {left : List (Bool × List Nat)} {o : Oper} {l : Bool} {c : List Nat} {gh : List (List Nat)} : WK cfg f r (.drw hole i all (o :: rest) ((l, c) :: left) gh :: k) Q .normal st =
    WD cfg f r (nextHole l o hole) (i + 1) all rest left k Q (evD1 cfg (Lim cfg) hole all i o l c st gh) := by
  show (∃ d, _) = ∃ s, _ ∧ ∃ d, _
  apply propext
  simp only [evDgo, Option.bind_eq_some_iff]
  constructor
  · rintro ⟨d, ⟨a, h1, h2⟩, h3⟩; exact ⟨a, h1, d, h2, h3⟩
  · rintro ⟨a, h1, d, h2, h3⟩; exact ⟨d, ⟨a, h1, h2⟩, h3⟩
theorem k_ops_nil {all : List (Option Tmp)} : WK cfg f r (.ops all [] :: k) Q .normal st = WK cfg f r k Q .normal { st with al := [] } := by
  simp only [WK, evGo, WpO_some]
theorem k_ops {all : List (Option Tmp)} {o : Oper} {rest : List Oper} : WK cfg f r (.ops all (o :: rest) :: k) Q .normal st = WS cfg f r (.ops all rest :: k) Q (evO cfg (Lim cfg) all o st) := by
  simp only [WK, WS, g_cons]; rfl
theorem k_some : WS cfg f r k Q (some st) = WK cfg f r k Q .normal st := by simp [WS]
theorem k_none : WS cfg f r k Q none = False := by simp [WS]
theorem k_someD {hole i : Nat} {all : List (Option Tmp)} {rest : List Oper} {left : List (Bool × List Nat)} {gh : List (List Nat)} : WD cfg f r hole i all rest left k Q (some ⟨st, gh⟩) = WK cfg f r (.drw hole i all rest left gh :: k) Q .normal st := by simp [WD]
theorem nextHole_f {o : Oper} {h : Nat} : nextHole false o h = h := rfl
theorem nextHole_t {o : Oper} {h : Nat} : nextHole true o h = if isAlloc o then h + 1 else h := by simp [nextHole]
theorem k_noneD {hole i : Nat} {all : List (Option Tmp)} {rest : List Oper} {left : List (Bool × List Nat)} : WD cfg f r hole i all rest left k Q none = False := by simp [WD]
theorem d_plain {hole i : Nat} {all : List (Option Tmp)} {d : Option Tmp} {op : Op} {ty : TypeId} {ps : String} {af : Array Edge} {l : Bool} {c : List Nat} {gh : List (List Nat)} :
    evD1 cfg orc hole all i ⟨d, op, ty, ps, af, none⟩ l c st gh = evD0 cfg orc hole i ⟨d, op, ty, ps, af, none⟩ l c st gh := rfl
theorem d_guard {hole i : Nat} {all : List (Option Tmp)} {d : Option Tmp} {op : Op} {ty : TypeId} {ps : String} {af : Array Edge} {l : Bool} {c : List Nat} {gh : List (List Nat)} {j : Nat} {w : Bool} :
    evD1 cfg orc hole all i ⟨d, op, ty, ps, af, some (j, w)⟩ l c st gh = guardD (guardAt all st.fr j) w (evD0 cfg orc hole i ⟨d, op, ty, ps, af, some (j, w)⟩ l c st gh) (some { st := st.put d (.tup []), gh := gh }) := rfl
theorem d_lim0 {hole i : Nat} {o : Oper} {gh : List (List Nat)} :
    evD0 cfg orc hole i o true [] st gh = (limV cfg orc hole o st.fr st.hp).map fun v => { st := st.put o.dst v, gh := gh } := by
  simp only [evD0, if_true]
  rcases limV cfg orc hole o st.fr st.hp with _ | v
  · rfl
  · simp [touched]
theorem d_full0 {hole i : Nat} {o : Oper} {gh : List (List Nat)} :
    evD0 cfg orc hole i o false [] st gh = (evOp cfg orc false o st).map fun s => { st := s, gh := gh } := by
  simp only [evD0, Bool.false_eq_true, if_false]
  rcases evOp cfg orc false o st with _ | v
  · rfl
  · simp [touched]
theorem k_blk_normal {id : Nat} : WK cfg f r (.blk id :: k) Q .normal st = WK cfg f r k Q .normal st := rfl
theorem k_blk_ret {id : Nat} : WK cfg f r (.blk id :: k) Q .ret st = WK cfg f r k Q .ret st := rfl
theorem k_blk_exit {id i : Nat} : WK cfg f r (.blk id :: k) Q (.exit i) st = WK cfg f r k Q (if i = id then .normal else .exit i) st := by
  show (if i = id then _ else _) = _
  split <;> rfl
theorem k_code_ret {c : Code} : WK cfg f r (.code c :: k) Q .ret st = WK cfg f r k Q .ret st := rfl
theorem k_code_exit {c : Code} {i : Nat} : WK cfg f r (.code c :: k) Q (.exit i) st = WK cfg f r k Q (.exit i) st := rfl
theorem k_again_ret {c : Code} : WK cfg f r (.again c :: k) Q .ret st = WK cfg f r k Q .ret st := rfl
theorem k_again_exit {c : Code} {i : Nat} : WK cfg f r (.again c :: k) Q (.exit i) st = WK cfg f r k Q (.exit i) st := rfl
theorem WpN_WK' {k : List KI} {b : Code} : (WpN (WK cfg f r k Q) fun s => Wp cfg f r (.loop b) s (WK cfg f r k Q)) = WK cfg f r (.again b :: k) Q := by
  funext e s; cases e <;> rfl
theorem k_loop1 {c : Code} : WK cfg f r (.code (.loop c) :: k) Q .normal st = WK cfg f r (.code c :: .again c :: k) Q .normal (st.head (cfg.kill f (firstReg c))) := by
  show Wp cfg f r _ _ _ = Wp cfg f r _ _ _
  rw [w_loop1, WpN_WK']; rfl
theorem k_again {c : Code} : WK cfg f r (.again c :: k) Q .normal st = WK cfg f r (.code c :: .again c :: k) Q .normal (st.head (cfg.kill f (firstReg c))) := k_loop1

@[congr] theorem WS_congr {o o' : Option St} (h : o = o') : WS cfg f r k Q o = WS cfg f r k Q o' := by rw [h]
@[congr] theorem WD_congr {hole hole' i i' : Nat} {all : List (Option Tmp)} {rest : List Oper} {left : List (Bool × List Nat)} {o o' : Option DS} (h1 : hole = hole') (h2 : i = i') (h : o = o') : WD cfg f r hole i all rest left k Q o = WD cfg f r hole' i' all rest left k Q o' := by rw [h1, h2, h]
@[congr] theorem WK_congr {e e' : Ex} {s s' : St} (he : e = e') (h : s = s') : WK cfg f r k Q e s = WK cfg f r k Q e' s' := by rw [he, h]

/-- A loop in the walk: at its head the state is S x, for an x for which I holds; each round makes μ less. -/
theorem k_loop {α : Type} {c : Code} (S : α → St) (I : α → Prop) (μ : α → Nat) (x0 : α) {K : List Nat} (hK : cfg.kill f (firstReg c) = K) (hI : I x0) (h0 : st.head K = S x0)
    (round : ∀ x, I x → ∀ k' Q', (∀ y s, I y → μ y < μ x → s.head K = S y → WK cfg f r k' Q' .normal s) → (∀ i s, WK cfg f r k Q (.exit i) s → WK cfg f r k' Q' (.exit i) s) → (∀ s, WK cfg f r k Q .ret s → WK cfg f r k' Q' .ret s) →
      WK cfg f r (.code c :: k') Q' .normal (S x)) : WK cfg f r (.code (.loop c) :: k) Q .normal st := by
  subst hK
  show Wp cfg f r _ _ _
  refine w_loop S I μ x0 hI h0 fun x hx => ?_
  have := round x hx [] (WpN (WK cfg f r k Q) fun s => ∃ y, I y ∧ μ y < μ x ∧ s.head (cfg.kill f (firstReg c)) = S y) (fun y s h1 h2 h3 => ⟨y, h1, h2, h3⟩) (fun i s h => h) fun s h => h
  exact this

/-! ### Ways part -/
theorem WD_split {hole i : Nat} {all : List (Option Tmp)} {rest : List Oper} {left : List (Bool × List Nat)} {b w : Bool} {x y : Option DS} (h1 : b = true → WD cfg f r hole i all rest left k Q (guardD (.bool true) w x y)) (h2 : b = false → WD cfg f r hole i all rest left k Q (guardD (.bool false) w x y)) :
    WD cfg f r hole i all rest left k Q (guardD (.bool b) w x y) := by cases b <;> simp_all
theorem WS_split {b w : Bool} {x y : Option St} (h1 : b = true → WS cfg f r k Q (guardV (.bool true) w x y)) (h2 : b = false → WS cfg f r k Q (guardV (.bool false) w x y)) :
    WS cfg f r k Q (guardV (.bool b) w x y) := by cases b <;> simp_all

theorem wrap_i64 {n : Int} (h1 : -9223372036854775808 ≤ n) (h2 : n ≤ 9223372036854775807) : IntKind.i64.wrap n = n := by
  have e1 : (2 : Int) ^ IntKind.i64.bits = 18446744073709551616 := by decide
  have e2 : (2 : Int) ^ (IntKind.i64.bits - 1) = 9223372036854775808 := by decide
  simp only [IntKind.wrap, e1, e2, show IntKind.i64.signed = true from rfl, Bool.true_and, decide_eq_true_eq]
  split <;> omega

/-! ### What is handed back -/
theorem ret1 {t : Tmp} {e : Ex} {s : St} {R : V → Bool → List Blk → Prop} {v : V} {own : Bool} (he : ∀ i, e ≠ .exit i) (hv : s.fr.getD t .any = v) (hl : V.lt 0 v = true) (ho : (s.own.contains t && isSl v) = own) (h : R v own []) :
    Ret cfg [.tmp t] 0 R e s := by
  refine ⟨he, v, s.own.contains t, by simp only [resultsV, resOf, resOwn, hv, Option.map_some], ?_⟩
  rw [ho]
  simp only [hl, List.take_zero, List.all_nil, Bool.and_self, if_true]
  exact h
theorem ret1n {t : Tmp} {e : Ex} {s : St} {R : V → Bool → List Blk → Prop} {v : V} (he : ∀ i, e ≠ .exit i) (hv : s.fr.getD t .any = v) (hl : V.lt 0 v = true) (hs : isSl v = false) (h : R v false []) :
    Ret cfg [.tmp t] 0 R e s := ret1 he hv hl (by rw [hs, Bool.and_false]) h
theorem retc1 {p : Tmp} {ty : TypeId} {e : Ex} {s : St} {R : V → Bool → List Blk → Prop} {v : V} (he : ∀ i, e ≠ .exit i) (hv : loadV cfg s.hp ty (s.fr.getD p .any) = some v) (hl : V.lt 0 v = true) (h : R v false []) :
    Ret cfg [.cell p ty] 0 R e s := by
  refine ⟨he, v, false, by simp only [resultsV, resOf, resOwn, hv, Option.map_some], ?_⟩
  simp only [hl, List.take_zero, List.all_nil, Bool.and_self, if_true, Bool.false_and]
  exact h
theorem ret2 {t u : Tmp} {e : Ex} {s : St} {R : V → Bool → List Blk → Prop} {v w : V} (he : ∀ i, e ≠ .exit i) (hv : s.fr.getD t .any = v) (hw : s.fr.getD u .any = w) (hl : V.lt 0 v = true) (hl2 : V.lt 0 w = true) (h : R (.tup [v, w]) false []) :
    Ret cfg [.tmp t, .tmp u] 0 R e s := by
  refine ⟨he, .tup [v, w], false, by simp only [resultsV, List.mapM_cons, List.mapM_nil, resOf, hv, hw]; rfl, ?_⟩
  have : V.lt 0 (.tup [v, w]) = true := by
    simp only [V.lt, V.all, V.alll, Bool.and_true] at hl hl2 ⊢
    rw [hl, hl2]; rfl
  simp only [this, List.take_zero, List.all_nil, Bool.and_self, if_true, Bool.false_and]
  exact h
theorem ex_normal {i : Nat} : Ex.normal ≠ .exit i := by simp
theorem ex_ret {i : Nat} : Ex.ret ≠ .exit i := by simp

def mkF (n : Nat) (l : List (Nat × V)) : List V := l.foldl (fun f p => f.set p.1 p.2) (List.replicate n .any)

theorem lim_of_run {k : Nat} {f : FuncId} {a : List V} {hp : List Blk} {x : V × Bool × List Blk} (h : (run cfg k).call f a hp = some x) : (Lim cfg).call f a hp = some x := lim_call_iff.2 ⟨k, h⟩

/-! ### Rows -/
theorem rf_nil {n : Nat} : rowsFit n [] = true := rfl
theorem rf_cons {n : Nat} {r : List V} {t : List (List V)} : rowsFit n (r :: t) = (r.length == n) := rfl
theorem hb_nil : headByte [] = false := rfl
theorem hb_nil1 {t : List (List V)} : headByte ([] :: t) = false := rfl
theorem hb_two {a b : V} {c : List V} {t : List (List V)} : headByte ((a :: b :: c) :: t) = false := by cases a <;> (try rfl) ; rename_i k n; cases k <;> rfl
theorem hb_i64 {n : Int} {t : List (List V)} : headByte ([.int .i64 n] :: t) = false := rfl
theorem hb_u8 {n : Int} {t : List (List V)} : headByte ([.int .u8 n] :: t) = true := rfl
theorem hb_str {n : List UInt8} {t : List (List V)} : headByte ([.str n] :: t) = false := rfl
theorem hb_bool {n : Bool} {t : List (List V)} : headByte ([.bool n] :: t) = false := rfl
theorem hb_sl {d : Bool} {xs : List (List V)} {t : List (List V)} : headByte ([.sl d xs] :: t) = false := rfl

/-! ### One operation at a time -/
section
variable {d : Option Tmp} {ty : TypeId} {ps : String} {af : Array Edge} {g : Option (Nat × Bool)}
theorem e_move {x : Operand} : evOp cfg orc false ⟨d, .move x, ty, ps, af, g⟩ st = match x with
    | .tmp u => if st.own.contains u && !false && d != some u then some ((st.put d (ev st.fr x)).alias d (some (.tmp u))) else some (st.put d (ev st.fr x))
    | _ => some (st.put d (ev st.fr x)) := rfl
theorem e_assign {x : Operand} : evOp cfg orc false ⟨d, .assign x, ty, ps, af, g⟩ st = match x with
    | .tmp u => if st.own.contains u && !false then some ((dropOwn st (.tmp u)).putOwn d (ev st.fr x) true) else some (st.put d (ev st.fr x))
    | .const (.slice none 0 0) => some (st.putOwn d (.sl true []) true)
    | _ => some (st.put d (ev st.fr x)) := by
  rcases x with u | v | f | f <;> try rfl
theorem e_pick {c a b : Operand} : evOp cfg orc false ⟨d, .pick c a b, ty, ps, af, g⟩ st = match ev st.fr c with
    | .bool true => some (st.put d (ev st.fr a))
    | .bool false => some (st.put d (ev st.fr b))
    | _ => none := rfl
theorem e_alloc {t : TypeId} : evOp cfg orc false ⟨d, .alloc t, ty, ps, af, g⟩ st = match cfg.ty t with
    | some ti => some (pushBlk st d (.cells t (nilOffs 0 ti.zero) ti.zero))
    | none => none := rfl
theorem e_box {t : TypeId} {x : Operand} : evOp cfg orc false ⟨d, .box t x, ty, ps, af, g⟩ st = match cellsV (ev st.fr x) with
    | some cs => some (pushBlk st d (.cells t [] cs))
    | none => none := rfl
theorem e_build {t : TypeId} {parts : Array (Nat × Operand)} : evOp cfg orc false ⟨d, .build t parts, ty, ps, af, g⟩ st =
    if fieldsKnown cfg t then (buildV cfg t (parts.toList.map fun (p : Nat × Operand) => (p.1, ev st.fr p.2))).map fun v => st.put d v else none := rfl
theorem e_buildSlice {t : TypeId} {len : Nat} {parts : Array (Nat × Operand)} : evOp cfg orc false ⟨d, .buildSlice t len parts, ty, ps, af, g⟩ st =
    (buildSliceV cfg t len (parts.toList.map fun (p : Nat × Operand) => (p.1, ev st.fr p.2))).map fun v => st.put d v := rfl
/-- A slot takes what was read of a cell. -/
def takeV (st : St) (d : Option Tmp) (p : V) : Option V → Option St
  | some v => some (if isSl v then (st.put d v).alias d (cellOwner st.hp p) else st.put d v)
  | none => none
theorem takeV_some {p v : V} : takeV st d p (some v) = some (if isSl v then (st.put d v).alias d (cellOwner st.hp p) else st.put d v) := rfl
@[congr] theorem takeV_congr {p p' : V} {o o' : Option V} (h1 : p = p') (h : o = o') : takeV st d p o = takeV st d p' o' := by rw [h1, h]
theorem e_load {t : TypeId} {p : Operand} : evOp cfg orc false ⟨d, .load t p, ty, ps, af, g⟩ st = takeV st d (ev st.fr p) (loadV cfg st.hp t (ev st.fr p)) := by
  simp only [evOp, takeV, Bool.not_false, Bool.and_true]
  rcases loadV cfg st.hp t (ev st.fr p) with _ | v <;> rfl
theorem e_store {t : TypeId} {p x : Operand} : evOp cfg orc false ⟨d, .store t p x, ty, ps, af, g⟩ st = if d.isSome then none else storeOp cfg t p x st := by
  simp [evOp]
theorem e_nilCheck {x : Operand} : evOp cfg orc false ⟨d, .nilCheck x, ty, ps, af, g⟩ st = match ev st.fr x with
    | .ptr id off => some (st.put d (.ptr id off))
    | .pc dd cs => some (st.put d (.pc dd cs))
    | .fn f cap => some (st.put d (.fn f cap))
    | .yld id => some (st.put d (.yld id))
    | _ => none := rfl
/-- A slot takes a value, if there is one. -/
def putV (st : St) (d : Option Tmp) : Option V → Option St
  | some v => some (st.put d v)
  | none => none
theorem putV_some {v : V} : putV st d (some v) = some (st.put d v) := rfl
@[congr] theorem putV_congr {o o' : Option V} (h : o = o') : putV st d o = putV st d o' := by rw [h]
theorem putV_eq {o : Option V} : (o.map fun v => st.put d v) = putV st d o := by cases o <;> rfl
theorem e_binOp {op : BinOp} {t t2 : TypeId} {x y : Operand} : evOp cfg orc false ⟨d, .binOp op t x y t2, ty, ps, af, g⟩ st = putV st d (binOpV cfg op t (ev st.fr x) (ev st.fr y)) := putV_eq
theorem e_unOp {op : UnOp} {t : TypeId} {x : Operand} : evOp cfg orc false ⟨d, .unOp op t x, ty, ps, af, g⟩ st = putV st d (unOpV op (ev st.fr x)) := putV_eq
theorem e_convert {t t2 : TypeId} {x : Operand} : evOp cfg orc false ⟨d, .convert t t2 x, ty, ps, af, g⟩ st = match convPV cfg st.hp t t2 (ev st.fr x) with
    | some v => some (st.put d v)
    | none => putV st d (convV cfg t t2 (ev st.fr x)) := by
  simp only [evOp, Bool.false_eq_true, if_false, putV_eq]
  rcases convPV cfg st.hp t t2 (ev st.fr x) with _ | v <;> rfl
theorem e_makeFunc {f : FuncId} {first cap : Array Operand} : evOp cfg orc false ⟨d, .makeFunc (.func f) first cap, ty, ps, af, g⟩ st = if first.isEmpty then some (st.put d (.fn f (cap.toList.map (ev st.fr)))) else none := rfl
/-- A slot takes part of a slice. -/
def cutV (st : St) (d : Option Tmp) (z : Bool) : Option V → Option St
  | some v => some (if isSl v && z then st.putOwn d v true else st.put d v)
  | none => none
theorem cutV_some {z : Bool} {v : V} : cutV st d z (some v) = some (if isSl v && z then st.putOwn d v true else st.put d v) := rfl
@[congr] theorem cutV_congr {z z' : Bool} {o o' : Option V} (h1 : z = z') (h : o = o') : cutV st d z o = cutV st d z' o' := by rw [h1, h]
theorem e_slice {t : TypeId} {x : Operand} {lo hi mx : Option Operand} : evOp cfg orc false ⟨d, .slice t x lo hi mx, ty, ps, af, g⟩ st =
    cutV st d (capZero (lo.map (ev st.fr)) (mx.map (ev st.fr))) (sliceV cfg t (ev st.fr x) (lo.map (ev st.fr)) (hi.map (ev st.fr)) (mx.map (ev st.fr))) := by
  simp only [evOp, Bool.not_false, Bool.true_and]
  rcases sliceV cfg t (ev st.fr x) (lo.map (ev st.fr)) (hi.map (ev st.fr)) (mx.map (ev st.fr)) with _ | v <;> rfl
theorem e_fieldAddr {t : TypeId} {p : Operand} {i : Nat} : evOp cfg orc false ⟨d, .fieldAddr t p i, ty, ps, af, g⟩ st = putV st d (fieldV cfg t (ev st.fr p) i) := putV_eq
theorem e_field {t : TypeId} {p : Operand} {i : Nat} : evOp cfg orc false ⟨d, .field t p i, ty, ps, af, g⟩ st = putV st d (partV cfg t (ev st.fr p) i) := putV_eq
theorem e_indexAddr {t : TypeId} {x i : Operand} : evOp cfg orc false ⟨d, .indexAddr t x i, ty, ps, af, g⟩ st = putV st d (indexAddrV cfg t (ev st.fr x) (ev st.fr i)) := putV_eq
theorem e_index {t : TypeId} {x i : Operand} : evOp cfg orc false ⟨d, .index t x i, ty, ps, af, g⟩ st = putV st d (indexV cfg t (ev st.fr x) (ev st.fr i)) := putV_eq
theorem e_extract {x : Operand} {i : Nat} : evOp cfg orc false ⟨d, .extract x i, ty, ps, af, g⟩ st = match ev st.fr x with
    | .tup vs => putV st d vs[i]?
    | _ => none := by
  simp only [evOp]
  generalize ev st.fr x = w
  cases w with
  | tup vs =>
    show (match vs[i]? with | some v => some (st.put d v) | none => none) = putV st d vs[i]?
    rcases vs[i]? with _ | v <;> rfl
  | _ => rfl
theorem e_builtin {b : Builtin} {args : Array Operand} {ts : Array TypeId} : evOp cfg orc false ⟨d, .call ⟨.builtin b, args, ts⟩, ty, ps, af, g⟩ st = builtinOp cfg b d args.toList ts.toList st := rfl

/-- What a call that is handed no pointer leaves. -/
def callRes (st : St) (d : Option Tmp) : Option (V × Bool × List Blk) → Option St
  | some (v, own, []) => some ({ st with al := [] }.putOwn d v (own && isSl v))
  | some (v, own, hp) => some ({ st with hp := backHp st.hp [] hp, al := [] }.putOwn d (v.ren (backId [] st.hp.length)) (own && isSl v))
  | none => none
@[congr] theorem callRes_congr {o o' : Option (V × Bool × List Blk)} (h : o = o') : callRes st d o = callRes st d o' := by rw [h]
theorem callRes_nil {v : V} {own : Bool} : callRes st d (some (v, own, [])) = some ({ st with al := [] }.putOwn d v (own && isSl v)) := rfl
theorem callRes_cons {v : V} {own : Bool} {b : Blk} {hp : List Blk} : callRes st d (some (v, own, b :: hp)) = some ({ st with hp := st.hp ++ (b :: hp).map (Blk.ren (backId [] st.hp.length)), al := [] }.putOwn d (v.ren (backId [] st.hp.length)) (own && isSl v)) := by
  simp [callRes, backHp, putBack]

/-- A call that is handed pointers. -/
def callHeap (cfg : Cfg) (orc : Orc) (st : St) (d : Option Tmp) (f : FuncId) (args : List V) : Option St :=
  if closedIn st.hp (reach st.hp args) args then
    match orc.call f (V.renl (fun i => (reach st.hp args).idxOf i) args) (subHp st.hp (reach st.hp args)) with
    | some (v, own, hp) => some ({ st with hp := backHp st.hp (reach st.hp args) hp, al := [] }.putOwn d (v.ren (backId (reach st.hp args) st.hp.length)) (own && isSl v))
    | none => none
  else none

/-- A call of a function. -/
def callFn (cfg : Cfg) (orc : Orc) (st : St) (d : Option Tmp) (f : FuncId) (args : List V) (pure ext : Bool) : Option St :=
  if ext then
    match args with
    | [v] => some (st.put d v)
    | _ => none
  else if pure then callRes st d (orc.call f args []) else callHeap cfg orc st d f args
@[congr] theorem callFn_congr {f f' : FuncId} {as bs : List V} {p p' e e' : Bool} (h0 : f = f') (h1 : as = bs) (h2 : p = p') (h3 : e = e') : callFn cfg orc st d f as p e = callFn cfg orc st d f' bs p' e' := by rw [h0, h1, h2, h3]
theorem callFn_pure {f : FuncId} {as : List V} : callFn cfg orc st d f as true false = callRes st d (orc.call f as []) := rfl
theorem callFn_heap {f : FuncId} {as : List V} : callFn cfg orc st d f as false false = callHeap cfg orc st d f as := rfl
theorem callFn_ext {v : V} {f : FuncId} {p : Bool} : callFn cfg orc st d f [v] p true = some (st.put d v) := by cases p <;> rfl

/-- A call of yield. -/
def callYield (cfg : Cfg) (orc : Orc) (st : St) (d : Option Tmp) (id : Nat) (args : List V) : Option St :=
  if closedIn st.hp (reach st.hp (.yld id :: args)) (.yld id :: args) then
    match orc.round ((reach st.hp (.yld id :: args)).idxOf id) (V.renl (fun i => (reach st.hp (.yld id :: args)).idxOf i) args) (subHp st.hp (reach st.hp (.yld id :: args))) with
    | some (b, hp) => some ({ st with hp := backHp st.hp (reach st.hp (.yld id :: args)) hp, al := [] }.put d (.bool b))
    | none => none
  else none

def callV (cfg : Cfg) (orc : Orc) (st : St) (d : Option Tmp) (f : V) (args : List V) : Option St :=
  match f with
  | .fn g cap => callFn cfg orc st d g (args ++ cap) (V.ltl 0 (args ++ cap)) (cfg.ext g)
  | .yld id => callYield cfg orc st d id args
  | _ => none
@[congr] theorem callV_congr {f f' : V} {as bs : List V} (h0 : f = f') (h1 : as = bs) : callV cfg orc st d f as = callV cfg orc st d f' bs := by rw [h0, h1]
theorem callV_fn {f : FuncId} {cap as : List V} : callV cfg orc st d (.fn f cap) as = callFn cfg orc st d f (as ++ cap) (V.ltl 0 (as ++ cap)) (cfg.ext f) := rfl
theorem callV_yld {id : Nat} {as : List V} : callV cfg orc st d (.yld id) as = callYield cfg orc st d id as := rfl

theorem e_call {f : Operand} {args : Array Operand} {ts : Array TypeId} : evOp cfg orc false ⟨d, .call ⟨.value f, args, ts⟩, ty, ps, af, g⟩ st = callV cfg orc st d (ev st.fr f) (args.toList.map (ev st.fr)) := by
  simp only [evOp, Bool.false_eq_true, if_false]
  generalize ev st.fr f = w
  cases w with
  | fn g cap =>
    show (if cfg.ext g = true then _ else _) = if cfg.ext g = true then _ else _
    split
    · rfl
    · show (if _ then _ else _) = if _ then _ else _
      split
      · rcases orc.call g (args.toList.map (ev st.fr) ++ cap) [] with _ | ⟨v, own, _ | ⟨b, hp⟩⟩ <;> rfl
      · rfl
  | yld id => rfl
  | _ => rfl
end

/-- A range over a function. -/
theorem k_range {g : Operand} {ps : Array Tmp} {assign body : Code} {gf : FuncId} {cap args args' : List V} {hp1 hp2 hp' hp3 : List Blk} {R : List Nat} {v : V} {own : Bool} {s : LoopState} {pe : Option Code} {fn0 : FuncId} {fr0 : List V} {ps0 : List Tmp} {as0 bo0 : Code} {e : Ex}
    (hg : ev st.fr g = .fn gf cap) (h1 : st.hp ++ [.loop .ready none f (killAll st.fr (cfg.kill f (rangeKey assign body))) ps.toList assign body] = hp1) (ha0 : .yld st.hp.length :: cap = args) (hR : reach hp1 args = R) (hc : (inLoop r st.hp && closedIn hp1 R args) = true)
    (ha : V.renl (fun i => R.idxOf i) args = args') (hs : subHp hp1 R = hp2) (hcall : (Lim cfg).call gf args' hp2 = some (v, own, hp')) (hb : backHp hp1 R hp' = hp3) (hl : hp3[st.hp.length]? = some (.loop s pe fn0 fr0 ps0 as0 bo0)) (hn : notBusy s = true) (hj : jumpEx pe = some e)
    (hk : WK cfg f r k Q e { st with hp := hp3.set st.hp.length .dead, al := [] }) : WK cfg f r (.code (.rangeFunc g ps assign body) :: k) Q .normal st := by
  subst h1 ha0 hR ha hs hb
  refine ⟨e, _, ?_, hk⟩
  rw [lim_code]
  simp only [step, hg, hc, if_true, hcall, hl, hn, hj]

/-! ### Rounds -/
/-- Behind a round's body. -/
def RB (id n : Nat) (R : Bool → List Blk → Prop) (ex : Ex) (s : St) : Prop :=
  ∃ s2 pe2 fn2 fr2 ps2 as2 bo2, s.hp[id]? = some (.loop s2 pe2 fn2 fr2 ps2 as2 bo2) ∧
    R ex.jump.isNone (if ((s.hp.set id (.loop (if ex.jump.isNone then .ready else .done) ex.jump fn2 fr2 ps2 as2 bo2)).take n).all (Blk.all fun i => Nat.blt i n) then (s.hp.set id (.loop (if ex.jump.isNone then .ready else .done) ex.jump fn2 fr2 ps2 as2 bo2)).take n
      else s.hp.set id (.loop (if ex.jump.isNone then .ready else .done) ex.jump fn2 fr2 ps2 as2 bo2))
/-- Behind the assignment to a round's variables. -/
def RA (cfg : Cfg) (fn : FuncId) (id : Nat) (body : Code) (n : Nat) (R : Bool → List Blk → Prop) (ex : Ex) (s : St) : Prop :=
  ex = .normal ∧ ∃ pe1 fn1 fr1 ps1 as1 bo1, s.hp[id]? = some (.loop .ready pe1 fn1 fr1 ps1 as1 bo1) ∧ Wp cfg fn (some id) body { s with hp := s.hp.set id (.loop .busy pe1 fn1 fr1 ps1 as1 bo1), al := [] } (RB id n R)

theorem round_of {id : Nat} {args : List V} {hp : List Blk} {pe : Option Code} {fn : FuncId} {fr : List V} {ps : List Tmp} {assign body : Code} {R : Bool → List Blk → Prop} (hl : hp[id]? = some (.loop .ready pe fn fr ps assign body)) (hn : args.length = ps.length)
    (h : Wp cfg fn (some id) assign { fr := (ps.zip args).foldl (fun f p => f.set p.1 p.2) fr, own := [], hp := hp, al := [], nb := hp.length } (RA cfg fn id body hp.length R)) :
    ∃ b hp', (Lim cfg).round id args hp = some (b, hp') ∧ R b hp' := by
  obtain ⟨e, s, h1, rfl, pe1, fn1, fr1, ps1, as1, bo1, h2, e2, s2, h3, st2, pe2, fn2, fr2, ps2, as2, bo2, h4, hR⟩ := h
  rw [lim_round]
  simp only [step, hl, isReady, hn, Nat.beq_refl, Bool.and_self, if_true, h1, h2, h3, h4]
  generalize s2.hp.set id (.loop (if e2.jump.isNone = true then .ready else .done) e2.jump fn2 fr2 ps2 as2 bo2) = X at hR ⊢
  by_cases hc : (X.take hp.length).all (Blk.all fun i => Nat.blt i hp.length) = true
  · rw [if_pos hc] at hR ⊢; exact ⟨_, _, rfl, hR⟩
  · rw [if_neg hc] at hR ⊢; exact ⟨_, _, rfl, hR⟩

theorem round_eq {id : Nat} {args : List V} {hp hp' : List Blk} {b : Bool} {pe : Option Code} {fn : FuncId} {fr : List V} {ps : List Tmp} {assign body : Code} (hl : hp[id]? = some (.loop .ready pe fn fr ps assign body)) (hn : args.length = ps.length)
    (h : Wp cfg fn (some id) assign { fr := (ps.zip args).foldl (fun f p => f.set p.1 p.2) fr, own := [], hp := hp, al := [], nb := hp.length } (RA cfg fn id body hp.length fun b' h' => b' = b ∧ h' = hp')) :
    (Lim cfg).round id args hp = some (b, hp') := by
  obtain ⟨b', h', h1, rfl, rfl⟩ := round_of hl hn h
  exact h1

/-- The ranges over functions in some code. -/
def rngs : Code → List (Code × Code)
  | .seq a b => rngs a ++ rngs b
  | .cond _ a b => rngs a ++ rngs b
  | .block _ c => rngs c
  | .loop c => rngs c
  | .scope c => rngs c
  | .rangeFunc _ _ a b => (a, b) :: rngs b
  | _ => []
def rngA (fn : Func) (i : Nat) : Code := (((rngs (fn.body.getD .skip))[i]?).getD (.skip, .skip)).1
def rngB (fn : Func) (i : Nat) : Code := (((rngs (fn.body.getD .skip))[i]?).getD (.skip, .skip)).2

/-! ### Contested operations -/
def touchL (hole i : Nat) (o : Oper) (c : List Nat) (st : St) (gh : List (List Nat)) : Option V → Option DS
  | some v => (touched gh i c (limAt hole o st.fr)).map fun gh => { st := st.put o.dst v, gh := gh }
  | none => none
@[congr] theorem touchL_congr {hole i : Nat} {o : Oper} {c : List Nat} {gh : List (List Nat)} {v v' : Option V} (h : v = v') : touchL hole i o c st gh v = touchL hole i o c st gh v' := by rw [h]
theorem touchL_some {hole i : Nat} {o : Oper} {c : List Nat} {gh : List (List Nat)} {v : V} : touchL hole i o c st gh (some v) = (touched gh i c (limAt hole o st.fr)).map fun gh => { st := st.put o.dst v, gh := gh } := rfl
theorem d_lim {hole i : Nat} {o : Oper} {a : Nat} {c : List Nat} {gh : List (List Nat)} : evD0 cfg orc hole i o true (a :: c) st gh = touchL hole i o (a :: c) st gh (limV cfg orc hole o st.fr st.hp) := by
  simp only [evD0, if_true]
  rcases limV cfg orc hole o st.fr st.hp with _ | v <;> rfl
def touchF (i : Nat) (o : Oper) (c : List Nat) (st : St) (gh : List (List Nat)) : Option St → Option DS
  | some st' => (touched gh i c (fullAt o st st')).map fun gh => { st := st', gh := gh }
  | none => none
@[congr] theorem touchF_congr {i : Nat} {o : Oper} {c : List Nat} {gh : List (List Nat)} {v v' : Option St} (h : v = v') : touchF i o c st gh v = touchF i o c st gh v' := by rw [h]
theorem touchF_some {i : Nat} {o : Oper} {c : List Nat} {gh : List (List Nat)} {st' : St} : touchF i o c st gh (some st') = (touched gh i c (fullAt o st st')).map fun gh => { st := st', gh := gh } := rfl
theorem d_full {hole i : Nat} {o : Oper} {a : Nat} {c : List Nat} {gh : List (List Nat)} : evD0 cfg orc hole i o false (a :: c) st gh = touchF i o (a :: c) st gh (evOp cfg orc false o st) := by
  simp only [evD0, Bool.false_eq_true, if_false]
  rcases evOp cfg orc false o st with _ | v <;> rfl

theorem reachGo_nil (hp : List Blk) : ∀ n, reachGo hp n [] = []
  | 0 => rfl
  | n + 1 => by simp [reachGo]
theorem reach_pure {hp : List Blk} {args : List V} (h : V.idsl [] args = []) : reach hp args = [] := by
  simp [reach, h, reachGo_nil]
theorem fa_call {d : Option Tmp} {ty : TypeId} {ps : String} {af : Array Edge} {g : Option (Nat × Bool)} {f : Operand} {args : Array Operand} {ts : Array TypeId} {st' : St} :
    fullAt ⟨d, .call ⟨.value f, args, ts⟩, ty, ps, af, g⟩ st st' = match ev st.fr f with
      | .fn _ cap => reach st.hp (args.toList.map (ev st.fr) ++ cap) ++ (List.range (st'.hp.length - st.hp.length)).map (st.hp.length + ·)
      | .yld id => reach st.hp (.yld id :: args.toList.map (ev st.fr)) ++ (List.range (st'.hp.length - st.hp.length)).map (st.hp.length + ·)
      | _ => [] := rfl

theorem callYield_eq {d : Option Tmp} {id n : Nat} {args args' : List V} {R : List Nat} {hp2 hp' hp3 : List Blk} {b : Bool} (hR : reach st.hp (.yld id :: args) = R) (hc : closedIn st.hp R (.yld id :: args) = true) (hi : R.idxOf id = n) (ha : V.renl (fun i => R.idxOf i) args = args')
    (hs : subHp st.hp R = hp2) (hr : (Lim cfg).round n args' hp2 = some (b, hp')) (hb : backHp st.hp R hp' = hp3) : callYield cfg (Lim cfg) st d id args = some ({ st with hp := hp3, al := [] }.put d (.bool b)) := by
  subst hR hi ha hs hb
  simp only [callYield, hc, if_true, hr]

theorem callHeap_eq {d : Option Tmp} {f : FuncId} {args args' : List V} {R : List Nat} {hp2 hp' hp3 : List Blk} {v v' : V} {own own' : Bool} (hR : reach st.hp args = R) (hc : closedIn st.hp R args = true) (ha : V.renl (fun i => R.idxOf i) args = args')
    (hs : subHp st.hp R = hp2) (hr : (Lim cfg).call f args' hp2 = some (v, own, hp')) (hb : backHp st.hp R hp' = hp3) (hv : v.ren (backId R st.hp.length) = v') (ho : (own && isSl v) = own') : callHeap cfg (Lim cfg) st d f args = some ({ st with hp := hp3, al := [] }.putOwn d v' own') := by
  subst hR ha hs hb hv ho
  simp only [callHeap, hc, if_true, hr]

/-- The rest of a slice. -/
theorem slice_tail {t e : TypeId} {s1 b1 : Nat} {z1 : List V} {te : TI} {d : Bool} {r : List V} {xs : List (List V)} (ht : cfg.ty t = some ⟨.slice e, s1, b1, z1⟩) (he : cfg.ty e = some te) (hr : r.length = te.size) :
    sliceV cfg t (.sl d (r :: xs)) (some (.int .i64 1)) none none = some (.sl d xs) := by
  have hf : rowsFit te.size (r :: xs) = true := by simp [rowsFit, hr]
  have e1 : ((0 : Int) ≤ 1 ∧ (1 : Int) ≤ ((r :: xs).length : Nat)) := by simp only [List.length_cons]; omega
  simp only [sliceV, ht, he, Option.map_some, hf, bound, if_pos e1, Bool.true_eq_false, if_false]
  simp

theorem ret0 {n : Nat} {e : Ex} {s : St} {R : V → Bool → List Blk → Prop} {hp' : List Blk} (he : ∀ i, e ≠ .exit i) (ht : (if (s.hp.take n).all (Blk.all fun i => Nat.blt i n) then s.hp.take n else s.hp) = hp') (h : R (.tup []) false hp') : Ret cfg [] n R e s := by
  refine ⟨he, .tup [], false, rfl, ?_⟩
  simp only [V.lt, V.all, V.alll, Bool.true_and, Bool.false_and, ht]
  exact h

theorem isE : (#[] : Array Operand).isEmpty = true := rfl

/-! ### The walk's rules, as one set -/
attribute [go_sem]
  guardV_u guardD_u k_enter k_enterD dsts List.map_cons List.map_nil nextHole_f nextHole_t isAlloc k_draw k_drw k_drw_nil k_someD k_noneD d_plain d_guard d_lim0 d_full0 guardD_tt
  guardD_tf guardD_ft guardD_ff limV laidAhead List.replicate Array.toList k_seq k_region k_ops k_ops_nil k_some k_none k_skip k_label k_scope k_ret k_exit k_blk_normal k_blk_ret
  k_blk_exit k_code_ret k_code_exit k_again_ret k_again_exit k_block k_cond k_nil o_plain o_guard guardV_tt guardV_tf guardV_ft guardV_ff guardAt WC_true WC_false e_move e_assign
  e_pick e_alloc e_box e_build e_buildSlice takeV_some e_load e_store e_nilCheck putV_some e_binOp e_unOp e_convert e_makeFunc cutV_some e_slice e_fieldAddr e_field e_indexAddr
  e_index e_extract e_builtin callRes_nil callRes_cons callFn_pure callFn_heap callFn_ext callV_fn callV_yld e_call ev St.put St.putOwn St.owns St.alias dropOwn pushBlk List.set
  List.set_cons_zero List.set_cons_succ List.getD_cons_zero List.getD_cons_succ List.getD_nil List.getElem?_cons_zero List.getElem?_cons_succ List.getElem?_nil List.filter_nil
  List.filter_cons List.contains_nil List.contains_cons Bool.false_and Bool.and_false Bool.true_and Bool.and_true Bool.or_false Bool.false_or Bool.or_true Bool.true_or Bool.not_false
  Bool.not_true if_false if_true ite_false ite_true Bool.false_eq_true builtinOp lenV isAppend ofConst Option.map_some Option.map_none Option.bind_some Option.bind_none
  List.length_map List.length_cons List.length_nil List.length_append Nat.zero_add binOpV intOp unOpV indexAddrV loadV fieldV partV storeOp mkV K.isAgg cellsV movesFrom isSl
  cellOwner nilOffs List.take_succ_cons List.take_zero List.take_nil List.drop_succ_cons List.drop_zero List.drop_nil List.cons_append List.nil_append List.append_nil decide_true
  decide_false bne_self_eq_false bne_iff_ne ne_eq beq_iff_eq Option.isSome_none Option.isSome_some not_true_eq_false not_false_eq_true and_self and_true true_and and_false false_and
  Option.some.injEq Option.getD_some Option.getD_none eqT eqFs buildV fillV fieldsKnown buildSliceV rowsOf reps convV convPV capZero List.all_cons List.all_nil minmax minmaxGo
  appendOp appendTo ownerOf findAlias isOwner heldV heldFits heldByte appendV indexV killAll V.ltl V.lt V.alll V.all Bool.true_eq_false eq_self List.isEmpty_nil List.isEmpty_cons
  Owner.tmp.injEq Owner.cell.injEq or_self or_false false_or or_true true_or List.flatten_cons List.flatten_nil Nat.not_lt_zero Bool.not_eq_true Bool.not_eq_false Bool.and_self
  Bool.or_self rf_nil rf_cons hb_nil hb_nil1 hb_two hb_i64 hb_u8 hb_str hb_bool hb_sl d_lim d_full touchL_some touchF_some touched limAt fa_call fullAt disj Nat.sub_self
  List.range_zero V.idsl V.ids Nat.beq_refl beq_self_eq_true beqL V.beqC reach_pure isE
end Go.Abs
