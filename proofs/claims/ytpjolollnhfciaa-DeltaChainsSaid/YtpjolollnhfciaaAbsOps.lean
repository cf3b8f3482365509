/- The operations that leave memory alone: what the interpreter says of them is what the model does. -/
import Derived.Test.YtpjolollnhfciaaAbsSim2
import Derived.Laws.StructEq
import Derived.Lib.AppendStr
import Derived.Lib.FrozenHead
import Derived.Lib.Builder
import Derived.LaidEql
import Derived.Lib.ConvBytes
set_option linter.all false
namespace Go.Abs

/-- What the interpreter knows of a kind of type is so. -/
def KOk (P : Program) (t : TypeId) : K → TypeDesc → Prop
  | .bool, .bool => True
  | .int k, .int k' => k = k'
  | .str, .string => True
  | .ptr e, .pointer e' => e = e'
  | .rawp, .unsafePointer => True
  | .slice e, .slice e' => e = e'
  | .struct eq fs, .struct fields => fs = fields.toList.map (fun f => (f.offset, f.type)) ∧ (eq = true → (∀ f ∈ fields.toList, (f.name == "_") = false) ∧ P.stoodInHeld t = false ∧ P.eqGuardType P.depth t = false)
  | .array n e, .array n' e' => n = n' ∧ e = e'
  | .map k e, .map k' e' => k = k' ∧ e = e'
  | .func, .func _ _ _ => True
  | .other, d => (match d with | .struct _ | .array _ _ => False | _ => True)
  | _, _ => False

structure TyOk (P : Program) (t : TypeId) (ti : TI) (i : TypeInfo) (d : TypeDesc) (z : Value) : Prop where
  info : P.info? t = some i
  und : P.underlying t = some d
  size : i.size = ti.size
  bytes : i.bytes = ti.bytes
  zero : i.zero = some z
  zsize : z.cells.size = ti.size
  zeq : ti.zero = z.cells.toList.map ofConst
  zone : ∀ u ∈ z.cells.toList, u.oneCell' = true
  kind : KOk P t ti.k d

structure Cfg.Ok [BT] (cfg : Cfg) (P : Program) : Prop where
  fn : ∀ f fn, cfg.fn f = some fn → P.funcs[f]? = some fn ∧ (fn.name == "runtime.NumGoroutine") = false
  ty : ∀ t ti, cfg.ty t = some ti → ∃ i d z, TyOk P t ti i d z
  mixed : P.follows .mixedOrders = true
  bt1 : ∀ t ti, cfg.ty t = some ti → ti.k = .int .u8 → BT.is t
  bt2 : ∀ e, BT.is e → P.underlying e = some (.int .u8) ∧ P.cellsOf e = 1
  bt3 : ∀ f c, BT.good f c ↔ regsOk cfg f c = true
  ext : ∀ f, cfg.ext f = true → ∃ fn, P.funcs[f]? = some fn ∧ fn.name = "internal/abi.NoEscape" ∧ fn.body.isNone = true ∧ Extern.findNext fn = none ∧ ∃ e, Extern.find fn = some e ∧ e = Extern.AbiNoEscape.same
  regs : ∀ f fn c, cfg.fn f = some fn → fn.body = some c → regsOk cfg f c = true

structure FOk (F : Fence) : Prop where
  fn : ∀ f, F.fn f
  depth : F.depth = none

variable [BT] {F : Fence} {n : Nat} {P : Program} {cfg : Cfg} {B : Base} {W : World} {I : Nat → Nat → Prop} {m : List (Option Nat)} {st st' : St} {a : Act} {o : Oper}

theorem wp_value {w : Value} {W' : World} {next : Act → World → Prop} {Q : Exit → Act → World → Prop} (hF : FOk F) (hnd : ∀ c, o.op ≠ .defer c) (h : (execOp a.eval o).run P W = .ok (.value w) W') (k : next (a.put o.dst w) W') :
    o.wpIn F n P a W next Q := by
  refine ⟨fun f _ => hF.fn f, ?_⟩
  rw [Oper.semAt_eq _ _ _ hnd, h]; exact k
theorem wp_skip {W' : World} {next : Act → World → Prop} {Q : Exit → Act → World → Prop} (hF : FOk F) (hnd : ∀ c, o.op ≠ .defer c) (h : (execOp a.eval o).run P W = .ok .skip W') (k : next (a.put o.dst undef) W') :
    o.wpIn F n P a W next Q := by
  refine ⟨fun f _ => hF.fn f, ?_⟩
  rw [Oper.semAt_eq _ _ _ hnd, h]; exact k

/-- The operation gives a value, and the state that the interpreter says. -/
def Gives (P : Program) (B : Base) (o : Oper) (a : Act) (W : World) (st' : St) : Prop :=
  ∃ w W' I' m', (execOp a.eval o).run P W = .ok (.value w) W' ∧ Sim B W' I' m' st' (aput a.tmps o.dst w)

theorem rel_ev (h : Sim B W I m st a.tmps) (x : Operand) : Rel W I m (ev st.fr x) (a.eval x) := by
  cases x with
  | tmp t =>
    simp only [ev, Act.eval]
    rcases hx : st.fr[t]? with _ | v
    · rw [List.getD_eq_getElem?_getD, hx]; exact .any
    · rw [getD_of_get hx]; exact h.fr t v hx
  | const v => exact rel_const v
  | global g => exact .any
  | func f => exact .fn (by rfl) (by simp)

/-- An operation that only gives a value. -/
theorem gives_put (h : Sim B W I m st a.tmps) {v : V} {w : Value} (hr : Rel W I m v w) (hrun : (execOp a.eval o).run P W = .ok (.value w) W) : Gives P B o a W (st.put o.dst v) :=
  ⟨w, W, I, m, hrun, h.put o.dst hr⟩

/-! ### Kinds of values -/
theorem rel_bool_inv {b : Bool} {w : Value} (h : Rel W I m (.bool b) w) : w = .bool b := by cases h; rfl
theorem rel_int_inv {k : IntKind} {i : Int} {w : Value} (h : Rel W I m (.int k i) w) : w = .int k i := by cases h; rfl
theorem rel_str_inv {s : List UInt8} {w : Value} (h : Rel W I m (.str s) w) : w = .string ⟨s.toArray⟩ := by cases h; rename_i b hb; subst hb; rfl

theorem run_und {t : TypeId} {d : TypeDesc} (h : P.underlying t = some d) : (underlying t).run P W = .ok d W := run_underlying h W

theorem one_of_rel {v : V} {w : Value} (h : Rel W I m v w) (hv : cellsV v = some [v]) : w.oneCell' = true := by
  cases h <;> first | rfl | (simp [cellsV] at hv; done) | skip
  simp only [cellsV, Option.some.injEq] at hv
  have := congrArg SizeOf.sizeOf hv
  simp at this
  omega

theorem cells_one {w : Value} (h : w.oneCell' = true) : w.cells = #[w] := by cases w <;> simp_all [Value.oneCell', Value.cells]

/-- The cells of a value that is stored. -/
theorem rel_cells {v : V} {w : Value} {cs : List V} (h : Rel W I m v w) (hc : cellsV v = some cs) :
    w.cells.size = cs.length ∧ (∀ (j : Nat) (x : V), cs[j]? = some x → (w.cells.getD j undef).oneCell' = true) ∧ ∀ (j : Nat) (x : V), cs[j]? = some x → Rel W I m x (w.cells.getD j undef) := by
  have one : ∀ v : V, cellsV v = some [v] → Rel W I m v w → w.cells.size = [v].length ∧ (∀ (j : Nat) (x : V), [v][j]? = some x → (w.cells.getD j undef).oneCell' = true) ∧ ∀ (j : Nat) (x : V), [v][j]? = some x → Rel W I m x (w.cells.getD j undef) := fun v hv hr => by
    have h1 := one_of_rel hr hv
    rw [cells_one h1]
    refine ⟨rfl, fun j x hx => ?_, fun j x hx => ?_⟩ <;> cases j with
    | zero => simp at hx; subst hx; first | exact h1 | exact hr
    | succ j => simp at hx
  cases v with
  | any => simp [cellsV] at hc
  | tup vs => simp [cellsV] at hc
  | agg vs =>
    simp only [cellsV, Option.some.injEq] at hc
    subst hc
    cases h with
    | agg hl h1 hr => exact ⟨hl, h1, hr⟩
  | _ => simp only [cellsV, Option.some.injEq] at hc; subst hc; exact one _ rfl h

/-! ### Arithmetic -/
theorem toList_eq (s : List UInt8) : (⟨s.toArray⟩ : ByteArray).toList = s := by
  exact ByteArray.toList_mk s

theorem bytesLt_eq (x y : List UInt8) : Op.bytesLess x y = bytesLt x y := by
  induction x generalizing y with
  | nil => cases y <;> rfl
  | cons a x ih => cases y with
    | nil => rfl
    | cons b y => simp [Op.bytesLess, bytesLt, ih]

theorem run_strOp {op : BinOp} {x y : List UInt8} {v : V} (h : strOp op x y = some v) : ∃ w, (Op.stringOp op ⟨x.toArray⟩ ⟨y.toArray⟩).run P W = .ok w W ∧ Rel W I m v w := by
  unfold strOp at h
  unfold Op.stringOp
  simp only [toList_eq, bytesLt_eq]
  split at h <;> try (cases h; done)
  · split at h
    · rename_i hle
      cases h
      have hs : ¬ (((⟨x.toArray⟩ : ByteArray).size + (⟨y.toArray⟩ : ByteArray).size : Nat) : Int) > IntKind.i64.max := by
        have e1 : (⟨x.toArray⟩ : ByteArray).size = x.length := by simp [ByteArray.size]
        have e2 : (⟨y.toArray⟩ : ByteArray).size = y.length := by simp [ByteArray.size]
        rw [e1, e2]
        have : IntKind.i64.max = 9223372036854775807 := by decide
        rw [this]
        simp only [strMax] at hle
        omega
      simp only [hs, if_false]
      exact ⟨_, rfl, .str (by simp [ByteArray.data_append])⟩
    · cases h
  all_goals (cases h; exact ⟨_, rfl, .bool⟩)

theorem run_intOp {op : BinOp} {k : IntKind} {x y : Int} {v : V} (h : intOp op k x y = some v) :
    ∃ w, (match op with | .add | .sub | .mul => Op.intArith op k x y | .quo | .rem => Op.intDiv op k x y | .and | .or | .xor | .andNot => Op.intBits op k x y | _ => Op.intCmp op x y).run P W = .ok w W ∧ Rel W I m v w := by
  unfold intOp at h
  split at h <;> try (cases h; done)
  · cases h; exact ⟨_, rfl, .int⟩
  · cases h; exact ⟨_, rfl, .int⟩
  · cases h; exact ⟨_, rfl, .int⟩
  · split at h
    · cases h
    · rename_i hy; cases h; simp only [Op.intDiv, if_neg hy]; exact ⟨_, rfl, .int⟩
  · split at h
    · cases h
    · rename_i hy; cases h; simp only [Op.intDiv, if_neg hy]; exact ⟨_, rfl, .int⟩
  · cases h; exact ⟨_, rfl, .int⟩
  · cases h; exact ⟨_, rfl, .int⟩
  · cases h; exact ⟨_, rfl, .int⟩
  · cases h; exact ⟨_, rfl, .int⟩
  all_goals (cases h; exact ⟨_, rfl, .bool⟩)

theorem run_shiftOp {op : BinOp} {k : IntKind} {x y : Int} {v : V} (h : shiftOp op k x y = some v) : ∃ w, (∀ yk, (Op.shift op k x yk y).run P W = .ok w W) ∧ Rel W I m v w := by
  unfold shiftOp at h
  split at h
  · cases h
  · rename_i hy
    unfold Op.shift
    simp only [if_neg hy]
    split at h <;> try (cases h; done)
    · cases h; exact ⟨_, fun _ => rfl, .int⟩
    · cases h; exact ⟨_, fun _ => rfl, .int⟩

/-! ### Parts of a row of cells -/
theorem isAgg_run {t : TypeId} {ti : TI} {i : TypeInfo} {d : TypeDesc} {z : Value} (h : TyOk P t ti i d z) : (isAgg t).run P W = .ok ti.k.isAgg W := by
  have hk := h.kind
  simp only [isAgg, Sem.run_bind, run_und h.und, Result.andThen_ok]
  cases hk' : ti.k <;> rw [hk'] at hk <;> cases d <;> simp_all [KOk, K.isAgg]

theorem sizeOf_run {t : TypeId} {ti : TI} {i : TypeInfo} {d : TypeDesc} {z : Value} (h : TyOk P t ti i d z) : (sizeOf t).run P W = .ok ti.size W := by
  simp [sizeOf, typeInfo, h.info, h.size]

theorem getD_arr {a : Array Value} {j : Nat} {v : Value} (h : a[j]? = some v) : a.getD j undef = v := by simp [Array.getD_eq_getD_getElem?, h]
theorem get_of_lt {a : Array Value} {j : Nat} (h : j < a.size) : a[j]? = some (a.getD j undef) := by simp [Array.getD_eq_getD_getElem?, Array.getElem?_eq_getElem h]

/-- A value made of cells that stand for the abstract ones. -/
theorem rel_mk {ti : TI} {cs : List V} {v : V} {f : Nat → Value} (hv : mkV ti.k.isAgg cs = some v) (hl : cs.length = ti.size) (h1 : ∀ (j : Nat) (x : V), cs[j]? = some x → (f j).oneCell' = true)
    (hr : ∀ (j : Nat) (x : V), cs[j]? = some x → Rel W I m x (f j)) : Rel W I m v (if ti.k.isAgg then .agg ((List.range ti.size).map f).toArray else f 0) := by
  unfold mkV at hv
  cases hk : ti.k.isAgg with
  | true =>
    rw [hk] at hv
    simp only [if_true, Option.some.injEq] at hv ⊢
    subst hv
    have e : ∀ (j : Nat) (x : V), cs[j]? = some x → ((List.range ti.size).map f).toArray.getD j undef = f j := fun j x hx => by
      have : j < ti.size := by rw [← hl]; exact (List.getElem?_eq_some_iff.1 hx).1
      exact getD_arr (by simp [this])
    exact .agg (by simp [hl]) (fun j x hx => by rw [e j x hx]; exact h1 j x hx) fun j x hx => by rw [e j x hx]; exact hr j x hx
  | false =>
    rw [hk] at hv
    simp only [Bool.false_eq_true, if_false] at hv ⊢
    split at hv
    · cases hv; exact hr 0 _ rfl
    · cases hv

theorem run_loadVar_f {t : TypeId} {ti : TI} {i : TypeInfo} {d : TypeDesc} {z : Value} (h : TyOk P t ti i d z) {g off : Nat} {f : Nat → Value} {cs : List V} {v : V} (hv : mkV ti.k.isAgg cs = some v) (hl : cs.length = ti.size)
    (hc : ∀ j, j < ti.size → W.cell? ⟨g, off + j, none⟩ = some (f j)) : (loadVar t ⟨g, off, none⟩).run P W = .ok (if ti.k.isAgg then .agg ((List.range ti.size).map f).toArray else f 0) W := by
  unfold loadVar
  simp only [Sem.run_bind, isAgg_run h, Result.andThen_ok]
  cases hk : ti.k.isAgg with
  | true =>
    simp only [if_true, Sem.run_bind, sizeOf_run h, Result.andThen_ok]
    have := run_loadCells_list (P := P) W ⟨g, off, none⟩ ((List.range ti.size).map f) (fun j v hj => by
      simp only [List.getElem?_map, Option.map_eq_some_iff] at hj
      obtain ⟨q, hq, rfl⟩ := hj
      have hq' := List.getElem?_eq_some_iff.1 hq
      obtain ⟨hlt, rfl⟩ := hq'
      have : (⟨g, off, none⟩ : Addr).add j = ⟨g, off + j, none⟩ := by unfold Addr.add; split <;> simp_all
      rw [this]
      simp only [List.getElem_range]
      exact hc j (by simpa using hlt))
    simp only [List.length_map, List.length_range] at this
    rw [this]
    rfl
  | false =>
    rw [hk] at hv
    simp only [Bool.false_eq_true, if_false]
    have : 0 < ti.size := by
      unfold mkV at hv
      simp only [Bool.false_eq_true, if_false] at hv
      split at hv
      · rw [← hl]; simp
      · cases hv
    have := hc 0 this
    simp only [Nat.add_zero] at this
    simp [run_load, this]

theorem run_part_f {t : TypeId} {ti : TI} {i : TypeInfo} {d : TypeDesc} {z : Value} (h : TyOk P t ti i d z) {arr : Array Value} {off : Nat} {cs : List V} {v : V} (hv : mkV ti.k.isAgg cs = some v) (hl : cs.length = ti.size)
    (hsz : off + ti.size ≤ arr.size) : (part t arr off).run P W = .ok (if ti.k.isAgg then .agg ((List.range ti.size).map fun j => arr.getD (off + j) undef).toArray else arr.getD (off + 0) undef) W := by
  unfold part
  simp only [Sem.run_bind, isAgg_run h, Result.andThen_ok]
  cases hk : ti.k.isAgg with
  | true =>
    simp only [if_true, Sem.run_bind, sizeOf_run h, Result.andThen_ok, Sem.run_pure]
    congr 2
    refine Array.ext (by simp; omega) fun j h1 h2 => ?_
    simp only [Array.size_extract] at h1
    simp only [List.getElem_toArray, List.getElem_map, List.getElem_range, Array.getElem_extract]
    exact (getD_arr (Array.getElem?_eq_getElem (by omega))).symm
  | false =>
    rw [hk] at hv
    have : 0 < ti.size := by
      unfold mkV at hv
      simp only [Bool.false_eq_true, if_false] at hv
      split at hv
      · rw [← hl]; simp
      · cases hv
    simp only [Bool.false_eq_true, if_false]
    rw [get_of_lt (by omega)]
    rfl

theorem take_drop_get {cs : List V} {off sz j : Nat} {x : V} (h : ((cs.drop off).take sz)[j]? = some x) : j < sz ∧ cs[off + j]? = some x := by
  rw [List.getElem?_take] at h
  split at h
  · rw [List.getElem?_drop] at h; exact ⟨by assumption, h⟩
  · cases h

/-! ### Equality -/
theorem eqT_sim (hok : cfg.Ok P) : ∀ (d D : Nat) (t : TypeId) (x y : V) (b : Bool) (vx vy : Value), d ≤ D → eqT cfg d t x y = some b → Rel W I m x vx → Rel W I m y vy → (Op.equalIn D t vx vy).run P W = .ok b W := by
  intro d
  induction d with
  | zero => intro D t x y b vx vy _ h; simp [eqT] at h
  | succ d ih =>
    intro D t x y b vx vy hD h hx hy
    obtain ⟨D, rfl⟩ : ∃ D', D = D' + 1 := ⟨D - 1, by omega⟩
    have hfs : ∀ (fs : List (Nat × TypeId)) (fields : List Field) (xs ys : List V) (ax ay : Array Value) (b : Bool), fs = fields.map (fun f => (f.offset, f.type)) → (∀ f ∈ fields, (f.name == "_") = false) →
        eqFs cfg (eqT cfg d) fs xs ys = some b → Rel W I m (.agg xs) (.agg ax) → Rel W I m (.agg ys) (.agg ay) → (Op.eqFields D ax ay fields).run P W = .ok b W := by
      intro fs fields
      induction fields generalizing fs with
      | nil => intro xs ys ax ay b hfs _ h _ _; subst hfs; simp [eqFs] at h; subst h; simp [Op.eqFields]
      | cons f r ihf =>
        intro xs ys ax ay b hfs hn h hx hy
        subst hfs
        simp only [List.map_cons, eqFs] at h
        split at h
        · cases h
        · rename_i ti hti
          obtain ⟨i, dd, z, hT⟩ := hok.ty _ _ hti
          split at h
          · rename_i hle
            split at h
            · rename_i va vb hva hvb
              cases hx with
              | agg hlx h1x hrx =>
                cases hy with
                | agg hly h1y hry =>
                  have part_of : ∀ (cs : List V) (arr : Array Value) (v : V), arr.size = cs.length → (∀ (j : Nat) (x : V), cs[j]? = some x → (arr.getD j undef).oneCell' = true) → (∀ (j : Nat) (x : V), cs[j]? = some x → Rel W I m x (arr.getD j undef)) →
                      mkV ti.k.isAgg ((cs.drop f.offset).take ti.size) = some v → f.offset + ti.size ≤ cs.length → ∃ w, (part f.type arr f.offset).run P W = .ok w W ∧ Rel W I m v w := fun cs arr v hl h1 hr hv hle => by
                    have hl' : ((cs.drop f.offset).take ti.size).length = ti.size := by simp; omega
                    refine ⟨_, run_part_f hT hv hl' (by omega), ?_⟩
                    exact rel_mk (W := W) (I := I) (m := m) (f := fun j => arr.getD (f.offset + j) undef) hv hl' (fun j x hx => h1 _ x (take_drop_get hx).2) fun j x hx => hr _ x (take_drop_get hx).2
                  obtain ⟨wa, hwa, hra⟩ := part_of xs _ va hlx h1x hrx hva hle.1
                  obtain ⟨wb, hwb, hrb⟩ := part_of ys _ vb hly h1y hry hvb hle.2
                  have hn0 : f.name ≠ "_" := by have := hn f (by simp); simpa using this
                  split at h
                  · rename_i e heq
                    split at h
                    · rename_i e' heq'
                      simp only [Option.some.injEq] at h
                      subst h
                      have e1 := ih D f.type va vb e wa wb (by omega) heq hra hrb
                      have e2 := ihf _ xs ys _ _ e' rfl (fun f hf => hn f (by simp [hf])) heq' (.agg hlx h1x hrx) (.agg hly h1y hry)
                      rw [Op.eqFields]
                      simp only [if_pos hn0, Sem.run_bind, hwa, hwb, e1, Result.andThen_ok]
                      cases e
                      · simp
                      · simpa using e2
                    · cases h
                  · cases h
            · cases h
          · cases h
    rw [eqT.eq_def] at h
    simp only at h
    have kind : ∀ k, (cfg.ty t).map TI.k = some k → ∃ dd, P.underlying t = some dd ∧ KOk P t k dd := fun k hk => by
      obtain ⟨ti, hti, rfl⟩ := Option.map_eq_some_iff.1 hk
      obtain ⟨i, dd, z, hT⟩ := hok.ty _ _ hti
      exact ⟨dd, hT.und, hT.kind⟩
    split at h <;> try (cases h; done)
    · rename_i hk
      obtain ⟨dd, hu, hd⟩ := kind _ hk
      rw [rel_bool_inv hx, rel_bool_inv hy]
      cases dd <;> simp [KOk] at hd
      cases h
      simp [Op.equalIn, run_und hu]
    · rename_i hk
      obtain ⟨dd, hu, hd⟩ := kind _ hk
      rw [rel_int_inv hx, rel_int_inv hy]
      cases dd <;> simp [KOk] at hd
      split at h
      · rename_i hkk
        cases h
        simp [Op.equalIn, run_und hu, hkk]
      · cases h
    · rename_i hk
      obtain ⟨dd, hu, hd⟩ := kind _ hk
      rw [rel_str_inv hx, rel_str_inv hy]
      cases dd <;> simp [KOk] at hd
      cases h
      simp only [Op.equalIn, Sem.run_bind, run_und hu, Result.andThen_ok, Sem.run_pure, beq_toListBytes, toList_eq]
    · rename_i hk
      obtain ⟨dd, hu, hd⟩ := kind _ hk
      cases hx; cases hy
      cases dd <;> simp [KOk] at hd
      cases h
      simp [Op.equalIn, run_und hu]
    · rename_i hk
      obtain ⟨dd, hu, hd⟩ := kind _ hk
      cases hx; cases hy
      cases dd <;> simp [KOk] at hd
      cases h
      simp [Op.equalIn, run_und hu]
    · rename_i hk
      obtain ⟨dd, hu, hd⟩ := kind _ hk
      cases hx; cases hy
      cases dd <;> simp [KOk] at hd
      cases h
      simp [Op.equalIn, run_und hu]
    · rename_i hk
      obtain ⟨dd, hu, hd⟩ := kind _ hk
      cases hx; cases hy
      cases dd <;> simp [KOk] at hd
      cases h
      simp [Op.equalIn, run_und hu]
    · rename_i hk
      obtain ⟨dd, hu, hd⟩ := kind _ hk
      cases hx; cases hy
      cases dd <;> simp [KOk] at hd
      cases h
      simp [Op.equalIn, run_und hu]
    · rename_i hk
      obtain ⟨dd, hu, hd⟩ := kind _ hk
      split at h
      · rename_i hc
        cases h
        obtain ⟨rfl, rfl, hs⟩ := hc
        obtain ⟨te, hte⟩ := Option.isSome_iff_exists.1 hs
        obtain ⟨ie, de, ze, Te⟩ := hok.ty _ _ hte
        cases hx with
        | ptr h1 =>
          cases hy with
          | ptr h2 =>
            rw [h1] at h2; cases h2
            cases dd <;> simp [KOk] at hd
            subst hd
            simp [Op.equalIn, run_und hu, sizeOf_run Te, run_sameAddr_same]
      · cases h
    · rename_i hk
      obtain ⟨dd, hu, hd⟩ := kind _ hk
      cases hx; cases hy
      cases dd <;> simp [KOk] at hd
      cases h
      simp [Op.equalIn, run_und hu]
    · rename_i hk
      obtain ⟨dd, hu, hd⟩ := kind _ hk
      cases hx; cases hy
      cases dd <;> simp [KOk] at hd
      cases h
      simp [Op.equalIn, run_und hu]
    · rename_i hk
      obtain ⟨dd, hu, hd⟩ := kind _ hk
      cases hx; cases hy
      cases dd <;> simp [KOk] at hd
      cases h
      simp [Op.equalIn, run_und hu]
    · rename_i hk
      obtain ⟨dd, hu, hd⟩ := kind _ hk
      cases hx; cases hy
      cases dd <;> simp [KOk] at hd
      cases h
      simp [Op.equalIn, run_und hu]
    · rename_i hk
      obtain ⟨dd, hu, hd⟩ := kind _ hk
      cases hx; cases hy
      cases dd <;> simp [KOk] at hd
      cases h
      simp [Op.equalIn, run_und hu]
    · rename_i hk
      obtain ⟨dd, hu, hd⟩ := kind _ hk
      cases hx; cases hy
      cases dd <;> simp [KOk] at hd
      cases h
      simp [Op.equalIn, run_und hu]
    · rename_i fs xs ys hk
      obtain ⟨dd, hu, hd⟩ := kind _ hk
      cases hx with
      | agg hlx h1x hrx =>
        cases hy with
        | agg hly h1y hry =>
          cases dd <;> simp only [KOk] at hd
          rename_i fields
          obtain ⟨hfs', hd⟩ := hd
          obtain ⟨hn, hp, _⟩ := hd trivial
          have hf : P.fieldsOf t = fields := by simp [Program.fieldsOf, hu]
          rw [run_equalIn_struct (P := P) W D t _ _ (by rw [hf]; exact hu) hp, hf]
          exact hfs fs fields.toList xs ys _ _ b hfs' hn h (.agg hlx h1x hrx) (.agg hly h1y hry)

theorem run_eqGuard {op : BinOp} {t : TypeId} {x y : Operand} {va vb : Value} (h1 : va ≠ .nilIface) (h2 : (∃ xs ys, va = .agg xs ∧ vb = .agg ys) → P.eqGuardType P.depth t = false) :
    (eqGuard op t x y va vb).run P W = .ok () W := by
  cases op <;> simp only [eqGuard, Bool.not_true, Bool.not_false, if_true, if_false, Bool.false_eq_true] <;> first
    | rfl
    | (split
       · exact absurd rfl h1
       · simp [h2 ⟨_, _, rfl, rfl⟩]
       · rfl)

theorem rel_not_nilIface {v : V} {w : Value} (h : Rel W I m v w) (hv : v ≠ .any) : w ≠ .nilIface := by
  cases h <;> first | (exact absurd rfl hv) | (intro e; cases e)

theorem eqT_shape {t : TypeId} {x y : V} {b : Bool} (h : eqT cfg 20 t x y = some b) : x ≠ .any ∧ y ≠ .any ∧ ((∃ xs, x = .agg xs) → ∃ fs, (cfg.ty t).map TI.k = some (.struct true fs)) := by
  rw [eqT.eq_def] at h
  simp only at h
  split at h <;> first | (cases h; done) | (refine ⟨by simp, by simp, fun ⟨xs, e⟩ => ?_⟩; first | (cases e; done) | exact ⟨_, by assumption⟩)

theorem eqT_run (hok : cfg.Ok P) {op : BinOp} {t : TypeId} {X Y : Operand} {x y : V} {b : Bool} {vx vy : Value} (h : eqT cfg 20 t x y = some b) (hx : Rel W I m x vx) (hy : Rel W I m y vy) :
    (eqGuard op t X Y vx vy).run P W = .ok () W ∧ (Op.equal t vx vy).run P W = .ok b W := by
  obtain ⟨h1, _, h2⟩ := eqT_shape h
  refine ⟨run_eqGuard (rel_not_nilIface hx h1) ?_, eqT_sim hok 20 Op.maxDepth t x y b vx vy (by decide) h hx hy⟩
  rintro ⟨xs, ys, rfl, rfl⟩
  have : ∃ xs, x = .agg xs := by cases hx with
    | any => exact absurd rfl h1
    | agg => exact ⟨_, rfl⟩
  obtain ⟨fs, hk⟩ := h2 this
  obtain ⟨ti, hti, hk'⟩ := Option.map_eq_some_iff.1 hk
  obtain ⟨i, dd, z, hT⟩ := hok.ty _ _ hti
  have := hT.kind
  rw [hk'] at this
  cases dd <;> simp only [KOk] at this
  exact (this.2 trivial).2.2

theorem run_binOpV (hok : cfg.Ok P) {op : BinOp} {t : TypeId} {X Y : Operand} {x y v : V} {vx vy : Value} (h : binOpV cfg op t x y = some v) (hx : Rel W I m x vx) (hy : Rel W I m y vy) :
    ∃ w, (do eqGuard op t X Y vx vy; binOp op t vx vy : Sem Value).run P W = .ok w W ∧ Rel W I m v w := by
  unfold binOpV at h
  split at h
  · rw [rel_int_inv hx, rel_int_inv hy]
    obtain ⟨w, hw, hr⟩ := run_shiftOp (P := P) (W := W) (I := I) (m := m) h
    exact ⟨w, by simp [eqGuard, binOp, hw], hr⟩
  · rw [rel_int_inv hx, rel_int_inv hy]
    obtain ⟨w, hw, hr⟩ := run_shiftOp (P := P) (W := W) (I := I) (m := m) h
    exact ⟨w, by simp [eqGuard, binOp, hw], hr⟩
  · rw [rel_int_inv hx, rel_int_inv hy]
    split at h
    · rename_i hk
      subst hk
      obtain ⟨w, hw, hr⟩ := run_intOp (P := P) (W := W) (I := I) (m := m) h
      refine ⟨w, ?_, hr⟩
      have hg : ∀ (op' : BinOp) (k k' : IntKind) (a b : Int), (eqGuard op' t X Y (.int k a) (.int k' b)).run P W = .ok () W := fun op' k k' a b => run_eqGuard (by simp) (by rintro ⟨_, _, e, _⟩; cases e)
      simp only [Sem.run_bind, hg, Result.andThen_ok]
      cases op <;> simp_all [binOp, intOp]
    · cases h
  · rw [rel_str_inv hx, rel_str_inv hy]
    obtain ⟨w, hw, hr⟩ := run_strOp (P := P) (W := W) (I := I) (m := m) h
    refine ⟨w, ?_, hr⟩
    have hg : ∀ (op' : BinOp) (a b : ByteArray), (eqGuard op' t X Y (.string a) (.string b)).run P W = .ok () W := fun op' a b => run_eqGuard (by simp) (by rintro ⟨_, _, e, _⟩; cases e)
    simp only [Sem.run_bind, hg, Result.andThen_ok]
    cases op <;> simpa [binOp] using hw
  · rename_i hni hns
    obtain ⟨b, hb, rfl⟩ := Option.map_eq_some_iff.1 h
    obtain ⟨h1, h2⟩ := eqT_run (X := X) (Y := Y) (op := .eql) hok hb hx hy
    refine ⟨.bool b, ?_, .bool⟩
    simp only [Sem.run_bind, h1, Result.andThen_ok]
    have hx0 := (eqT_shape hb).1
    have hy0 := (eqT_shape hb).2.1
    cases hx <;> first | (exact absurd rfl hx0) | skip
    all_goals cases hy <;> first | (exact absurd rfl hy0) | (simp [binOp, h2]; done) | (exact absurd rfl (hni _ _ _ _ rfl)) | (exact absurd rfl (hns _ _ rfl)) | skip
  · rename_i hni hns
    obtain ⟨b, hb, rfl⟩ := Option.map_eq_some_iff.1 h
    obtain ⟨h1, h2⟩ := eqT_run (X := X) (Y := Y) (op := .neq) hok hb hx hy
    refine ⟨.bool !b, ?_, .bool⟩
    simp only [Sem.run_bind, h1, Result.andThen_ok]
    have hx0 := (eqT_shape hb).1
    have hy0 := (eqT_shape hb).2.1
    cases hx <;> first | (exact absurd rfl hx0) | skip
    all_goals cases hy <;> first | (exact absurd rfl hy0) | (simp [binOp, h2]; done) | (exact absurd rfl (hni _ _ _ _ rfl)) | (exact absurd rfl (hns _ _ rfl)) | skip
  · cases h

end Go.Abs
