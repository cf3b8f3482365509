/- New variables, slice literals, stores, conversions: what the interpreter says of them is what the model does. -/
import Derived.Test.YtpjolollnhfciaaAbsOps5
set_option linter.all false
namespace Go.Abs
open Go.Lib
variable [BT] {F : Fence} {n : Nat} {P : Program} {cfg : Cfg} {B : Base} {W : World} {I : Nat → Nat → Prop} {m : List (Option Nat)} {st st' : St} {a : Act} {o : Oper} {tmps : Array Value}

theorem alloc_old {o : Obj} {g : Nat} (hg : g < W.heap.size) : (W.alloc o).heap[g]? = W.heap[g]? := by
  simp only [World.alloc, Array.getElem?_push]; rw [if_neg (by omega)]

/-- A new row that is never written again. -/
theorem Sim.newRow (h : Sim B W I m st tmps) (arr : Array Value) (e : TypeId) (fr : Nat × Nat) {W1 : World} (h1 : W1.heap = W.heap) (h2 : W1.os = W.os) (h3 : W1.tape = W.tape) (h4 : W1.output = W.output) (k : Nat) (hk : k ≤ arr.size) :
    Sim B (W1.alloc (.cells arr e fr)) (fun g q => I g q ∨ (g = W.heap.size ∧ q < k)) m st tmps ∧ KeepI I W (W1.alloc (.cells arr e fr)) := by
  have hs : W1.heap.size = W.heap.size := by rw [h1]
  have hold : ∀ g, g < W.heap.size → (W1.alloc (.cells arr e fr)).heap[g]? = W.heap[g]? := fun g hg => by rw [alloc_old (by omega), h1]
  have hnew : (W1.alloc (.cells arr e fr)).heap[W.heap.size]? = some (.cells arr e fr) := by rw [← hs]; exact heap_alloc_new W1 _
  refine ⟨h.world h2 h3 h4 (by simp; omega) hold (fun _ _ hi => .inl hi) (fun g q hi => hi.imp id fun hi => by omega) fun g q hi => ?_, fun g q hi => cell_same (hold g (h.ilt hi))⟩
  rcases hi with hi | ⟨rfl, hlt⟩
  · obtain ⟨v, hv⟩ := h.live g q hi
    exact ⟨v, (cell_same (hold g (lt_of_cell hv))).trans hv⟩
  · rw [cell_of_blk hnew]; exact ⟨_, Array.getElem?_eq_getElem (by omega)⟩

theorem rowsOf_get : ∀ (len size : Nat) (cs : List V) (i : Nat) (row : List V), (rowsOf size len cs)[i]? = some row → i < len ∧ row = (cs.drop (i * size)).take size
  | 0, size, cs, i, row, h => by simp [rowsOf] at h
  | len + 1, size, cs, i, row, h => by
    cases i with
    | zero => simp [rowsOf] at h; exact ⟨by omega, by simp [h]⟩
    | succ i =>
      simp only [rowsOf, List.getElem?_cons_succ] at h
      obtain ⟨h1, h2⟩ := rowsOf_get len size _ i row h
      refine ⟨by omega, ?_⟩
      rw [h2, List.drop_drop]
      congr 2
      rw [Nat.succ_mul]; omega
theorem rowsOf_length (size : Nat) : ∀ (len : Nat) (cs : List V), (rowsOf size len cs).length = len
  | 0, _ => rfl
  | len + 1, cs => by simp [rowsOf, rowsOf_length size len]

/-- Rows cut out of a row of cells. -/
theorem rel_rows {W' : World} {I' : Nat → Nat → Prop} {cs : List V} {arr : Array Value} {g len size c : Nat} {e : TypeId} {fr : Nat × Nat} (hr : RowRel W I m cs arr) (hI : ∀ g o, I g o → I' g o) (hk : KeepI I W W') (hl : cs.length = len * size)
    (hw : W'.heap[g]? = some (.cells arr e fr)) (hIn : ∀ q : Nat, q < len * size → I' g q) (hc : len ≤ c) : Rel W' I' m (.sl (V.ltl 0 cs) (rowsOf size len cs)) (.slice (some ⟨g, 0, none⟩) len c) := by
  have hget : ∀ {i j : Nat} {row : List V} {x : V}, (rowsOf size len cs)[i]? = some row → row[j]? = some x → i < len ∧ j < size ∧ cs[i * size + j]? = some x := fun {i j row x} h1 h2 => by
    obtain ⟨k1, rfl⟩ := rowsOf_get _ _ _ _ _ h1
    obtain ⟨k2, k3⟩ := take_drop_get h2
    exact ⟨k1, k2, k3⟩
  refine .sl (g := g) (o := 0) (sz := size) (f := fun i j => arr.getD (i * size + j) undef) (rowsOf_length _ _ _).symm hc (fun _ => rfl) (fun i row h => ?_) (fun i row j x h1 h2 => ?_) fun i row j x h1 h2 => ?_
  · obtain ⟨k1, rfl⟩ := rowsOf_get _ _ _ _ _ h
    have : (i + 1) * size ≤ len * size := Nat.mul_le_mul_right _ k1
    rw [Nat.succ_mul] at this
    simp; omega
  · obtain ⟨k1, k2, k3⟩ := hget h1 h2
    have hlt := row_lt k1 k2
    refine ⟨by rw [Nat.zero_add]; exact hIn _ hlt, ?_, hr.2.1 _ x k3⟩
    rw [Nat.zero_add, cell_of_blk hw]
    exact get_of_lt (by rw [hr.1, hl]; exact hlt)
  · obtain ⟨k1, k2, k3⟩ := hget h1 h2
    have := (hr.2.2 _ x k3).mono hI hk (List.prefix_refl _)
    cases hd : V.ltl 0 cs with
    | true => exact this.pure (ltl_get hd k3)
    | false => simpa using this

theorem reps_get {z : List V} : ∀ (n j : Nat) (x : V), (reps n z)[j]? = some x → z[j % z.length]? = some x ∧ j < n * z.length
  | 0, j, x, h => by simp [reps] at h
  | n + 1, j, x, h => by
    have e : reps (n + 1) z = z ++ reps n z := by simp [reps, List.replicate_succ]
    rw [e] at h
    by_cases hj : j < z.length
    · rw [List.getElem?_append_left hj] at h
      exact ⟨by rw [Nat.mod_eq_of_lt hj]; exact h, by rw [Nat.succ_mul]; omega⟩
    · rw [List.getElem?_append_right (by omega)] at h
      obtain ⟨h1, h2⟩ := reps_get n _ x h
      refine ⟨?_, by rw [Nat.succ_mul]; omega⟩
      rw [Nat.mod_eq_sub_mod (by omega)]
      exact h1
theorem reps_length {z : List V} (n : Nat) : (reps n z).length = n * z.length := by simp [reps]

theorem rowRel_reps {z : List V} {zs : Array Value} (h : RowRel W I m z zs) (n : Nat) : RowRel W I m (reps n z) ((Array.range (n * z.length)).map (zs[· % zs.size]!)) := by
  have hget : ∀ (j : Nat) (x : V), (reps n z)[j]? = some x → ((Array.range (n * z.length)).map (zs[· % zs.size]!)).getD j undef = zs.getD (j % z.length) undef := fun j x hx => by
    obtain ⟨h1, h2⟩ := reps_get n j x hx
    have hlt : j % z.length < zs.size := by rw [h.1]; exact (List.getElem?_eq_some_iff.1 h1).1
    have : ((Array.range (n * z.length)).map (zs[· % zs.size]!))[j]? = some (zs[j % zs.size]!) := by simp [h2]
    rw [getD_arr this, h.1]
    rw [getElem!_pos zs _ hlt]
    exact (getD_arr (Array.getElem?_eq_getElem hlt)).symm
  refine ⟨by simp [reps_length], fun j x hx => ?_, fun j x hx => ?_⟩
  · rw [hget j x hx]; exact h.2.1 _ x (reps_get n j x hx).1
  · rw [hget j x hx]; exact h.2.2 _ x (reps_get n j x hx).1

theorem fillV_length {place : Nat → Option (Nat × Nat)} : ∀ (parts : List (Nat × V)) (cells out : List V), fillV place cells parts = some out → out.length = cells.length
  | [], cells, out, h => by simp [fillV] at h; rw [h]
  | (i, v) :: r, cells, out, h => by
    simp only [fillV] at h
    split at h
    · cases h
    · split at h
      · cases h
      · split at h
        · rename_i hle
          rw [fillV_length r _ out h]
          obtain ⟨h1, h2⟩ := hle
          subst h1
          exact splice_length h2
        · cases h

theorem run_buildSliceV (hok : cfg.Ok P) (h : Sim B W I m st a.tmps) {t : TypeId} {len : Nat} {parts : Array (Nat × Operand)} {v : V} (hv : buildSliceV cfg t len (parts.toList.map fun (p : Nat × Operand) => (p.1, ev st.fr p.2)) = some v) :
    ∃ w W' I', (Instr.buildSlice t len (parts.map fun (p : Nat × Operand) => (p.1, a.eval p.2))).run P W = .ok w W' ∧ Sim B W' I' m st a.tmps ∧ Rel W' I' m v w := by
  obtain ⟨hl, hpq⟩ := parts_rel h parts
  unfold buildSliceV at hv
  split at hv
  · rename_i e hk
    obtain ⟨d, hu, hkd⟩ := hok.kind hk
    have := kok_slice hkd; subst this
    split at hv
    · rename_i f hf
      obtain ⟨i', d', z, T⟩ := hok.ty _ _ hf
      split at hv
      · cases hv
      · rename_i hno
        split at hv
        · rename_i cs hcs
          cases hv
          have hz : (zeroValue e).run P W = .ok z W := by simp [zeroValue, typeInfo, T.info, T.zero]
          have hzl : f.zero.length = f.size := by rw [← T.zsize, T.zeq]; simp
          have hrow := rowRel_reps (rowRel_zero (W := W) (I := I) (m := m) T) len
          rw [hzl] at hrow
          obtain ⟨arr', h1, h2⟩ := fill_sim (W := W) (I := I) (m := m) (place' := fun i => some (i * f.size, f.size)) (fun i => .inl rfl) _ _ _ _ _ hcs hl hpq hrow
          have hcl : cs.length = len * f.size := by rw [fillV_length _ _ _ hcs, reps_length, hzl]
          have hal : arr'.size = len * f.size := by rw [h2.1, hcl]
          obtain ⟨hS, hK⟩ := h.newRow arr' e (0, 0) (W1 := W) rfl rfl rfl rfl (len * f.size) (by omega)
          have hnew : (W.alloc (.cells arr' e)).heap[W.heap.size]? = some (.cells arr' e (0, 0)) := heap_alloc_new W _
          refine ⟨.slice (some ⟨W.heap.size, 0, none⟩) len len, _, _, ?_, hS, rel_rows h2 (fun _ _ hi => .inl hi) hK hcl hnew (fun q hq => .inr ⟨rfl, hq⟩) (Nat.le_refl _)⟩
          have hbig : ¬ (2 ^ 24 < len * f.size) := by omega
          have h1' : Instr.fill (fun i => some (i * f.size, f.size)) ((Array.range (len * f.size)).map (z.cells[· % z.cells.size]!)) (parts.map fun (p : Nat × Operand) => (p.1, a.eval p.2)).toList = some arr' := h1
          by_cases hz0 : len * f.size = 0
          · have e0 : ((Array.range (len * f.size)).map (z.cells[· % z.cells.size]!)) = #[] := by rw [hz0]; simp
            rw [e0] at h1'
            simp only [Instr.buildSlice, Sem.run_bind, run_und hu, Result.andThen_ok, sizeOf_run T]
            rw [Sem.run_ite, if_neg (by simpa using hbig)]
            simp only [hz0, if_true, Sem.run_bind, Sem.run_pure, Result.andThen_ok]
            have e1 : ((Array.range 0).map ((#[] : Array Value)[· % (#[] : Array Value).size]!)) = #[] := by simp
            simp only [e1, h1', Go.newRow, Sem.run_bind, run_newObj, Result.andThen_ok, Sem.run_pure]
            rfl
          · simp only [Instr.buildSlice, Sem.run_bind, run_und hu, Result.andThen_ok, sizeOf_run T]
            rw [Sem.run_ite, if_neg (by simpa using hbig)]
            simp only [hz0, if_false, Sem.run_bind, hz, Result.andThen_ok, Sem.run_pure, h1', Go.newRow, run_newObj]
            rfl
        · cases hv
    · cases hv
  · cases hv

theorem nilOffs_get : ∀ (l : List V) (k off : Nat), off ∈ nilOffs k l → k ≤ off ∧ ∃ d xs, l[off - k]? = some (.sl d xs)
  | [], k, off, h => by simp [nilOffs] at h
  | v :: r, k, off, h => by
    unfold nilOffs at h
    split at h
    · rename_i hv
      rcases List.mem_cons.1 h with rfl | h
      · refine ⟨Nat.le_refl _, ?_⟩
        cases v with
        | sl d xs => exact ⟨d, xs, by simp⟩
        | _ => simp [isSl] at hv
      · obtain ⟨h1, d, xs, h2⟩ := nilOffs_get r (k + 1) off h
        refine ⟨by omega, d, xs, ?_⟩
        rw [show off - k = (off - (k + 1)) + 1 by omega]; simpa using h2
    · obtain ⟨h1, d, xs, h2⟩ := nilOffs_get r (k + 1) off h
      refine ⟨by omega, d, xs, ?_⟩
      rw [show off - k = (off - (k + 1)) + 1 by omega]; simpa using h2

theorem ofConst_sl {w : Value} {d : Bool} {xs : List (List V)} (h : ofConst w = .sl d xs) : w = .slice none 0 0 ∧ xs = [] := by
  unfold ofConst at h
  split at h <;> first | (cases h; done) | (cases h; exact ⟨rfl, rfl⟩)

theorem pushBlk_sim {arr : Array Value} {t : TypeId} {ow : List Nat} {cs : List V} (h : Sim B W I m st tmps) (hr : RowRel W I m cs arr) (hz : ∀ (j : Nat) (d : Bool) (xs : List (List V)), j ∈ ow → cs[j]? = some (.sl d xs) → ∃ a, arr.getD j undef = .slice a xs.length 0) (d : Option Tmp) :
    Sim B (W.alloc (.cells arr t)) I (m ++ [some W.heap.size]) (pushBlk st d (.cells t ow cs)) (aput tmps d (.pointer (some ⟨W.heap.size, 0, none⟩))) := by
  have h1 := h.push ow cs arr t hr.1 hr.2.1 hr.2.2 hz
  have h2 : Rel (W.alloc (.cells arr t)) I (m ++ [some W.heap.size]) (.ptr st.hp.length 0) (.pointer (some ⟨W.heap.size, 0, none⟩)) := .ptr (by rw [← h.mlen, List.getElem?_append_right (Nat.le_refl _)]; simp)
  exact h1.put d h2

theorem alloc_sim (hok : cfg.Ok P) (h : Sim B W I m st a.tmps) {t : TypeId} {ti : TI} (hti : cfg.ty t = some ti) : ∃ w W' I' m', (Instr.alloc t true (.tuple #[])).run P W = .ok w W' ∧ Sim B W' I' m' (pushBlk st o.dst (.cells t (nilOffs 0 ti.zero) ti.zero)) (aput a.tmps o.dst w) := by
  obtain ⟨i, d, z, T⟩ := hok.ty _ _ hti
  have hz : (zeroValue t).run P W = .ok z W := by simp [zeroValue, typeInfo, T.info, T.zero]
  refine ⟨_, _, _, _, ?_, pushBlk_sim (t := t) h (rowRel_zero T) (fun j d xs hj hx => ?_) o.dst⟩
  · simp only [Instr.alloc, Sem.run_bind, hz, Result.andThen_ok, newVar, Go.newRow, run_newObj, Sem.run_pure]
    rfl
  · rw [T.zeq] at hx
    simp only [List.getElem?_map, Option.map_eq_some_iff, Array.getElem?_toList] at hx
    obtain ⟨w, h1, h2⟩ := hx
    obtain ⟨rfl, rfl⟩ := ofConst_sl h2
    exact ⟨none, getD_arr h1⟩

theorem box_sim (h : Sim B W I m st a.tmps) {t : TypeId} {x : Operand} {cs : List V} (hc : cellsV (ev st.fr x) = some cs) : ∃ w W' I' m', (Instr.box t (a.eval x)).run P W = .ok w W' ∧ Sim B W' I' m' (pushBlk st o.dst (.cells t [] cs)) (aput a.tmps o.dst w) := by
  refine ⟨_, _, _, _, ?_, pushBlk_sim (t := t) h (rel_cells (rel_ev h x) hc) (fun j d xs hj => by cases hj) o.dst⟩
  simp only [Instr.box, newVar, Go.newRow, Sem.run_bind, run_newObj, Result.andThen_ok, Sem.run_pure]
  rfl

/-- A part of a row is laid over, as storing does it. -/
theorem rowRel_splice2 {cells cs : List V} {arr : Array Value} {w : Value} {off : Nat} (hr : RowRel W I m cells arr) (hw : RowRel W I m cs w.cells) (hle : off + cs.length ≤ cells.length) :
    RowRel W I m (cells.take off ++ cs ++ cells.drop (off + cs.length)) (arr.toList.take off ++ w.cells.toList ++ arr.toList.drop (off + w.cells.toList.length)).toArray := by
  have hwl : w.cells.toList.length = cs.length := by simp [hw.1]
  rw [hwl]
  have hL0 : (arr.toList.take off ++ w.cells.toList ++ arr.toList.drop (off + cs.length)).length = cells.length := by
    have := splice_length (cells := arr.toList) (cs := w.cells.toList) (off := off) (by simp [hw.1, hr.1]; omega)
    rw [hwl] at this
    rw [this]; simp [hr.1]
  obtain ⟨L, hL⟩ : ∃ L, L = arr.toList.take off ++ w.cells.toList ++ arr.toList.drop (off + cs.length) := ⟨_, rfl⟩
  rw [← hL] at hL0 ⊢
  have hget : ∀ j, j < cells.length → L.toArray.getD j undef = if off ≤ j ∧ j < off + cs.length then w.cells.getD (j - off) undef else arr.getD j undef := fun j hj => by
    have hx := List.getElem?_eq_getElem (show j < L.length by omega)
    rw [getD_arr (show L.toArray[j]? = some _ by rw [List.getElem?_toArray]; exact hx)]
    have := splice_get (cells := arr.toList) (cs := w.cells.toList) (off := off) (j := j) (x := L[j]'(by omega)) (by simp [hw.1, hr.1]; omega) (by rw [hwl, ← hL]; exact hx)
    rw [hwl] at this
    split at this
    · rename_i hh; rw [if_pos hh]; exact (getD_arr (by simpa using this)).symm
    · rename_i hh; rw [if_neg hh]; exact (getD_arr (by simpa using this)).symm
  have hlt : ∀ {j : Nat} {x : V}, (cells.take off ++ cs ++ cells.drop (off + cs.length))[j]? = some x → j < cells.length := fun hx => by
    have := (List.getElem?_eq_some_iff.1 hx).1
    rwa [splice_length hle] at this
  refine ⟨by rw [List.size_toArray, hL0, splice_length hle], fun j x hx => ?_, fun j x hx => ?_⟩
  · have := splice_get hle hx
    rw [hget j (hlt hx)]
    split at this
    · rename_i hh; rw [if_pos hh]; exact hw.2.1 _ _ this
    · rename_i hh; rw [if_neg hh]; exact hr.2.1 _ _ this
  · have := splice_get hle hx
    rw [hget j (hlt hx)]
    split at this
    · rename_i hh; rw [if_pos hh]; exact hw.2.2 _ _ this
    · rename_i hh; rw [if_neg hh]; exact hr.2.2 _ _ this

theorem splice_out {α : Type} {cells cs : List α} {off j : Nat} {x : α} (hle : off + cs.length ≤ cells.length) (hout : j < off ∨ off + cs.length ≤ j) (h : cells[j]? = some x) : (cells.take off ++ cs ++ cells.drop (off + cs.length))[j]? = some x := by
  have hl : (cells.take off).length = off := by simp; omega
  rcases hout with h1 | h1
  · rw [List.append_assoc, List.getElem?_append_left (by omega), List.getElem?_take, if_pos h1]; exact h
  · rw [List.getElem?_append_right (by simp; omega), List.getElem?_drop]
    have : off + cs.length + (j - (cells.take off ++ cs).length) = j := by simp; omega
    rw [this]; exact h

theorem store_sim (hok : cfg.Ok P) (h : Sim B W I m st a.tmps) {t : TypeId} {p x : Operand} (hs : storeOp cfg t p x st = some st') : ∃ W', (Instr.storeAt t (a.eval p) (a.eval x)).run P W = .ok () W' ∧ Sim B W' I m st' a.tmps := by
  unfold storeOp at hs
  split at hs
  · cases hs
  · rename_i ti hti
    obtain ⟨i, d, z, T⟩ := hok.ty _ _ hti
    split at hs
    · rename_i id off vs hp hvs
      split at hs
      · rename_i e ow cs hb
        split at hs
        · rename_i hle
          obtain ⟨hle1, hle2⟩ := hle
          have hpr := rel_ev h p
          rw [hp] at hpr
          have hxr := rel_ev h x
          obtain ⟨g, hg, hpv⟩ : ∃ g, m[id]? = some (some g) ∧ a.eval p = .pointer (some ⟨g, off, none⟩) := by
            generalize a.eval p = vp at hpr
            cases hpr with
            | ptr hg => exact ⟨_, hg, rfl⟩
          obtain ⟨arr, hw, hsz, h1, hr⟩ := h.blkAt hb hg
          have hrow : RowRel W I m cs arr := ⟨hsz, h1, hr⟩
          have hvr : RowRel W I m vs (a.eval x).cells := rel_cells hxr hvs
          have hle3 : off + vs.length ≤ cs.length := by omega
          have hnew := rowRel_splice2 hrow hvr hle3
          obtain ⟨arr', harr'⟩ : ∃ arr', arr' = (arr.toList.take off ++ (a.eval x).cells.toList ++ arr.toList.drop (off + (a.eval x).cells.toList.length)).toArray := ⟨_, rfl⟩
          rw [← harr'] at hnew
          have hst := run_storeCells_at (P := P) g off e (a.eval x).cells.toList 0 arr W hw (by simp [hvr.1, hsz]; omega) fun u hu => by
            obtain ⟨j, hj⟩ := List.mem_iff_getElem?.1 hu
            have hj' : (a.eval x).cells[j]? = some u := by simpa using hj
            have hlt : j < vs.length := by rw [← hvr.1]; exact (Array.getElem?_eq_some_iff.1 hj').1
            have := hvr.2.1 j _ (List.getElem?_eq_getElem hlt)
            rwa [getD_arr hj'] at this
          simp only [Nat.add_zero] at hst
          rw [← harr'] at hst
          refine ⟨W.setRow g arr', ?_, ?_⟩
          · simp only [Instr.storeAt, hpv, Instr.sureAddr, Sem.run_bind, Sem.run_pure, Result.andThen_ok, storeVar, sizeOf_run T]
            rw [if_neg (by rw [hvr.1]; omega)]
            exact hst
          · rw [hle1] at hle3
            rw [hle1] at hnew
            obtain ⟨hle2, hnz⟩ := hle2
            have hwl : (a.eval x).cells.toList.length = ti.size := by simp [hvr.1, hle1]
            -- an old owner, outside of what is written
            have keepIt : ∀ (j : Nat) (dd : Bool) (xs : List (List V)), j ∈ ow.filter (fun o => decide (o < off) || decide (off + ti.size ≤ o)) → (cs.take off ++ vs ++ cs.drop (off + ti.size))[j]? = some (.sl dd xs) →
                ∃ dd, j ∈ ow ∧ j ≠ off ∧ cs[j]? = some (.sl dd xs) ∧ arr.getD j undef = arr'.getD j undef := fun j dd xs hj hx => by
              simp only [List.mem_filter, Bool.or_eq_true, decide_eq_true_eq] at hj
              obtain ⟨hj1, hj2⟩ := hj
              have hx' := splice_get (cells := cs) (cs := vs) (off := off) (by omega) (by rw [hle1]; exact hx)
              rw [if_neg (by omega)] at hx'
              refine ⟨dd, hj1, by omega, hx', ?_⟩
              have hlt : j < arr.size := by rw [hsz]; exact (List.getElem?_eq_some_iff.1 hx').1
              have := splice_out (cs := (a.eval x).cells.toList) (off := off) (by rw [hwl, Array.length_toList, hsz]; omega) (by rw [hwl]; exact hj2) (show arr.toList[j]? = some (arr.getD j undef) by rw [Array.getElem?_toList]; exact get_of_lt hlt)
              rw [harr']
              exact (getD_arr (by rw [List.getElem?_toArray]; exact this)).symm
            -- what is written at its head
            have headIs : ∀ (dd : Bool) (xs : List (List V)), (cs.take off ++ vs ++ cs.drop (off + ti.size))[off]? = some (.sl dd xs) → isSl (ev st.fr x) = true → ev st.fr x = .sl dd xs ∧ arr'.getD off undef = a.eval x := fun dd xs hx hsl => by
              obtain ⟨d0, x0, hev⟩ : ∃ d0 x0, ev st.fr x = .sl d0 x0 := by
                cases hv : ev st.fr x <;> rw [hv] at hsl <;> simp [isSl] at hsl
                exact ⟨_, _, rfl⟩
              rw [hev] at hvs
              simp only [cellsV, Option.some.injEq] at hvs
              have hx' := splice_get (cells := cs) (cs := vs) (off := off) (by omega) (by rw [hle1]; exact hx)
              rw [if_pos (by omega), Nat.sub_self, ← hvs] at hx'
              simp at hx'
              obtain ⟨e1, e2⟩ := hx'
              subst e1; subst e2
              refine ⟨hev, ?_⟩
              have h1c : (a.eval x).cells = #[a.eval x] := cells_one (one_of_rel hxr (by rw [hev]; rfl))
              have hne := hnew.1
              have hget := rowRel_splice2 hrow hvr (by rw [hle1]; exact hle3)
              rw [harr', h1c]
              refine getD_arr ?_
              rw [List.getElem?_toArray, List.append_assoc, List.getElem?_append_right (by simp; omega), List.getElem?_append_left (by simp; omega)]
              have e0 : (arr.toList.take off).length = off := by rw [List.length_take, Array.length_toList, hsz]; omega
              rw [e0, Nat.sub_self]
              rfl
            have hset := fun (own' : List Nat) (ow' : List Nat) (hown : ∀ t, t ∈ own' → t ∈ st.own) hheld => h.setBlk (W' := W.setRow g arr') (off0 := off) (ow' := ow') (own' := own') hb hg hw (setRow_heap' hw) (fun g' hne => setRow_other' hne) (by simp) rfl rfl rfl hnew.1 hnew.2.1 hnew.2.2 hown hheld
            simp only at hs
            split at hs
            · cases hs
              exact hset st.own _ (fun _ h => h) fun j dd xs hj hx => .inr (.inl (keepIt j dd xs hj hx))
            · rename_i hmv
              cases hs
              refine hset st.own _ (fun _ h => h) fun j dd xs hj hx => ?_
              rcases List.mem_cons.1 hj with rfl | hj
              · have hxe : x = .const (.slice none 0 0) := by
                  unfold movesFrom at hmv
                  split at hmv
                  · split at hmv <;> cases hmv
                  · rfl
                  · cases hmv
                have hsl : isSl (ev st.fr x) = true := by rw [hxe]; rfl
                obtain ⟨e1, e2⟩ := headIs dd xs hx hsl
                rw [hxe] at e1 e2
                simp only [ev, ofConst, V.sl.injEq] at e1
                obtain ⟨_, rfl⟩ := e1
                exact .inl ⟨none, by rw [e2]; rfl⟩
              · exact .inr (.inl (keepIt j dd xs hj hx))
            · rename_i u hmv
              cases hs
              refine hset _ _ (fun t ht => (List.mem_filter.1 ht).1) fun j dd xs hj hx => ?_
              rcases List.mem_cons.1 hj with rfl | hj
              · unfold movesFrom at hmv
                split at hmv
                · rename_i u'
                  split at hmv
                  · rename_i hc
                    cases hmv
                    simp only [Bool.and_eq_true, List.contains_iff_mem] at hc
                    obtain ⟨e1, e2⟩ := headIs dd xs hx hc.2
                    refine .inr (.inr ⟨rfl, u, dd, hc.1, by simp, ?_, ?_⟩)
                    · simp only [ev] at e1
                      rcases hu : st.fr[u]? with _ | y
                      · rw [List.getD_eq_getElem?_getD, hu] at e1; cases e1
                      · rw [getD_of_get hu] at e1; rw [e1]
                    · rw [e2]; rfl
                  · cases hmv
                · cases hmv
                · cases hmv
              · exact .inr (.inl (keepIt j dd xs hj hx))
        · cases hs
      · cases hs
    · cases hs

end Go.Abs
