/- Literals, new variables, stores, conversions: what the interpreter says of them is what the model does. -/
import Derived.Test.YtlfjmmcodkdlfaaL2
import Derived.Laws.IdiomStrings
import Derived.RangeFuncCalls
import Derived.Lib.UnsafeStr
import Derived.RangeFuncRecord
import Derived.Laws.MakeOwn
import Derived.MapKept
set_option linter.all false
namespace Go.Abs
open Go.Lib
variable [BT] {F : Fence} {n : Nat} {P : Program} {cfg : Cfg} {B : Base} {W : World} {I : Nat → Nat → Prop} {m : List (Option Nat)} {st st' : St} {a : Act} {o : Oper} {tmps : Array Value}

def RowRel (W : World) (I : Nat → Nat → Prop) (m : List (Option Nat)) (cs : List V) (arr : Array Value) : Prop :=
  arr.size = cs.length ∧ (∀ (j : Nat) (x : V), cs[j]? = some x → (arr.getD j undef).oneCell' = true) ∧ ∀ (j : Nat) (x : V), cs[j]? = some x → Rel W I m x (arr.getD j undef)

theorem foldl_set_size (off : Nat) : ∀ (l : List (Value × Nat)) (arr : Array Value), (l.foldl (fun cs (p : Value × Nat) => cs.setIfInBounds (off + p.2) p.1) arr).size = arr.size
  | [], _ => rfl
  | _ :: r, arr => by rw [List.foldl_cons, foldl_set_size off r]; simp

theorem foldl_set_get (off : Nat) : ∀ (vs : List Value) (k : Nat) (arr : Array Value) (j : Nat), off + k + vs.length ≤ arr.size →
    ((vs.zipIdx k).foldl (fun cs (p : Value × Nat) => cs.setIfInBounds (off + p.2) p.1) arr).getD j undef = if off + k ≤ j ∧ j < off + k + vs.length then vs.getD (j - (off + k)) undef else arr.getD j undef
  | [], k, arr, j, _ => by simp only [List.zipIdx_nil, List.foldl_nil, List.length_nil]; rw [if_neg (by omega)]
  | v :: r, k, arr, j, h => by
    simp only [List.zipIdx_cons, List.foldl_cons, List.length_cons] at h ⊢
    rw [foldl_set_get off r (k + 1) _ j (by simp; omega), getD_set (by omega)]
    by_cases h1 : off + (k + 1) ≤ j ∧ j < off + (k + 1) + r.length
    · rw [if_pos h1, if_pos (by omega)]
      have : j - (off + k) = j - (off + (k + 1)) + 1 := by omega
      rw [this]; simp
    · rw [if_neg h1]
      by_cases h2 : j = off + k
      · subst h2; rw [if_pos rfl, if_pos (by omega)]; simp
      · rw [if_neg h2, if_neg (by omega)]

theorem splice_get {α : Type} {cells cs : List α} {off j : Nat} {x : α} (hle : off + cs.length ≤ cells.length) (h : (cells.take off ++ cs ++ cells.drop (off + cs.length))[j]? = some x) :
    if off ≤ j ∧ j < off + cs.length then cs[j - off]? = some x else cells[j]? = some x := by
  have hl : (cells.take off).length = off := by simp; omega
  by_cases h1 : j < off
  · rw [if_neg (by omega)]
    rw [List.append_assoc, List.getElem?_append_left (by omega), List.getElem?_take, if_pos h1] at h
    exact h
  · by_cases h2 : j < off + cs.length
    · rw [if_pos (by omega)]
      rw [List.append_assoc, List.getElem?_append_right (by omega), hl, List.getElem?_append_left (by omega)] at h
      exact h
    · rw [if_neg (by omega)]
      rw [List.getElem?_append_right (by simp; omega), List.getElem?_drop] at h
      have : off + cs.length + (j - (cells.take off ++ cs).length) = j := by simp; omega
      rw [this] at h
      exact h

theorem splice_length {α : Type} {cells cs : List α} {off : Nat} (hle : off + cs.length ≤ cells.length) : (cells.take off ++ cs ++ cells.drop (off + cs.length)).length = cells.length := by
  simp; omega

theorem rowRel_splice {cells cs : List V} {arr : Array Value} {w : Value} {off : Nat} (hr : RowRel W I m cells arr) (hw : RowRel W I m cs w.cells) (hle : off + cs.length ≤ cells.length) :
    RowRel W I m (cells.take off ++ cs ++ cells.drop (off + cs.length)) (w.cells.zipIdx.foldl (fun a (p : Value × Nat) => a.setIfInBounds (off + p.2) p.1) arr) := by
  have hfold : w.cells.zipIdx.foldl (fun a (p : Value × Nat) => a.setIfInBounds (off + p.2) p.1) arr = (w.cells.toList.zipIdx).foldl (fun a (p : Value × Nat) => a.setIfInBounds (off + p.2) p.1) arr := by
    rw [← Array.foldl_toList]; simp
  have hlen : w.cells.toList.length = cs.length := by simp [hw.1]
  have hget : ∀ j, ((w.cells.toList.zipIdx).foldl (fun a (p : Value × Nat) => a.setIfInBounds (off + p.2) p.1) arr).getD j undef = if off ≤ j ∧ j < off + cs.length then w.cells.getD (j - off) undef else arr.getD j undef := fun j => by
    have := foldl_set_get off w.cells.toList 0 arr j (by rw [hlen, hr.1]; omega)
    rw [hlen] at this
    simp only [Nat.add_zero] at this
    rw [this]
    split
    · simp [List.getD_eq_getElem?_getD, Array.getD_eq_getD_getElem?]
    · rfl
  rw [hfold]
  refine ⟨by rw [foldl_set_size, hr.1, splice_length hle], fun j x hx => ?_, fun j x hx => ?_⟩
  · have := splice_get hle hx
    rw [hget]
    split at this
    · rename_i h; rw [if_pos h]; exact hw.2.1 _ _ this
    · rename_i h; rw [if_neg h]; exact hr.2.1 _ _ this
  · have := splice_get hle hx
    rw [hget]
    split at this
    · rename_i h; rw [if_pos h]; exact hw.2.2 _ _ this
    · rename_i h; rw [if_neg h]; exact hr.2.2 _ _ this

theorem fill_sim {place place' : Nat → Option (Nat × Nat)} (hp : ∀ i, place i = place' i ∨ place i = none) : ∀ (parts : List (Nat × V)) (vparts : List (Nat × Value)) (cells out : List V) (arr : Array Value),
    fillV place cells parts = some out → parts.length = vparts.length → (∀ (j : Nat) (p : Nat × V) (q : Nat × Value), parts[j]? = some p → vparts[j]? = some q → p.1 = q.1 ∧ Rel W I m p.2 q.2) → RowRel W I m cells arr →
    ∃ arr', Instr.fill place' arr vparts = some arr' ∧ RowRel W I m out arr' := by
  intro parts
  induction parts with
  | nil =>
    intro vparts cells out arr h hl _ hr
    have : vparts = [] := List.eq_nil_of_length_eq_zero (by simpa using hl.symm)
    subst this
    simp only [fillV, Option.some.injEq] at h
    subst h
    exact ⟨arr, rfl, hr⟩
  | cons p r ih =>
    intro vparts cells out arr h hl hpq hr
    obtain ⟨i, v⟩ := p
    cases vparts with
    | nil => simp at hl
    | cons q vr =>
      obtain ⟨i', w⟩ := q
      obtain ⟨he, hrel⟩ := hpq 0 _ _ rfl rfl
      simp only at he hrel
      subst he
      simp only [fillV] at h
      split at h
      · cases h
      · rename_i off size hpl
        split at h
        · cases h
        · rename_i cs hcs
          split at h
          · rename_i hle
            obtain ⟨hsz, hle⟩ := hle
            subst hsz
            have hw : RowRel W I m cs w.cells := rel_cells hrel hcs
            have hpl' : place' i = some (off, cs.length) := by
              rcases hp i with e | e
              · rw [← e]; exact hpl
              · rw [e] at hpl; cases hpl
            obtain ⟨arr', h1, h2⟩ := ih vr _ out _ h (by simpa using hl) (fun j p q hp hq => hpq (j + 1) p q hp hq) (rowRel_splice hr hw hle)
            refine ⟨arr', ?_, h2⟩
            rw [Instr.fill, hpl']
            simp only
            rw [if_neg (by rw [hw.1, hr.1]; simp; omega)]
            exact h1
          · cases h

theorem rowRel_zero {t : TypeId} {ti : TI} {i : TypeInfo} {d : TypeDesc} {z : Value} (T : TyOk P t ti i d z) : RowRel W I m ti.zero z.cells := by
  have hget : ∀ (j : Nat) (x : V), ti.zero[j]? = some x → ∃ w, z.cells[j]? = some w ∧ x = ofConst w := fun j x hx => by
    rw [T.zeq] at hx
    simp only [List.getElem?_map, Option.map_eq_some_iff, Array.getElem?_toList] at hx
    obtain ⟨w, h1, h2⟩ := hx
    exact ⟨w, h1, h2.symm⟩
  refine ⟨by rw [T.zeq]; simp, fun j x hx => ?_, fun j x hx => ?_⟩
  · obtain ⟨w, h1, h2⟩ := hget j x hx
    rw [getD_arr h1]
    exact T.zone w (by rw [Array.mem_toList_iff]; exact Array.mem_of_getElem? h1)
  · obtain ⟨w, h1, rfl⟩ := hget j x hx
    rw [getD_arr h1]
    exact rel_const w

theorem parts_rel (h : Sim B W I m st a.tmps) (parts : Array (Nat × Operand)) :
    (parts.toList.map fun (p : Nat × Operand) => (p.1, ev st.fr p.2)).length = (parts.map fun (p : Nat × Operand) => (p.1, a.eval p.2)).toList.length ∧
    ∀ (j : Nat) (p : Nat × V) (q : Nat × Value), (parts.toList.map fun (p : Nat × Operand) => (p.1, ev st.fr p.2))[j]? = some p → (parts.map fun (p : Nat × Operand) => (p.1, a.eval p.2)).toList[j]? = some q → p.1 = q.1 ∧ Rel W I m p.2 q.2 := by
  refine ⟨by simp, fun j p q hp hq => ?_⟩
  simp only [List.getElem?_map, Option.map_eq_some_iff, Array.toList_map] at hp hq
  obtain ⟨x, hx, rfl⟩ := hp
  obtain ⟨y, hy, rfl⟩ := hq
  rw [hx] at hy; cases hy
  exact ⟨rfl, rel_ev h x.2⟩

theorem mapM_sizes {ts : List Field} (f : Field → Option Nat) : ∀ (fs : List Field), (∀ x ∈ fs, ∃ i, P.info? x.type = some i) → 
    (fs.mapM fun (f : Field) => (do pure (f.offset, ← sizeOf f.type) : Sem (Nat × Nat))).run P W = .ok (fs.map fun f => (f.offset, P.cellsOf f.type)) W
  | [], _ => by simp
  | x :: r, h => by
    obtain ⟨i, hi⟩ := h x (by simp)
    have hsz : (sizeOf x.type).run P W = .ok (P.cellsOf x.type) W := by simp [sizeOf, typeInfo, hi, Program.cellsOf]
    rw [List.mapM_cons]
    simp only [Sem.run_bind, hsz, Result.andThen_ok, Sem.run_pure]
    rw [mapM_sizes (ts := ts) f r fun y hy => h y (by simp [hy])]
    rfl

theorem rel_agg {cs : List V} {arr : Array Value} (h : RowRel W I m cs arr) : Rel W I m (.agg cs) (.agg arr) := .agg h.1 h.2.1 h.2.2

theorem run_buildV (hok : cfg.Ok P) (h : Sim B W I m st a.tmps) {t : TypeId} {parts : Array (Nat × Operand)} {v : V} (hv : buildV cfg t (parts.toList.map fun (p : Nat × Operand) => (p.1, ev st.fr p.2)) = some v) (hk : fieldsKnown cfg t = true) :
    ∃ w, (Instr.build t (parts.map fun (p : Nat × Operand) => (p.1, a.eval p.2))).run P W = .ok w W ∧ Rel W I m v w := by
  obtain ⟨hl, hpq⟩ := parts_rel h parts
  unfold buildV at hv
  split at hv
  · cases hv
  · rename_i ti hti
    obtain ⟨i, d, z, T⟩ := hok.ty _ _ hti
    have hz : (zeroValue t).run P W = .ok z W := by simp [zeroValue, typeInfo, T.info, T.zero]
    have hkd := T.kind
    split at hv
    · rename_i eq fs hks
      rw [hks] at hkd
      obtain ⟨fields, rfl, rfl⟩ := kok_struct hkd
      obtain ⟨out, hout, rfl⟩ := Option.map_eq_some_iff.1 hv
      have hinfo : ∀ x ∈ fields.toList, ∃ ti i, cfg.ty x.type = some ti ∧ P.info? x.type = some i ∧ i.size = ti.size := fun x hx => by
        simp only [fieldsKnown, hti, Option.map_some, hks, List.all_eq_true] at hk
        have := hk (x.offset, x.type) (List.mem_map.2 ⟨x, hx, rfl⟩)
        obtain ⟨ti', hti'⟩ := Option.isSome_iff_exists.1 this
        obtain ⟨i', d', z', T'⟩ := hok.ty _ _ hti'
        exact ⟨ti', i', hti', T'.info, T'.size⟩
      have hplaces : (fields.mapM fun f => (do pure (f.offset, ← sizeOf f.type) : Sem (Nat × Nat))).run P W = .ok (fields.map fun f => (f.offset, P.cellsOf f.type)) W := by
        have hm := mapM_sizes (P := P) (W := W) (ts := []) (fun _ => none) fields.toList fun x hx => by obtain ⟨_, i', _, h2, _⟩ := hinfo x hx; exact ⟨i', h2⟩
        rw [Array.mapM_eq_mapM_toList]
        simp only [Sem.run_bind, Sem.run_map, hm]
        simp only [Result.andThen]
        congr 1
        apply Array.ext'
        simp
      obtain ⟨arr', h1, h2⟩ := fill_sim (W := W) (I := I) (m := m) (place' := fun i => (fields.map fun f => (f.offset, P.cellsOf f.type))[i]?) (fun i => by
        rcases hf : fields[i]? with _ | f
        · right; simp [hf]
        · obtain ⟨ti', i', h1, h2, h3⟩ := hinfo f (by rw [Array.mem_toList_iff]; exact Array.mem_of_getElem? hf)
          left
          simp [hf, h1, Program.cellsOf, h2, h3]) _ _ _ _ z.cells hout hl hpq (rowRel_zero T)
      refine ⟨_, ?_, rel_agg h2⟩
      simp only [Instr.build, Sem.run_bind, hz, Result.andThen_ok, run_und T.und, hplaces]
      rw [h1]
      rfl
    · rename_i nn e hks
      rw [hks] at hkd
      have := kok_array hkd; subst this
      rcases hte : cfg.ty e with _ | te
      · rw [hte] at hv; cases hv
      · rw [hte] at hv
        simp only [Option.bind_some] at hv
        obtain ⟨out, hout, rfl⟩ := Option.map_eq_some_iff.1 hv
        obtain ⟨i', d', z', T'⟩ := hok.ty _ _ hte
        obtain ⟨arr', h1, h2⟩ := fill_sim (W := W) (I := I) (m := m) (place' := fun i => some (i * te.size, te.size)) (fun i => .inl rfl) _ _ _ _ z.cells hout hl hpq (rowRel_zero T)
        refine ⟨_, ?_, rel_agg h2⟩
        simp only [Instr.build, Sem.run_bind, hz, Result.andThen_ok, run_und T.und, sizeOf_run T']
        rw [h1]
        rfl
    · cases hv

end Go.Abs
/-! New variables, slice literals, stores, conversions: what the interpreter says of them is what the model does. -/
namespace Go.Abs
open Go.Lib
variable [BT] {F : Fence} {n : Nat} {P : Program} {cfg : Cfg} {B : Base} {W : World} {I : Nat → Nat → Prop} {m : List (Option Nat)} {st st' : St} {a : Act} {o : Oper} {tmps : Array Value}

theorem alloc_old {o : Obj} {g : Nat} (hg : g < W.heap.size) : (W.alloc o).heap[g]? = W.heap[g]? := by
  simp only [World.alloc, Array.getElem?_push]; rw [if_neg (by omega)]

theorem Sim.newRow (h : Sim B W I m st tmps) (arr : Array Value) (e : TypeId) (fr : Nat × Nat) {W1 : World} (h1 : W1.heap = W.heap) (h2 : W1.os = W.os) (h3 : TapeLe W W1) (h4 : W1.output = W.output) (k : Nat) (hk : k ≤ arr.size) :
    Sim B (W1.alloc (.cells arr e fr)) (fun g q => I g q ∨ (g = W.heap.size ∧ q < k)) m st tmps ∧ KeepI I W (W1.alloc (.cells arr e fr)) := by
  have hs : W1.heap.size = W.heap.size := by rw [h1]
  have hold : ∀ g, g < W.heap.size → (W1.alloc (.cells arr e fr)).heap[g]? = W.heap[g]? := fun g hg => by rw [alloc_old (by omega), h1]
  have hnew : (W1.alloc (.cells arr e fr)).heap[W.heap.size]? = some (.cells arr e fr) := by rw [← hs]; exact heap_alloc_new W1 _
  refine ⟨h.world h2 ⟨h3.eq, h3.le⟩ h4 (by simp; omega) hold (fun _ _ hi => .inl hi) (fun g q hi => hi.imp id fun hi => by omega) fun g q hi => ?_, ⟨fun g q hi => cell_same (hold g (h.ilt hi)), info_old hold⟩⟩
  rcases hi with hi | ⟨rfl, hlt⟩
  · obtain ⟨v, hv⟩ := h.live g q hi
    exact ⟨v, (cell_same (hold g (lt_of_cell hv))).trans hv⟩
  · rw [cell_of_blk hnew]; exact ⟨_, Array.getElem?_eq_getElem (by omega)⟩

theorem rowsOf_get : ∀ (len size : Nat) (cs : List V) (i : Nat) (row : List V), (rowsOf size len cs)[i]? = some row → i < len ∧ row = (cs.drop (i * size)).take size
  | 0, size, cs, i, row, h => by simp [rowsOf] at h
  | len + 1, size, cs, i, row, h => by
    cases i with
    | zero => simp [rowsOf] at h; exact ⟨by omega, by simp [h]⟩
    | succ i =>
      simp only [rowsOf, List.getElem?_cons_succ] at h
      obtain ⟨h1, h2⟩ := rowsOf_get len size _ i row h
      refine ⟨by omega, ?_⟩
      rw [h2, List.drop_drop]
      congr 2
      rw [Nat.succ_mul]; omega
theorem rowsOf_length (size : Nat) : ∀ (len : Nat) (cs : List V), (rowsOf size len cs).length = len
  | 0, _ => rfl
  | len + 1, cs => by simp [rowsOf, rowsOf_length size len]

theorem rel_rows {W' : World} {I' : Nat → Nat → Prop} {cs : List V} {arr : Array Value} {g len size c : Nat} {e : TypeId} {fr : Nat × Nat} (hr : RowRel W I m cs arr) (hI : ∀ g o, I g o → I' g o) (hk : KeepI I W W') (hl : cs.length = len * size)
    (hw : W'.heap[g]? = some (.cells arr e fr)) (hIn : ∀ q : Nat, q < len * size → I' g q) (hc : len ≤ c) : Rel W' I' m (.sl (V.ltl 0 cs) (rowsOf size len cs)) (.slice (some ⟨g, 0, none⟩) len c) := by
  have hget : ∀ {i j : Nat} {row : List V} {x : V}, (rowsOf size len cs)[i]? = some row → row[j]? = some x → i < len ∧ j < size ∧ cs[i * size + j]? = some x := fun {i j row x} h1 h2 => by
    obtain ⟨k1, rfl⟩ := rowsOf_get _ _ _ _ _ h1
    obtain ⟨k2, k3⟩ := take_drop_get h2
    exact ⟨k1, k2, k3⟩
  refine .sl (g := g) (o := 0) (sz := size) (f := fun i j => arr.getD (i * size + j) undef) (rowsOf_length _ _ _).symm hc (fun _ => rfl) (fun i row h => ?_) (fun i row j x h1 h2 => ?_) fun i row j x h1 h2 => ?_
  · obtain ⟨k1, rfl⟩ := rowsOf_get _ _ _ _ _ h
    have : (i + 1) * size ≤ len * size := Nat.mul_le_mul_right _ k1
    rw [Nat.succ_mul] at this
    simp; omega
  · obtain ⟨k1, k2, k3⟩ := hget h1 h2
    have hlt := row_lt k1 k2
    refine ⟨by rw [Nat.zero_add]; exact hIn _ hlt, ?_, hr.2.1 _ x k3⟩
    rw [Nat.zero_add, cell_of_blk hw]
    exact get_of_lt (by rw [hr.1, hl]; exact hlt)
  · obtain ⟨k1, k2, k3⟩ := hget h1 h2
    have := (hr.2.2 _ x k3).mono hI hk (List.prefix_refl _)
    cases hd : V.ltl 0 cs with
    | true => exact this.pure (ltl_get hd k3)
    | false => simpa using this

theorem reps_get {z : List V} : ∀ (n j : Nat) (x : V), (reps n z)[j]? = some x → z[j % z.length]? = some x ∧ j < n * z.length
  | 0, j, x, h => by simp [reps] at h
  | n + 1, j, x, h => by
    have e : reps (n + 1) z = z ++ reps n z := by simp [reps, List.replicate_succ]
    rw [e] at h
    by_cases hj : j < z.length
    · rw [List.getElem?_append_left hj] at h
      exact ⟨by rw [Nat.mod_eq_of_lt hj]; exact h, by rw [Nat.succ_mul]; omega⟩
    · rw [List.getElem?_append_right (by omega)] at h
      obtain ⟨h1, h2⟩ := reps_get n _ x h
      refine ⟨?_, by rw [Nat.succ_mul]; omega⟩
      rw [Nat.mod_eq_sub_mod (by omega)]
      exact h1
theorem reps_length {z : List V} (n : Nat) : (reps n z).length = n * z.length := by simp [reps]

theorem rowRel_reps {z : List V} {zs : Array Value} (h : RowRel W I m z zs) (n : Nat) : RowRel W I m (reps n z) ((Array.range (n * z.length)).map (zs[· % zs.size]!)) := by
  have hget : ∀ (j : Nat) (x : V), (reps n z)[j]? = some x → ((Array.range (n * z.length)).map (zs[· % zs.size]!)).getD j undef = zs.getD (j % z.length) undef := fun j x hx => by
    obtain ⟨h1, h2⟩ := reps_get n j x hx
    have hlt : j % z.length < zs.size := by rw [h.1]; exact (List.getElem?_eq_some_iff.1 h1).1
    have : ((Array.range (n * z.length)).map (zs[· % zs.size]!))[j]? = some (zs[j % zs.size]!) := by simp [h2]
    rw [getD_arr this, h.1]
    rw [getElem!_pos zs _ hlt]
    exact (getD_arr (Array.getElem?_eq_getElem hlt)).symm
  refine ⟨by simp [reps_length], fun j x hx => ?_, fun j x hx => ?_⟩
  · rw [hget j x hx]; exact h.2.1 _ x (reps_get n j x hx).1
  · rw [hget j x hx]; exact h.2.2 _ x (reps_get n j x hx).1

theorem fillV_length {place : Nat → Option (Nat × Nat)} : ∀ (parts : List (Nat × V)) (cells out : List V), fillV place cells parts = some out → out.length = cells.length
  | [], cells, out, h => by simp [fillV] at h; rw [h]
  | (i, v) :: r, cells, out, h => by
    simp only [fillV] at h
    split at h
    · cases h
    · split at h
      · cases h
      · split at h
        · rename_i hle
          rw [fillV_length r _ out h]
          obtain ⟨h1, h2⟩ := hle
          subst h1
          exact splice_length h2
        · cases h

theorem run_buildSliceV (hok : cfg.Ok P) (h : Sim B W I m st a.tmps) {t : TypeId} {len : Nat} {parts : Array (Nat × Operand)} {v : V} (hv : buildSliceV cfg t len (parts.toList.map fun (p : Nat × Operand) => (p.1, ev st.fr p.2)) = some v) :
    ∃ w W' I', (Instr.buildSlice t len (parts.map fun (p : Nat × Operand) => (p.1, a.eval p.2))).run P W = .ok w W' ∧ Sim B W' I' m st a.tmps ∧ Rel W' I' m v w ∧ ∃ b, w = .slice (some b) len len ∧ ∃ d xs arr e f, v = .sl d xs ∧ b = ⟨W.heap.size, 0, none⟩ ∧ (cfg.ty t).map TI.k = some (.slice e) ∧ cfg.ty e = some f ∧ xs.length = len ∧
      (∀ row ∈ xs, row.length = f.size) ∧ W'.heap[W.heap.size]? = some (.cells arr e (0, 0)) ∧ arr.size = len * f.size ∧ (∀ o, len * f.size ≤ o → ¬ I' W.heap.size o) ∧ (∀ g, g < W.heap.size → W'.heap[g]? = W.heap[g]?) := by
  obtain ⟨hl, hpq⟩ := parts_rel h parts
  unfold buildSliceV at hv
  split at hv
  · rename_i e hk
    obtain ⟨d, hu, hkd⟩ := hok.kind hk
    have := kok_slice hkd; subst this
    split at hv
    · rename_i f hf
      obtain ⟨i', d', z, T⟩ := hok.ty _ _ hf
      split at hv
      · cases hv
      · rename_i hno
        split at hv
        · rename_i cs hcs
          cases hv
          have hz : (zeroValue e).run P W = .ok z W := by simp [zeroValue, typeInfo, T.info, T.zero]
          have hzl : f.zero.length = f.size := by rw [← T.zsize, T.zeq]; simp
          have hrow := rowRel_reps (rowRel_zero (W := W) (I := I) (m := m) T) len
          rw [hzl] at hrow
          obtain ⟨arr', h1, h2⟩ := fill_sim (W := W) (I := I) (m := m) (place' := fun i => some (i * f.size, f.size)) (fun i => .inl rfl) _ _ _ _ _ hcs hl hpq hrow
          have hcl : cs.length = len * f.size := by rw [fillV_length _ _ _ hcs, reps_length, hzl]
          have hal : arr'.size = len * f.size := by rw [h2.1, hcl]
          obtain ⟨hS, hK⟩ := h.newRow arr' e (0, 0) (W1 := W) rfl rfl ⟨rfl, Nat.le_refl _⟩ rfl (len * f.size) (by omega)
          have hnew : (W.alloc (.cells arr' e)).heap[W.heap.size]? = some (.cells arr' e (0, 0)) := heap_alloc_new W _
          refine ⟨.slice (some ⟨W.heap.size, 0, none⟩) len len, _, _, ?_, hS, rel_rows h2 (fun _ _ hi => .inl hi) hK hcl hnew (fun q hq => .inr ⟨rfl, hq⟩) (Nat.le_refl _), _, rfl, _, _, arr', e, f, rfl, rfl, hk, hf, rowsOf_length _ _ _, fun row hrow => ?_, hnew, hal, fun o ho hi => ?_, fun g hg => alloc_old hg⟩
          rotate_left
          · obtain ⟨q, hq⟩ := List.mem_iff_getElem?.1 hrow
            obtain ⟨h1, rfl⟩ := rowsOf_get _ _ _ _ _ hq
            have : q * f.size + f.size ≤ len * f.size := by rw [← Nat.succ_mul]; exact Nat.mul_le_mul_right _ h1
            rw [List.length_take, List.length_drop]; omega
          · rcases hi with hi | ⟨_, hlt⟩
            · exact absurd (h.ilt hi) (Nat.lt_irrefl _)
            · omega
          have hbig : ¬ (2 ^ 24 < len * f.size) := by omega
          have h1' : Instr.fill (fun i => some (i * f.size, f.size)) ((Array.range (len * f.size)).map (z.cells[· % z.cells.size]!)) (parts.map fun (p : Nat × Operand) => (p.1, a.eval p.2)).toList = some arr' := h1
          by_cases hz0 : len * f.size = 0
          · have e0 : ((Array.range (len * f.size)).map (z.cells[· % z.cells.size]!)) = #[] := by rw [hz0]; simp
            rw [e0] at h1'
            simp only [Instr.buildSlice, Sem.run_bind, run_und hu, Result.andThen_ok, sizeOf_run T]
            rw [Sem.run_ite, if_neg (by simpa using hbig)]
            simp only [hz0, if_true, Sem.run_bind, Sem.run_pure, Result.andThen_ok]
            have e1 : ((Array.range 0).map ((#[] : Array Value)[· % (#[] : Array Value).size]!)) = #[] := by simp
            simp only [e1, h1', Go.newRow, Sem.run_bind, run_newObj, Result.andThen_ok, Sem.run_pure]
            rfl
          · simp only [Instr.buildSlice, Sem.run_bind, run_und hu, Result.andThen_ok, sizeOf_run T]
            rw [Sem.run_ite, if_neg (by simpa using hbig)]
            simp only [hz0, if_false, Sem.run_bind, hz, Result.andThen_ok, Sem.run_pure, h1', Go.newRow, run_newObj]
            rfl
        · cases hv
    · cases hv
  · cases hv

theorem nilOffs_get : ∀ (l : List V) (k off : Nat), off ∈ nilOffs k l → k ≤ off ∧ ∃ d xs, l[off - k]? = some (.sl d xs)
  | [], k, off, h => by simp [nilOffs] at h
  | v :: r, k, off, h => by
    unfold nilOffs at h
    split at h
    · rename_i hv
      rcases List.mem_cons.1 h with rfl | h
      · refine ⟨Nat.le_refl _, ?_⟩
        cases v with
        | sl d xs => exact ⟨d, xs, by simp⟩
        | _ => simp [isSl] at hv
      · obtain ⟨h1, d, xs, h2⟩ := nilOffs_get r (k + 1) off h
        refine ⟨by omega, d, xs, ?_⟩
        rw [show off - k = (off - (k + 1)) + 1 by omega]; simpa using h2
    · obtain ⟨h1, d, xs, h2⟩ := nilOffs_get r (k + 1) off h
      refine ⟨by omega, d, xs, ?_⟩
      rw [show off - k = (off - (k + 1)) + 1 by omega]; simpa using h2

theorem ofConst_sl {w : Value} {d : Bool} {xs : List (List V)} (h : ofConst w = .sl d xs) : w = .slice none 0 0 ∧ xs = [] := by
  unfold ofConst at h
  split at h <;> first | (cases h; done) | (cases h; exact ⟨rfl, rfl⟩)

theorem pushBlk_sim {arr : Array Value} {t : TypeId} {ow : List Nat} {cs : List V} (h : Sim B W I m st tmps) (hr : RowRel W I m cs arr) (hz : ∀ (j : Nat) (d : Bool) (xs : List (List V)), j ∈ ow → cs[j]? = some (.sl d xs) → ∃ a, arr.getD j undef = .slice a xs.length 0) (d : Option Tmp) :
    Sim B (W.alloc (.cells arr t)) I (m ++ [some W.heap.size]) (pushBlk st d (.cells t ow cs)) (aput tmps d (.pointer (some ⟨W.heap.size, 0, none⟩))) := by
  have h1 := h.push ow cs arr t ⟨Nat.le_of_eq hr.1.symm, fun _ => hr.1⟩ hr.2.1 hr.2.2 hz
  have h2 : Rel (W.alloc (.cells arr t)) I (m ++ [some W.heap.size]) (.ptr st.hp.length 0) (.pointer (some ⟨W.heap.size, 0, none⟩)) := .ptr (by rw [← h.mlen, List.getElem?_append_right (Nat.le_refl _)]; simp)
  exact h1.put d h2

theorem alloc_sim (hok : cfg.Ok P) (h : Sim B W I m st a.tmps) {t : TypeId} {ti : TI} (hti : cfg.ty t = some ti) : ∃ w W' I' m', (Instr.alloc t true (.tuple #[])).run P W = .ok w W' ∧ Sim B W' I' m' (pushBlk st o.dst (.cells t (nilOffs 0 ti.zero) ti.zero)) (aput a.tmps o.dst w) := by
  obtain ⟨i, d, z, T⟩ := hok.ty _ _ hti
  have hz : (zeroValue t).run P W = .ok z W := by simp [zeroValue, typeInfo, T.info, T.zero]
  refine ⟨_, _, _, _, ?_, pushBlk_sim (t := t) h (rowRel_zero T) (fun j d xs hj hx => ?_) o.dst⟩
  · simp only [Instr.alloc, Sem.run_bind, hz, Result.andThen_ok, newVar, Go.newRow, run_newObj, Sem.run_pure]
    rfl
  · rw [T.zeq] at hx
    simp only [List.getElem?_map, Option.map_eq_some_iff, Array.getElem?_toList] at hx
    obtain ⟨w, h1, h2⟩ := hx
    obtain ⟨rfl, rfl⟩ := ofConst_sl h2
    exact ⟨none, getD_arr h1⟩

theorem box_sim (h : Sim B W I m st a.tmps) {t : TypeId} {x : Operand} {cs : List V} (hc : cellsV (ev st.fr x) = some cs) : ∃ w W' I' m', (Instr.box t (a.eval x)).run P W = .ok w W' ∧ Sim B W' I' m' (pushBlk st o.dst (.cells t [] cs)) (aput a.tmps o.dst w) := by
  refine ⟨_, _, _, _, ?_, pushBlk_sim (t := t) h (rel_cells (rel_ev h x) hc) (fun j d xs hj => by cases hj) o.dst⟩
  simp only [Instr.box, newVar, Go.newRow, Sem.run_bind, run_newObj, Result.andThen_ok, Sem.run_pure]
  rfl

def RowPre (W : World) (I : Nat → Nat → Prop) (m : List (Option Nat)) (cs : List V) (arr : Array Value) : Prop :=
  cs.length ≤ arr.size ∧ (∀ (j : Nat) (x : V), cs[j]? = some x → (arr.getD j undef).oneCell' = true) ∧ ∀ (j : Nat) (x : V), cs[j]? = some x → Rel W I m x (arr.getD j undef)

theorem rowPre_splice {cells cs : List V} {arr : Array Value} {ws : List Value} {off : Nat} (hr : RowPre W I m cells arr) (hw : RowRel W I m cs ws.toArray) (hle : off + cs.length ≤ cells.length) :
    RowPre W I m (cells.take off ++ cs ++ cells.drop (off + cs.length)) (arr.toList.take off ++ ws ++ arr.toList.drop (off + ws.length)).toArray ∧ (arr.toList.take off ++ ws ++ arr.toList.drop (off + ws.length)).length = arr.size := by
  have hwl : ws.length = cs.length := by simpa using hw.1
  have hca := hr.1
  have hal : arr.toList.length = arr.size := Array.length_toList
  rw [hwl]
  have hL0 : (arr.toList.take off ++ ws ++ arr.toList.drop (off + cs.length)).length = arr.size := by
    have := splice_length (cells := arr.toList) (cs := ws) (off := off) (by rw [hwl, hal]; omega)
    rw [hwl] at this
    rw [this, hal]
  obtain ⟨L, hL⟩ : ∃ L, L = arr.toList.take off ++ ws ++ arr.toList.drop (off + cs.length) := ⟨_, rfl⟩
  rw [← hL] at hL0 ⊢
  have hget : ∀ j, j < arr.size → L.toArray.getD j undef = if off ≤ j ∧ j < off + cs.length then ws.toArray.getD (j - off) undef else arr.getD j undef := fun j hj => by
    have hx := List.getElem?_eq_getElem (show j < L.length by omega)
    rw [getD_arr (show L.toArray[j]? = some _ by rw [List.getElem?_toArray]; exact hx)]
    have := splice_get (cells := arr.toList) (cs := ws) (off := off) (j := j) (x := L[j]'(by omega)) (by rw [hwl, hal]; omega) (by rw [hwl, ← hL]; exact hx)
    rw [hwl] at this
    split at this
    · rename_i hh; rw [if_pos hh]; exact (getD_arr (by simpa using this)).symm
    · rename_i hh; rw [if_neg hh]; exact (getD_arr (by simpa using this)).symm
  have hlt : ∀ {j : Nat} {x : V}, (cells.take off ++ cs ++ cells.drop (off + cs.length))[j]? = some x → j < cells.length := fun hx => by
    have := (List.getElem?_eq_some_iff.1 hx).1
    rwa [splice_length hle] at this
  refine ⟨⟨by rw [List.size_toArray, hL0, splice_length hle]; exact hca, fun j x hx => ?_, fun j x hx => ?_⟩, hL0⟩
  · have := splice_get hle hx
    rw [hget j (Nat.lt_of_lt_of_le (hlt hx) hca)]
    split at this
    · rename_i hh; rw [if_pos hh]; exact hw.2.1 _ _ this
    · rename_i hh; rw [if_neg hh]; exact hr.2.1 _ _ this
  · have := splice_get hle hx
    rw [hget j (Nat.lt_of_lt_of_le (hlt hx) hca)]
    split at this
    · rename_i hh; rw [if_pos hh]; exact hw.2.2 _ _ this
    · rename_i hh; rw [if_neg hh]; exact hr.2.2 _ _ this

theorem splice_out {α : Type} {cells cs : List α} {off j : Nat} {x : α} (hle : off + cs.length ≤ cells.length) (hout : j < off ∨ off + cs.length ≤ j) (h : cells[j]? = some x) : (cells.take off ++ cs ++ cells.drop (off + cs.length))[j]? = some x := by
  have hl : (cells.take off).length = off := by simp; omega
  rcases hout with h1 | h1
  · rw [List.append_assoc, List.getElem?_append_left (by omega), List.getElem?_take, if_pos h1]; exact h
  · rw [List.getElem?_append_right (by simp; omega), List.getElem?_drop]
    have : off + cs.length + (j - (cells.take off ++ cs).length) = j := by simp; omega
    rw [this]; exact h

theorem store_sim (hok : cfg.Ok P) (h : Sim B W I m st a.tmps) {t : TypeId} {p x : Operand} (hs : storeOp cfg t p x st = some st') : ∃ W', (Instr.storeAt t (a.eval p) (a.eval x)).run P W = .ok () W' ∧ Sim B W' I m st' a.tmps := by
  unfold storeOp at hs
  split at hs
  · cases hs
  · rename_i ti hti
    obtain ⟨i, d, z, T⟩ := hok.ty _ _ hti
    split at hs
    · rename_i id off vs hp hvs
      split at hs
      · rename_i e ow cs hb
        split at hs
        · rename_i hle
          obtain ⟨hle1, hle2⟩ := hle
          have hpr := rel_ev h p
          rw [hp] at hpr
          have hxr := rel_ev h x
          obtain ⟨g, hg, hpv⟩ : ∃ g, m[id]? = some (some g) ∧ a.eval p = .pointer (some ⟨g, off, none⟩) := by
            generalize a.eval p = vp at hpr
            cases hpr with
            | ptr hg => exact ⟨_, hg, rfl⟩
          obtain ⟨arr, hw, hsz, h1, hr⟩ := h.blkAt hb hg
          have hrow : RowPre W I m cs arr := ⟨hsz.1, h1, hr⟩
          have hle4 := hsz.1
          have hal : arr.toList.length = arr.size := Array.length_toList
          have hvr : RowRel W I m vs (a.eval x).cells := rel_cells hxr hvs
          have hle3 : off + vs.length ≤ cs.length := by omega
          obtain ⟨hnew, hnsz⟩ := rowPre_splice (ws := (a.eval x).cells.toList) hrow (by simpa using hvr) hle3
          obtain ⟨arr', harr'⟩ : ∃ arr', arr' = (arr.toList.take off ++ (a.eval x).cells.toList ++ arr.toList.drop (off + (a.eval x).cells.toList.length)).toArray := ⟨_, rfl⟩
          rw [← harr'] at hnew
          have hnsz' : arr'.size = arr.size := by rw [harr', List.size_toArray]; exact hnsz
          have hst := run_storeCells_at (P := P) g off e (a.eval x).cells.toList 0 arr W hw (by simp [hvr.1]; omega) fun u hu => by
            obtain ⟨j, hj⟩ := List.mem_iff_getElem?.1 hu
            have hj' : (a.eval x).cells[j]? = some u := by simpa using hj
            have hlt : j < vs.length := by rw [← hvr.1]; exact (Array.getElem?_eq_some_iff.1 hj').1
            have := hvr.2.1 j _ (List.getElem?_eq_getElem hlt)
            rwa [getD_arr hj'] at this
          simp only [Nat.add_zero] at hst
          rw [← harr'] at hst
          refine ⟨W.setRow g arr', ?_, ?_⟩
          · simp only [Instr.storeAt, hpv, Instr.sureAddr, Sem.run_bind, Sem.run_pure, Result.andThen_ok, storeVar, sizeOf_run T]
            rw [if_neg (by rw [hvr.1]; omega)]
            exact hst
          · rw [hle1] at hle3
            rw [hle1] at hnew
            obtain ⟨hle2, hnz⟩ := hle2
            have hwl : (a.eval x).cells.toList.length = ti.size := by simp [hvr.1, hle1]
            -- an old owner, outside of what is written
            have keepIt : ∀ (j : Nat) (dd : Bool) (xs : List (List V)), j ∈ ow.filter (fun o => decide (o < off) || decide (off + ti.size ≤ o)) → (cs.take off ++ vs ++ cs.drop (off + ti.size))[j]? = some (.sl dd xs) →
                ∃ dd, j ∈ ow ∧ j ≠ off ∧ cs[j]? = some (.sl dd xs) ∧ arr.getD j undef = arr'.getD j undef := fun j dd xs hj hx => by
              simp only [List.mem_filter, Bool.or_eq_true, decide_eq_true_eq] at hj
              obtain ⟨hj1, hj2⟩ := hj
              have hx' := splice_get (cells := cs) (cs := vs) (off := off) (by omega) (by rw [hle1]; exact hx)
              rw [if_neg (by omega)] at hx'
              refine ⟨dd, hj1, by omega, hx', ?_⟩
              have hlt : j < arr.size := Nat.lt_of_lt_of_le (List.getElem?_eq_some_iff.1 hx').1 hle4
              have := splice_out (cs := (a.eval x).cells.toList) (off := off) (by rw [hwl, hal]; omega) (by rw [hwl]; exact hj2) (show arr.toList[j]? = some (arr.getD j undef) by rw [Array.getElem?_toList]; exact get_of_lt hlt)
              rw [harr']
              exact (getD_arr (by rw [List.getElem?_toArray]; exact this)).symm
            -- what is written at its head
            have headIs : ∀ (dd : Bool) (xs : List (List V)), (cs.take off ++ vs ++ cs.drop (off + ti.size))[off]? = some (.sl dd xs) → isSl (ev st.fr x) = true → ev st.fr x = .sl dd xs ∧ arr'.getD off undef = a.eval x := fun dd xs hx hsl => by
              obtain ⟨d0, x0, hev⟩ : ∃ d0 x0, ev st.fr x = .sl d0 x0 := by
                cases hv : ev st.fr x <;> rw [hv] at hsl <;> simp [isSl] at hsl
                exact ⟨_, _, rfl⟩
              rw [hev] at hvs
              simp only [cellsV, Option.some.injEq] at hvs
              have hx' := splice_get (cells := cs) (cs := vs) (off := off) (by omega) (by rw [hle1]; exact hx)
              rw [if_pos (by omega), Nat.sub_self, ← hvs] at hx'
              simp at hx'
              obtain ⟨e1, e2⟩ := hx'
              subst e1; subst e2
              refine ⟨hev, ?_⟩
              have h1c : (a.eval x).cells = #[a.eval x] := cells_one (one_of_rel hxr (by rw [hev]; rfl))
              have hne := hnew.1
              rw [harr', h1c]
              refine getD_arr ?_
              rw [List.getElem?_toArray, List.append_assoc, List.getElem?_append_right (by simp; omega), List.getElem?_append_left (by simp; omega)]
              have e0 : (arr.toList.take off).length = off := by rw [List.length_take, hal]; omega
              rw [e0, Nat.sub_self]
              rfl
            have hset := fun (own' : List Nat) (ow' : List Nat) (hown : ∀ t, t ∈ own' → t ∈ st.own) hheld => h.setBlk (W' := W.setRow g arr') (off0 := off) (ow' := ow') (own' := own') hb hg hw (setRow_heap' hw) hnsz' (fun g' hne => setRow_other' hne) (by simp) rfl ⟨rfl, Nat.le_refl _⟩ rfl ⟨hnew.1, fun hso => by rw [hnsz', hsz.2 hso, ← hle1, splice_length (by omega)]⟩ hnew.2.1 hnew.2.2 hown hheld
            simp only at hs
            split at hs
            · cases hs
              exact hset st.own _ (fun _ h => h) fun j dd xs hj hx => .inr (.inl (keepIt j dd xs hj hx))
            · rename_i hmv
              cases hs
              refine hset st.own _ (fun _ h => h) fun j dd xs hj hx => ?_
              rcases List.mem_cons.1 hj with rfl | hj
              · have hxe : x = .const (.slice none 0 0) := by
                  unfold movesFrom at hmv
                  split at hmv
                  · split at hmv <;> cases hmv
                  · rfl
                  · cases hmv
                have hsl : isSl (ev st.fr x) = true := by rw [hxe]; rfl
                obtain ⟨e1, e2⟩ := headIs dd xs hx hsl
                rw [hxe] at e1 e2
                simp only [ev, ofConst, V.sl.injEq] at e1
                obtain ⟨_, rfl⟩ := e1
                exact .inl ⟨none, by rw [e2]; rfl⟩
              · exact .inr (.inl (keepIt j dd xs hj hx))
            · rename_i u hmv
              cases hs
              refine hset _ _ (fun t ht => (List.mem_filter.1 ht).1) fun j dd xs hj hx => ?_
              rcases List.mem_cons.1 hj with rfl | hj
              · unfold movesFrom at hmv
                split at hmv
                · rename_i u'
                  split at hmv
                  · rename_i hc
                    cases hmv
                    simp only [Bool.and_eq_true, List.contains_iff_mem] at hc
                    obtain ⟨e1, e2⟩ := headIs dd xs hx hc.2
                    refine .inr (.inr ⟨rfl, u, dd, hc.1, by simp, ?_, ?_⟩)
                    · simp only [ev] at e1
                      rcases hu : st.fr[u]? with _ | y
                      · rw [List.getD_eq_getElem?_getD, hu] at e1; cases e1
                      · rw [getD_of_get hu] at e1; rw [e1]
                    · rw [e2]; rfl
                  · cases hmv
                · cases hmv
                · cases hmv
              · exact .inr (.inl (keepIt j dd xs hj hx))
        · cases hs
      · cases hs
    · cases hs

end Go.Abs
/-! Conversions, least and greatest; then every operation at once. -/
namespace Go.Abs
open Go.Lib
variable [BT] {F : Fence} {n : Nat} {P : Program} {cfg : Cfg} {B : Base} {W : World} {I : Nat → Nat → Prop} {m : List (Option Nat)} {st st' : St} {a : Act} {o : Oper} {tmps : Array Value}

theorem mapM_bytes : ∀ (xs : List (List V)) (bs : List UInt8), xs.mapM rowByte = some bs → ∃ ns : List Int, xs = ns.map (fun n => [V.int .u8 n]) ∧ bs = ns.map fun n => UInt8.ofNat n.toNat
  | [], bs, h => by simp at h; subst h; exact ⟨[], rfl, rfl⟩
  | r :: xs, bs, h => by
    rw [List.mapM_cons] at h
    simp only [Option.bind_eq_bind, Option.bind_eq_some_iff, Option.pure_def, Option.some.injEq] at h
    obtain ⟨b, hb, bs', hbs, rfl⟩ := h
    obtain ⟨ns, rfl, rfl⟩ := mapM_bytes xs bs' hbs
    unfold rowByte at hb
    split at hb
    · rename_i n
      simp only [Option.some.injEq] at hb
      subst hb
      exact ⟨n :: ns, rfl, rfl⟩
    · cases hb

theorem run_convV (hok : cfg.Ok P) (h : Sim B W I m st tmps) {src dst : TypeId} {x v : V} {vx : Value} (hv : convV cfg src dst x = some v) (hx : Rel W I m x vx) :
    ∃ w W' I', (convert src dst vx).run P W = .ok w W' ∧ Sim B W' I' m st tmps ∧ Rel W' I' m v w := by
  unfold convV at hv
  split at hv
  · rename_i ks kd k n hks hkd
    obtain ⟨d1, hu1, hk1⟩ := hok.kind hks
    obtain ⟨d2, hu2, hk2⟩ := hok.kind hkd
    have := kok_int hk2; subst this
    cases hv
    rw [rel_int_inv hx]
    exact ⟨_, W, I, by simp [convert, run_und hu1, run_und hu2, Conv.intToInt], h, .int⟩
  · rename_i ks kd s hks hkd
    obtain ⟨d1, hu1, hk1⟩ := hok.kind hks
    obtain ⟨d2, hu2, hk2⟩ := hok.kind hkd
    have := kok_str hk2; subst this
    cases hv
    have hvx := rel_str_inv hx
    rw [hvx]
    exact ⟨.string ⟨s.toArray⟩, W, I, by simp [convert, run_und hu1, run_und hu2], h, .str (by simp)⟩
  · rename_i ks kd e d xs hks hkd
    obtain ⟨d1, hu1, hk1⟩ := hok.kind hks
    obtain ⟨d2, hu2, hk2⟩ := hok.kind hkd
    have := kok_slice hk1; subst this
    have := kok_str hk2; subst this
    split at hv
    · rename_i he
      obtain ⟨d3, hu3, hk3⟩ := hok.kind he
      have := kok_int hk3; subst this
      obtain ⟨bs, hbs, rfl⟩ := Option.map_eq_some_iff.1 hv
      obtain ⟨ns, rfl, rfl⟩ := mapM_bytes _ _ hbs
      obtain ⟨aa, c, g, oo, sz, f, rfl, hc, ha, hs, hi, hr⟩ := rel_sl_inv hx
      cases aa with
      | none =>
        have h0 : ns = [] := by
          cases ns with
          | nil => rfl
          | cons n ns => have := ha (by simp); cases this
        subst h0
        exact ⟨_, W, I, run_convert_bytes_nil (P := P) (w := W) src e hu1 hu3 _ _ dst hu2, h, .str rfl⟩
      | some aa =>
        refine ⟨_, W, I, ?_, h, .str (s := strOfNums ns) (strOfNums_data ns)⟩
        have hsz : ns ≠ [] → sz = 1 := fun hne => by
          cases ns with
          | nil => exact absurd rfl hne
          | cons n ns => exact (hs 0 _ rfl).symm
        rcases hns : ns with _ | ⟨n0, ns0⟩
        · subst hns
          rw [run_convert_bytes_string W src dst e _ _ c hu1 hu3 hu2]
          simp [Conv.bytesToString, loadCells, loadCellsFrom, strOfNums, ByteArray.empty, ByteArray.emptyWithCapacity]
          rfl
        · rw [← hns]
          have hne : ns ≠ [] := by rw [hns]; simp
          have haa := ha (by simpa using hne)
          cases haa
          refine run_convert_bytes_arg W src e hu1 hu3 _ oo _ c ns (by simp) (fun i hi' => ?_) dst hu2
          have hlt : i < ns.length := by simpa using hi'
          have h1 : (ns.map fun n => [V.int .u8 n])[i]? = some [V.int .u8 (ns[i])] := by simp [hlt]
          have hcell := (hi i _ 0 _ h1 rfl).2.1
          have hrel := hr i _ 0 _ h1 rfl
          have := rel_int_inv hrel
          rw [hsz hne] at hcell
          rw [show oo + (i * 1 + 0) = oo + i by omega, this] at hcell
          rw [hcell]
          simp [List.getD_eq_getElem?_getD, hlt]
    · cases hv
  · rename_i ks kd e s hks hkd
    obtain ⟨d1, hu1, hk1⟩ := hok.kind hks
    obtain ⟨d2, hu2, hk2⟩ := hok.kind hkd
    have := kok_slice hk2; subst this
    split at hv
    · rename_i he
      obtain ⟨he, hks'⟩ := he
      obtain ⟨d3, hu3, hk3⟩ := hok.kind he
      have := kok_int hk3; subst this
      subst hks'
      have := kok_str hk1; subst this
      cases hv
      rw [rel_str_inv hx]
      have hss : (⟨s.toArray⟩ : ByteArray).size = s.length := by simp [ByteArray.size]
      have hrun := run_bytes_of_string (P := P) W src dst e ⟨s.toArray⟩ hu1 hu2 hu3
      rw [hss] at hrun
      obtain ⟨arr, harr⟩ : ∃ arr, arr = bytesRow ⟨s.toArray⟩ (grownCap W s.length 0 e) := ⟨_, rfl⟩
      rw [← harr] at hrun
      have hcap := grownCap_ge W s.length 0 e
      have hsize : s.length ≤ arr.size := by rw [harr]; simp [bytesRow, hss]
      have hget : ∀ (j : Nat) (b : UInt8), s[j]? = some b → arr.getD j undef = .int .u8 b.toNat := fun j b hb => by
        have hlt := (List.getElem?_eq_some_iff.1 hb).1
        refine getD_arr ?_
        rw [harr]
        simp only [bytesRow]
        rw [Array.getElem?_append_left (by simp; omega)]
        simp [hb]
      obtain ⟨hS, hK⟩ := h.newRow arr e (arr.size, arr.size + 1) (W1 := W.drew) rfl rfl ⟨rfl, Nat.le_succ _⟩ rfl s.length hsize
      have hnew : (W.drew.alloc (.cells arr e (arr.size, arr.size + 1))).heap[W.heap.size]? = some (.cells arr e (arr.size, arr.size + 1)) := heap_alloc_new W.drew _
      refine ⟨_, _, _, hrun, hS, .sl (g := W.heap.size) (o := 0) (sz := 1) (f := fun i _ => arr.getD i undef) (by simp) hcap (fun _ => rfl) (fun i row h => ?_) (fun i row j x h1 h2 => ?_) fun i row j x h1 h2 => ?_⟩
      · simp only [List.getElem?_map, Option.map_eq_some_iff] at h
        obtain ⟨b, _, rfl⟩ := h; rfl
      · simp only [List.getElem?_map, Option.map_eq_some_iff] at h1
        obtain ⟨b, hb, rfl⟩ := h1
        have hlt := (List.getElem?_eq_some_iff.1 hb).1
        cases j with
        | succ j => simp [byteRow] at h2
        | zero =>
          refine ⟨.inr ⟨rfl, by omega⟩, ?_, by rw [hget i b hb]; rfl⟩
          rw [cell_of_blk hnew, show 0 + (i * 1 + 0) = i by omega]
          exact get_of_lt (by omega)
      · simp only [List.getElem?_map, Option.map_eq_some_iff] at h1
        obtain ⟨b, hb, rfl⟩ := h1
        cases j with
        | succ j => simp [byteRow] at h2
        | zero =>
          simp [byteRow] at h2
          subst h2
          rw [hget i b hb]
          exact .int
    · cases hv
  · cases hv

theorem minmax_sim (mx : Bool) : ∀ (l : List V) (ws : List Value) (v : V), minmax mx l = some v → l.length = ws.length → (∀ (j : Nat) (x : V) (w : Value), l[j]? = some x → ws[j]? = some w → Rel W I m x w) →
    ∃ w0 r w, ws = w0 :: r ∧ (r.foldlM (if mx then Builtin.max2 else Builtin.min2) w0).run P W = .ok w W ∧ Rel W I m v w := by
  intro l
  induction hn : l.length using Nat.strongRecOn generalizing l with
  | _ k ih =>
    intro ws v h hl hr
    subst hn
    rw [minmax_def] at h
    split at h
    · rename_i k' a'
      cases h
      cases ws with
      | nil => simp at hl
      | cons w0 r =>
        cases r with
        | cons _ _ => simp at hl
        | nil =>
          have := rel_int_inv (hr 0 _ _ rfl rfl)
          subst this
          exact ⟨_, [], _, rfl, rfl, .int⟩
    · rename_i k1 x k2 y r
      split at h
      · rename_i hk
        subst hk
        cases ws with
        | nil => simp at hl
        | cons w0 ws =>
          cases ws with
          | nil => simp at hl
          | cons w1 ws =>
            have e0 := rel_int_inv (hr 0 _ _ rfl rfl)
            have e1 := rel_int_inv (hr 1 _ _ rfl rfl)
            subst e0; subst e1
            obtain ⟨w0', r', w, hw, hrun, hrel⟩ := ih (r.length + 1) (by simp) (_ :: r) (by simp) (.int k1 (if mx then (if x < y then y else x) else (if y < x then y else x)) :: ws) v h (by simp at hl ⊢; omega) (fun j x w hx hw => by
              cases j with
              | zero => simp at hx hw; subst hx; subst hw; exact .int
              | succ j => exact hr (j + 2) x w (by simpa using hx) (by simpa using hw))
            cases hw
            refine ⟨_, _, w, rfl, ?_, hrel⟩
            rw [List.foldlM_cons]
            cases mx
            · simp only [Bool.false_eq_true, if_false] at hrun ⊢
              simpa [Builtin.min2] using hrun
            · simp only [if_true] at hrun ⊢
              simpa [Builtin.max2] using hrun
      · cases h
    · cases h

theorem run_convPV (hok : cfg.Ok P) (h : Sim B W I m st a.tmps) {src dst : TypeId} {x v : V} {vx : Value} (hv : convPV cfg st.hp src dst x = some v) (hx : Rel W I m x vx) : ∃ w, (convert src dst vx).run P W = .ok w W ∧ Rel W I m v w := by
  unfold convPV at hv
  split at hv
  · rename_i t id off hks hkd
    obtain ⟨ds, hus, hks⟩ := hok.kind hks
    obtain ⟨dd, hud, hkd⟩ := hok.kind hkd
    cases ds <;> simp [KOk] at hks
    cases dd <;> simp [KOk] at hkd
    subst hks
    split at hv
    · rename_i ti t' ow cs hti hb
      obtain ⟨i, d, z, T⟩ := hok.ty _ _ hti
      split at hv
      · rename_i hc
        cases hv
        cases hx with
        | @ptr _ _ _ g hg =>
          obtain ⟨arr, hw, hs, h1, hr⟩ := h.blkAt hb hg
          refine ⟨_, run_to_unsafe (w := W) (e := t') (cells := arr.size) ⟨g, off, none⟩ hus hud T.info (by rw [T.size]; exact hc.1) (by simp [World.shape?, hw]) (Nat.lt_of_lt_of_le hc.2 hs.1), .ptr hg⟩
      · cases hv
    · cases hv
  · rename_i t id off hks hkd
    obtain ⟨ds, hus, hks⟩ := hok.kind hks
    obtain ⟨dd, hud, hkd⟩ := hok.kind hkd
    cases ds <;> simp [KOk] at hks
    cases dd <;> simp [KOk] at hkd
    subst hkd
    split at hv
    · rename_i ti t' ow cs hti hb
      obtain ⟨i, d, z, T⟩ := hok.ty _ _ hti
      split at hv
      · rename_i hc
        obtain ⟨rfl, rfl, hc, hnz, hso⟩ := hc
        cases hv
        cases hx with
        | @ptr _ _ _ g hg =>
          obtain ⟨arr, hw, hs, h1, hr⟩ := h.blkAt hb hg
          have hcells : P.cellsOf t' = ti.size := by simp [Program.cellsOf, T.info, T.size]
          refine ⟨_, run_from_unsafe (w := W) (e := t') (cells := arr.size) ⟨g, 0, none⟩ hus hud T.info (by simp [World.shape?, hw]) ?_, .ptr hg⟩
          have hd : P.depth = (2 * (P.types.size + Made.depth) + 1) + 1 := rfl
          have h1 : arr.size / P.cellsOf t' = 1 := by rw [hs.2 ((hok.bt4 _).2 hso), hc, hcells]; exact Nat.div_self (Nat.pos_of_ne_zero hnz)
          simp only [h1]
          rw [hd]
          simp only [liesAt, Bool.or_eq_true]
          left
          rw [hd]
          simp [rowAt, hcells, hnz, sameLayout]
      · cases hv
    · cases hv
  · cases hv

end Go.Abs
/-! Every operation: what the interpreter says of it is what the model does. -/
namespace Go.Abs
open Go.Lib
variable [BT] {F : Fence} {n : Nat} {P : Program} {cfg : Cfg} {B : Base} {W : World} {I : Nat → Nat → Prop} {m : List (Option Nat)} {st st' : St} {a : Act} {o : Oper} {tmps : Array Value} {orc : Orc}

structure CallOk (P : Program) (orc : Orc) : Prop where
  call : ∀ f args hp v own hp', orc.call f args hp = some (v, own, hp') →
    (∃ fn, P.funcs[f]? = some fn ∧ (fn.name == "runtime.NumGoroutine") = false ∧ fn.body.isNone = false) ∧
    ∀ (F : Fence) (n : Nat) (B : Base) (I : Nat → Nat → Prop) (vargs : Array Value), FOk F → B.n0 = B.m.length → B.D = [] → Sim B B.W I B.m { fr := args, own := [], hp := hp, al := [], nb := hp.length } vargs →
        CallsIn F n P f vargs B.W fun e W' => ∃ w I' m', e = .returned w ∧ Sim B W' I' m' (ret v own hp') #[w]
  round : ∀ id args hp b hp', orc.round id args hp = some (b, hp') →
    ∀ (F : Fence) (n : Nat) (B : Base) (I : Nat → Nat → Prop) (vargs : Array Value) (g : Nat), FOk F → B.n0 = B.m.length → B.D = [] → Sim B B.W I B.m { fr := .yld id :: args, own := [], hp := hp, al := [], nb := hp.length } (#[.func (.yield g) #[] #[]] ++ vargs) →
      ∃ r, B.W.heap[g]? = some (.loop r) ∧ vargs.size = r.params.size ∧
        RoundIn F n P g r.fn ((r.params.zip vargs).foldl (fun tmps (t, a) => tmps.setIfInBounds t a) r.tmps) r.assign r.body B.W fun e W' => ∃ I' m', e = .returned (.bool b) ∧ Sim B W' I' m' (ret (.bool b) false hp') #[.bool b]

def After (B : Base) (st' : St) (ds : List Deferred) (a' : Act) (W' : World) : Prop := a'.defers = ds ∧ ∃ I' m', Sim B W' I' m' st' a'.tmps

theorem wp_of_gives {next : Act → World → Prop} {Q : Exit → Act → World → Prop} (hF : FOk F) (hnd : ∀ c, o.op ≠ .defer c) (h : Gives P B o a W st') (k : ∀ a' W', After B st' a.defers a' W' → next a' W') : o.wpIn F n P a W next Q := by
  obtain ⟨w, W', I', m', hrun, hS⟩ := h
  exact wp_value hF hnd hrun (k _ _ ⟨put_defers _ _ _, I', m', by rw [put_tmps]; exact hS⟩)

theorem gives_val {s : Sem Value} {v : V} (h : Sim B W I m st a.tmps) (he : execOp a.eval o = (do pure (.value (← s)) : Sem Next)) (hr : ∃ w, s.run P W = .ok w W ∧ Rel W I m v w) : Gives P B o a W (st.put o.dst v) := by
  obtain ⟨w, hrun, hrel⟩ := hr
  exact gives_put h hrel (by rw [he]; simp only [Sem.run_bind, hrun, Result.andThen_ok, Sem.run_pure])

theorem gives_mem {s : Sem Value} {v : V} (he : execOp a.eval o = (do pure (.value (← s)) : Sem Next)) (hr : ∃ w W' I', s.run P W = .ok w W' ∧ Sim B W' I' m st a.tmps ∧ Rel W' I' m v w) : Gives P B o a W (st.put o.dst v) := by
  obtain ⟨w, W', I', hrun, hS, hrel⟩ := hr
  exact ⟨w, W', I', m, by rw [he]; simp only [Sem.run_bind, hrun, Result.andThen_ok, Sem.run_pure], hS.put o.dst hrel⟩

theorem map_put {x : Option V} {st' : St} {d : Option Tmp} (h : (x.map fun v => st.put d v) = some st') : ∃ v, x = some v ∧ st' = st.put d v := by
  obtain ⟨v, h1, h2⟩ := Option.map_eq_some_iff.1 h
  exact ⟨v, h1, h2.symm⟩

theorem fr_get {u : Tmp} {x : V} (hne : x ≠ .any) (h : ev st.fr (.tmp u) = x) : st.fr[u]? = some x := by
  simp only [ev] at h
  rcases hu : st.fr[u]? with _ | y
  · rw [List.getD_eq_getElem?_getD, hu] at h; exact absurd h.symm hne
  · rw [getD_of_get hu] at h; rw [h]

theorem aput_other {tmps : Array Value} {d u : Nat} {w : Value} (h : u ≠ d) : (aput tmps (some d) w).getD u undef = tmps.getD u undef := by
  simp only [aput, Array.getD_eq_getD_getElem?, Array.getElem?_setIfInBounds]; rw [if_neg (fun e => h e.symm)]

theorem move_sim (h : Sim B W I m st a.tmps) {x : Operand} {lim : Bool} {dst : Option Tmp} (hev : (match x with
    | .tmp u => if st.own.contains u && !lim && dst != some u then some ((st.put dst (ev st.fr x)).alias dst (some (.tmp u))) else some (st.put dst (ev st.fr x))
    | _ => some (st.put dst (ev st.fr x))) = some st') : Sim B W I m st' (aput a.tmps dst (a.eval x)) := by
  have hput := h.put dst (rel_ev h x)
  split at hev
  · rename_i u
    split at hev
    · rename_i hc
      cases hev
      simp only [Bool.and_eq_true, bne_iff_ne, ne_eq] at hc
      refine hput.aliasIn _ _ fun t o' ht ho => ?_
      cases ho
      subst ht
      simp only [AliasOk]
      have hne : u ≠ t := fun e => hc.2 (by rw [e])
      rw [aput_other hne]
      simp only [Act.eval]
      intro hlt
      simp only [aput]; rw [getD_set (by simpa [aput] using hlt), if_pos rfl]
    · cases hev; exact hput
  · cases hev; exact hput

theorem assign_sim (h : Sim B W I m st a.tmps) {x : Operand} {lim : Bool} {dst : Option Tmp} (hev : (match x with
    | .tmp u => if st.own.contains u && !lim then some ((dropOwn st (.tmp u)).putOwn dst (ev st.fr x) true) else some (st.put dst (ev st.fr x))
    | .const (.slice none 0 0) => if lim then some (st.put dst (.sl true [])) else some (st.putOwn dst (.sl true []) true)
    | _ => some (st.put dst (ev st.fr x))) = some st') : Sim B W I m st' (aput a.tmps dst (a.eval x)) := by
  split at hev
  · rename_i u
    split at hev
    · rename_i hc
      cases hev
      simp only [Bool.and_eq_true, List.contains_iff_mem] at hc
      obtain ⟨h1, h2⟩ := h.dropOwn (.tmp u)
      have hput := h1.put dst (rel_ev h (.tmp u))
      cases dst with
      | none => exact h1
      | some d =>
        by_cases hsl : ∃ dd xs, st.fr[u]? = some (.sl dd xs)
        · obtain ⟨dd, xs, hx⟩ := hsl
          have hev' : ev st.fr (.tmp u) = .sl dd xs := by simp only [ev]; exact getD_of_get hx
          have hheld : Held W m st a.tmps (.tmp u) xs (a.eval (.tmp u)) := .tmp hc.1 hx
          have hget : d < ((dropOwn st (.tmp u)).put (some d) (ev st.fr (.tmp u))).fr.length → (aput a.tmps (some d) (a.eval (.tmp u))).getD d undef = a.eval (.tmp u) := fun hd => by
            simp only [aput]; rw [getD_set (by rw [h.len]; simpa [St.put, dropOwn] using hd), if_pos rfl]
          refine Sim.owns hput d (dd := dd) (xs := xs) (fun hd => by simp only [St.put, dropOwn] at hd ⊢; rw [List.getElem?_set]; simp at hd; simp [hd, hev']) (fun hd => by rw [hget hd]; exact h.own _ _ _ hheld)
            (fun g hd hcl => by rw [hget hd] at hcl; exact h.ownA _ _ _ _ hheld hcl) fun l xs' v' g hh hcl hd hcl' => ?_
          rw [hget hd] at hcl'
          obtain ⟨hh, hne⟩ := held_put hh
          obtain ⟨hh, hne'⟩ := h2 _ _ _ hh
          exact absurd (h.ownInj _ _ _ _ _ _ _ hh hheld hcl hcl') hne'
        · -- what is owned is no slice: nothing is claimed
          have hno : ∀ {l xs v}, Held W m (St.owns ((dropOwn st (.tmp u)).put (some d) (ev st.fr (.tmp u))) (some d) true) (aput a.tmps (some d) (a.eval (.tmp u))) l xs v → Held W m ((dropOwn st (.tmp u)).put (some d) (ev st.fr (.tmp u))) (aput a.tmps (some d) (a.eval (.tmp u))) l xs v := fun hh => by
            cases hh with
            | @tmp t d' xs' h1 h2 =>
              simp only [St.owns, if_true, List.mem_cons] at h1 h2
              rcases h1 with rfl | h1
              · exfalso
                simp only [St.put, dropOwn] at h2
                rw [List.getElem?_set, if_pos rfl] at h2
                split at h2
                · simp only [Option.some.injEq] at h2
                  exact hsl ⟨d', _, fr_get (by simp) h2⟩
                · cases h2
              · exact .tmp h1 h2
            | cell h1 h2 h3 h4 h5 => exact .cell h1 h2 h3 h4 h5
          exact ⟨hput.grow, hput.pre, hput.live, hput.len, hput.fr, hput.mlen, hput.inj, hput.blk, hput.mA, hput.notI, fun l xs v k => hput.own l xs v (hno k), fun l xs v g k => hput.ownA l xs v g (hno k),
            fun l l' xs xs' v v' g k k' => hput.ownInj l l' xs xs' v v' g (hno k) (hno k'), hput.al, hput.nb⟩
    · cases hev; exact h.put dst (rel_ev h _)
  · have hput := h.put dst (rel_ev h (.const (.slice none 0 0)))
    split at hev
    · cases hev; exact hput
    · cases hev
      cases dst with
      | none => exact hput
      | some d =>
        have hget : d < (st.put (some d) (.sl true [])).fr.length → (aput a.tmps (some d) (a.eval (.const (.slice none 0 0)))).getD d undef = .slice none 0 0 := fun hd => by
          simp only [aput]; rw [getD_set (by rw [h.len]; simpa [St.put] using hd), if_pos rfl]; rfl
        refine Sim.owns hput d (dd := true) (xs := []) (fun hd => by simp only [St.put] at hd ⊢; rw [List.getElem?_set]; simp at hd; simp [hd, ev, ofConst]) (fun hd => by rw [hget hd]; exact .inl ⟨none, rfl⟩)
          (fun g hd hcl => by rw [hget hd] at hcl; cases hcl) fun l xs' v' g hh hcl hd hcl' => by rw [hget hd] at hcl'; cases hcl'
  · cases hev; exact h.put dst (rel_ev h _)

end Go.Abs
/-! append, loads, slices, calls; every operation at once. -/
namespace Go.Abs
open Go.Lib
variable [BT] {F : Fence} {n : Nat} {P : Program} {cfg : Cfg} {B : Base} {W : World} {I : Nat → Nat → Prop} {m : List (Option Nat)} {st st' : St} {a : Act} {o : Oper} {tmps : Array Value} {orc : Orc}

theorem Sim.putOwn (h : Sim B W I m st tmps) (dst : Option Tmp) {d : Bool} {xs : List (List V)} {w : Value} (hr : Rel W I m (.sl d xs) w) (ho : OwnRow W I xs w)
    (hc : ∀ g, claimOf w = some g → some g ∉ m ∧ (B.A g ∨ B.W.heap.size ≤ g) ∧ ∀ l xs' v', Held W m st tmps l xs' v' → claimOf v' ≠ some g) : Sim B W I m (st.putOwn dst (.sl d xs) true) (aput tmps dst w) := by
  cases dst with
  | none => exact h
  | some t =>
    have hget : t < (st.put (some t) (.sl d xs)).fr.length → (aput tmps (some t) w).getD t undef = w := fun hd => by
      simp only [aput]; rw [getD_set (by rw [h.len]; simpa [St.put] using hd), if_pos rfl]
    refine Sim.owns (h.put (some t) hr) t (dd := d) (xs := xs) (fun hd => by simp only [St.put] at hd ⊢; rw [List.getElem?_set]; simp at hd; simp [hd]) (fun hd => by rw [hget hd]; exact ho)
      (fun g hd hcl => by rw [hget hd] at hcl; exact ⟨(hc g hcl).2.1, (hc g hcl).1⟩) fun l xs' v' g hh hcl hd hcl' => ?_
    rw [hget hd] at hcl'
    exact absurd hcl ((hc g hcl').2.2 l xs' v' (held_put hh).1)

theorem cellOwner_inv {hp : List Blk} {x : V} {ow : Owner} (h : cellOwner hp x = some ow) : ∃ id off ty own cs, x = .ptr id off ∧ ow = .cell id off ∧ hp[id]? = some (.cells ty own cs) ∧ off ∈ own := by
  unfold cellOwner at h
  split at h
  · rename_i id off
    split at h
    · rename_i ty own cs hb
      split at h
      · rename_i hc
        cases h
        exact ⟨id, off, ty, own, cs, rfl, rfl, hb, by simpa using hc⟩
      · cases h
    · cases h
  · cases h

theorem findAlias_mem {t : Tmp} {o : Owner} : ∀ {l : List (Tmp × Owner)}, findAlias t l = some o → (t, o) ∈ l
  | [], h => by simp [findAlias] at h
  | (u, p) :: r, h => by
    unfold findAlias at h
    split at h
    · rename_i e; subst e; cases h; exact List.mem_cons_self
    · exact List.mem_cons_of_mem _ (findAlias_mem h)

theorem owner_sim (h : Sim B W I m st a.tmps) {u : Tmp} {ow : Owner} {d1 : Bool} {xs : List (List V)} {size : Nat} (hx : ev st.fr (.tmp u) = .sl d1 xs) (ho : ownerOf st u = some ow) (hf : heldFits size (heldV st ow) = true) (hb : headByte xs = false ∨ heldByte (heldV st ow) = true) (hfx : rowsFit size xs = true) :
    OwnRow W I xs (a.eval (.tmp u)) ∧ ∀ g, claimOf (a.eval (.tmp u)) = some g → some g ∉ m ∧ (B.A g ∨ B.W.heap.size ≤ g) ∧ ∀ l xs' v', Held W m (dropOwn st ow) a.tmps l xs' v' → claimOf v' ≠ some g := by
  have hxu := fr_get (by simp) hx
  have hlt : u < a.tmps.size := by rw [h.len]; exact (List.getElem?_eq_some_iff.1 hxu).1
  have hval : a.eval (.tmp u) = a.tmps.getD u undef := rfl
  have hrelu : Rel W I m (.sl d1 xs) (a.tmps.getD u undef) := h.fr u _ hxu
  -- the owner holds the same value
  have key : ∃ ys, Held W m st a.tmps ow ys (a.tmps.getD u undef) ∧ (∃ d2, Rel W I m (.sl d2 ys) (a.tmps.getD u undef)) ∧ rowsFit size ys = true ∧ heldByte (heldV st ow) = headByte ys := by
    unfold ownerOf at ho
    split at ho
    · rename_i hc
      cases ho
      refine ⟨xs, .tmp (by simpa using hc) hxu, ⟨d1, hrelu⟩, hfx, ?_⟩
      simp only [ev] at hx
      simp only [heldV, hx]; rfl
    · split at ho
      · rename_i o' hfind
        split at ho
        · rename_i hown
          cases ho
          have hal := h.al _ _ (findAlias_mem hfind)
          cases ow with
          | tmp t =>
            simp only [AliasOk] at hal
            simp only [isOwner, List.contains_iff_mem] at hown
            simp only [heldV] at hf
            cases hv : st.fr.getD t .any with
            | sl d2 ys =>
              rw [hv] at hf
              have ht := fr_get (u := t) (x := .sl d2 ys) (by simp) (by simp only [ev]; exact hv)
              refine ⟨ys, ?_, ⟨d2, ?_⟩, hf, by simp only [heldV, hv]; rfl⟩
              · rw [hal hlt]; exact .tmp hown ht
              · rw [hal hlt]; exact h.fr t _ ht
            | _ => rw [hv] at hf; simp [heldFits] at hf
          | cell id off =>
            simp only [isOwner] at hown
            obtain ⟨ow', how'⟩ := Option.isSome_iff_exists.1 hown
            obtain ⟨id', off', ty, own, cs, e1, e2, hb, hmem⟩ := cellOwner_inv how'
            cases e1
            obtain ⟨g, hg, hc⟩ := hal hlt
            simp only [heldV, hb] at hf
            cases hv : cs.getD off .any with
            | sl d2 ys =>
              rw [hv] at hf
              have hcs : cs[off]? = some (.sl d2 ys) := by
                rcases hq : cs[off]? with _ | y
                · rw [List.getD_eq_getElem?_getD, hq] at hv; cases hv
                · rw [getD_of_get hq] at hv; rw [hv]
              refine ⟨ys, .cell hb hmem hcs hg hc, ⟨d2, ?_⟩, hf, by simp only [heldV, hb, hv]; rfl⟩
              obtain ⟨arr, hw, hsz, h1, hr⟩ := h.blkAt hb hg
              have := hr off _ hcs
              rw [cell_of_blk hw] at hc
              rwa [getD_arr hc] at this
            | _ => rw [hv] at hf; simp [heldFits] at hf
          | base id off => simp [isOwner] at hown
        · cases ho
      · cases ho
  obtain ⟨ys, hheld, ⟨d2, hrely⟩, hfy, hby⟩ := key
  rw [hval]
  have hoy := h.own _ _ _ hheld
  have hlen : xs.length = ys.length := by
    obtain ⟨a1, c1, _, _, _, _, e1, _⟩ := rel_sl_inv hrelu
    obtain ⟨a2, c2, _, _, _, _, e2, _⟩ := rel_sl_inv hrely
    rw [e1] at e2; simp only [Value.slice.injEq] at e2; exact e2.2.1
  refine ⟨?_, fun g hg => ⟨(h.ownA _ _ _ _ hheld hg).2, (h.ownA _ _ _ _ hheld hg).1, fun l xs' v' hh hcl => ?_⟩⟩
  · rcases hoy with ⟨aa, e⟩ | ⟨g, c, arr, e, sz, fz, e1, hne, hrows, hh, hfz, hs, hle, hfree, htg⟩
    · exact .inl ⟨aa, by rw [hlen]; exact e⟩
    · obtain ⟨a1, c1, g1, o1, sz1, f1, e1', hc1, ha1, hs1, hi1, hr1⟩ := rel_sl_inv hrelu
      have hne' : xs ≠ [] := by
        intro hx; subst hx
        exact hne (List.eq_nil_of_length_eq_zero (by simpa using hlen.symm))
      have hsz : sz = size := by
        cases ys with
        | nil => exact absurd rfl hne
        | cons r ys => rw [← hrows r (by simp)]; simpa [rowsFit] using hfy
      have hszx : sz1 = size := rows_size hfx hs1 hne'
      exact .inr ⟨g, c, arr, e, sz, fz, by rw [hlen]; exact e1, hne', fun row hrow => by
        obtain ⟨q, hq⟩ := List.mem_iff_getElem?.1 hrow
        rw [hs1 q row hq, hszx, hsz], hh, by rw [hlen]; exact hfz, hs, by rw [hlen]; exact hle, by rw [hlen]; exact hfree, fun hbx => htg (hby ▸ hb.resolve_left (by rw [hbx]; simp))⟩
  · obtain ⟨hh', hne⟩ := (h.dropOwn ow).2 _ _ _ hh
    exact hne (h.ownInj _ _ _ _ _ _ _ hh' hheld hcl hg)

theorem appendTo_sim (hok : cfg.Ok P) {st1 : St} (h : Sim B W I m st1 tmps) {t tx ty e : TypeId} {ti : TI} (hk : (cfg.ty t).map TI.k = some (.slice e)) (hti : cfg.ty e = some ti) (hsz : ¬ (ti.size = 0 ∨ ti.bytes = 0)) {dst : Option Tmp} {d1 : Bool} {xs : List (List V)} {x : V} {v vx : Value}
    (hev : appendTo cfg ti dst t tx d1 xs x st1 = some st') (hv : Rel W I m (.sl d1 xs) v) (hx : Rel W I m x vx) (hown : rowsFit ti.size xs = true → OwnRow W I xs v ∧ ∀ g, claimOf v = some g → some g ∉ m ∧ (B.A g ∨ B.W.heap.size ≤ g) ∧ ∀ l xs' v', Held W m st1 tmps l xs' v' → claimOf v' ≠ some g) :
    ∃ w W' I', (Builtin.append_ #[t, tx] ty #[v, vx]).run P W = .ok w W' ∧ Sim B W' I' m st' (aput tmps dst w) := by
  obtain ⟨d, hu, hkd⟩ := hok.kind hk
  have := kok_slice hkd; subst this
  obtain ⟨i, d', z, T⟩ := hok.ty _ _ hti
  unfold appendTo at hev
  split at hev
  · rename_i d2 ys
    split at hev
    · rename_i hc
      obtain ⟨htx, hmost, hfy, hfx, htag⟩ := hc
      subst htx
      cases hev
      obtain ⟨news, S⟩ := src_sl (P := P) hx hfy
      obtain ⟨ho, hcl⟩ := hown hfx
      obtain ⟨w, W', I', hrun, hS, hrel, ho', hcl'⟩ := append_sim (ty := ty) h T hu hu (.inl rfl) (fun h => hsz (.inl h)) (fun h => hsz (.inr h)) hv ho hfx S hmost (fun hb => htag.elim (hok.bt1 _ _ hti) fun hn => by rw [hn] at hb; cases hb) hcl
      exact ⟨w, W', I', hrun, hS.putOwn dst hrel ho' hcl'⟩
    · cases hev
  · rename_i b
    split at hev
    · rename_i hc
      obtain ⟨hks, hku, h1, hmost, hfx⟩ := hc
      cases hev
      obtain ⟨dx, hux, hkx⟩ := hok.kind hks
      have := kok_str hkx; subst this
      obtain ⟨news, S⟩ := src_str (P := P) hx
      rw [← h1] at S
      obtain ⟨ho, hcl⟩ := hown hfx
      obtain ⟨w, W', I', hrun, hS, hrel, ho', hcl'⟩ := append_sim (ty := ty) h T hu hux (.inr rfl) (fun h => hsz (.inl h)) (fun h => hsz (.inr h)) hv ho hfx S (by simpa using hmost) (fun _ => hok.bt1 _ _ hti hku) hcl
      exact ⟨w, W', I', hrun, hS.putOwn dst hrel ho' hcl'⟩
    · cases hev
  · cases hev

theorem appendOp_sim (hok : cfg.Ok P) (h : Sim B W I m st a.tmps) {dst : Option Tmp} {t tx ty : TypeId} {s x : Operand} (hev : appendOp cfg dst t tx s x st = some st') :
    ∃ w W' I', (Builtin.append_ #[t, tx] ty #[a.eval s, a.eval x]).run P W = .ok w W' ∧ Sim B W' I' m st' (aput a.tmps dst w) := by
  unfold appendOp at hev
  split at hev
  · rename_i e hk
    split at hev
    · rename_i ti hti
      split at hev
      · cases hev
      · rename_i hsz
        split at hev
        · rename_i u
          split at hev
          · rename_i d1 xs hx
            split at hev
            · cases hev
            · rename_i ow ho
              split at hev
              · rename_i hf
                have h1 := (h.dropOwn ow).1
                have hrs := rel_ev h (.tmp u)
                rw [hx] at hrs
                simp only [Bool.and_eq_true] at hf
                exact appendTo_sim hok h1 hk hti hsz hev hrs (rel_ev h x) fun hfx => owner_sim h hx ho hf.1 (by simpa using hf.2) hfx
              · cases hev
          · cases hev
        · exact appendTo_sim hok h hk hti hsz hev (rel_const (.slice none 0 0)) (rel_ev h x) fun _ => ⟨.inl ⟨none, rfl⟩, fun g hg => by cases hg⟩
        · cases hev
    · cases hev
  · cases hev

theorem load_sim (hok : cfg.Ok P) (h : Sim B W I m st a.tmps) {t : TypeId} {p : Operand} {lim : Bool} {dst : Option Tmp}
    (hev : ((loadV cfg st.hp t (ev st.fr p)).map fun v => if isSl v && !lim then (st.put dst v).alias dst (cellOwner st.hp (ev st.fr p)) else st.put dst v) = some st') :
    ∃ w, (Instr.loadAt t (a.eval p)).run P W = .ok w W ∧ Sim B W I m st' (aput a.tmps dst w) := by
  obtain ⟨v, hv, rfl⟩ := Option.map_eq_some_iff.1 hev
  obtain ⟨w, hrun, hrel⟩ := run_loadV hok h hv (rel_ev h p)
  refine ⟨w, hrun, ?_⟩
  have hput := h.put dst hrel
  split
  · rename_i hc
    simp only [Bool.and_eq_true] at hc
    refine hput.aliasIn _ _ fun d o' hd ho => ?_
    subst hd
    obtain ⟨id, off, ty, own, cs, e1, rfl, hb, hmem⟩ := cellOwner_inv ho
    simp only [AliasOk]
    intro hlt
    have hlt' : d < a.tmps.size := by simpa [aput] using hlt
    -- the cell that is loaded
    have hp := rel_ev h p
    rw [e1] at hp hv
    obtain ⟨g, hg, hpv⟩ : ∃ g, m[id]? = some (some g) ∧ a.eval p = .pointer (some ⟨g, off, none⟩) := by
      generalize a.eval p = vp at hp
      cases hp with
      | ptr hg => exact ⟨_, hg, rfl⟩
    obtain ⟨arr, hw, hsz, h1, hr⟩ := h.blkAt hb hg
    refine ⟨g, hg, ?_⟩
    simp only [loadV] at hv
    split at hv
    · cases hv
    · rename_i ti hti
      obtain ⟨i, dd, z, T⟩ := hok.ty _ _ hti
      simp only [hb] at hv
      split at hv
      · rename_i hle
        have hna : ti.k.isAgg = false := by
          cases hk : ti.k.isAgg with
          | false => rfl
          | true =>
            rw [hk] at hv
            simp only [mkV, if_true, Option.some.injEq] at hv
            subst hv
            simp [isSl] at hc
        rw [hpv] at hrun
        have hs1 : 0 < ti.size := by
          rw [hna] at hv
          simp only [mkV, Bool.false_eq_true, if_false] at hv
          split at hv
          · rename_i hq
            have := congrArg List.length hq
            simp at this
            omega
          · cases hv
        have hload : (Instr.loadAt t (.pointer (some ⟨g, off, none⟩))).run P W = .ok (arr.getD off undef) W := by
          have hcell : W.cell? ⟨g, off, none⟩ = some (arr.getD off undef) := by rw [cell_of_blk hw]; exact get_of_lt (by have := hsz.1; omega)
          simp [Instr.loadAt, Instr.sureAddr, loadVar, isAgg_run T, hna, run_load, hcell]
        rw [hload] at hrun
        have hw' : arr.getD off undef = w := (Result.ok.inj hrun).1
        simp only [aput]
        rw [getD_set hlt', if_pos rfl, cell_of_blk hw, ← hw']
        exact get_of_lt (by have := hsz.1; omega)
      · cases hv
  · exact hput

theorem slice_sim (hok : cfg.Ok P) (h : Sim B W I m st a.tmps) {t : TypeId} {x : Operand} {lo hi mx : Option Operand} {lim : Bool} {dst : Option Tmp}
    (hev : ((sliceV cfg t (ev st.fr x) (lo.map (ev st.fr)) (hi.map (ev st.fr)) (mx.map (ev st.fr))).map fun v =>
      if !lim && isSl v && capZero (lo.map (ev st.fr)) (mx.map (ev st.fr)) then st.putOwn dst v true else st.put dst v) = some st') :
    ∃ w, (Instr.sliceAt t (a.eval x) (lo.map a.eval) (hi.map a.eval) (mx.map a.eval)).run P W = .ok w W ∧ Sim B W I m st' (aput a.tmps dst w) := by
  obtain ⟨v, hv, rfl⟩ := Option.map_eq_some_iff.1 hev
  obtain ⟨w, hrun, hrel, hz⟩ := run_sliceV hok hv (rel_ev h x) (orel_ev h lo) (orel_ev h hi) (orel_ev h mx)
  refine ⟨w, hrun, ?_⟩
  split
  · rename_i hc
    simp only [Bool.and_eq_true] at hc
    obtain ⟨aa, d, rfl, rfl⟩ := hz hc.1.2 hc.2
    exact h.putOwn dst hrel (.inl ⟨aa, rfl⟩) fun g hg => by cases aa <;> cases hg
  · exact h.put dst hrel

end Go.Abs
/-! The bytes of a builder: a slice's base, and the string that lies there. -/
namespace Go.Abs
open Go.Lib
variable [BT] {F : Fence} {n : Nat} {P : Program} {cfg : Cfg} {B : Base} {W : World} {I : Nat → Nat → Prop} {m : List (Option Nat)} {st st' : St} {a : Act} {o : Oper} {tmps : Array Value} {orc : Orc}

theorem freeze_other {g g' k : Nat} (h : g' ≠ g) : (W.freeze ⟨g, 0, none⟩ k).heap[g']? = W.heap[g']? := by
  unfold World.freeze
  split
  · rfl
  · simp only [Array.getElem?_modify]; rw [if_neg (fun e => h e.symm)]

theorem freeze_at {g k : Nat} {arr : Array Value} {e : TypeId} {fz : Nat × Nat} (h : W.heap[g]? = some (.cells arr e fz)) : ∃ fz', (W.freeze ⟨g, 0, none⟩ k).heap[g]? = some (.cells arr e fz') ∧ fz'.2 ≤ max fz.2 k := by
  unfold World.freeze
  split
  · exact ⟨fz, h, by omega⟩
  · simp only [Array.getElem?_modify]
    obtain ⟨lo, hi⟩ := fz
    simp only [if_true, h, Option.map_some]
    refine ⟨_, rfl, ?_⟩
    split <;> simp <;> omega

theorem freeze_size {g k : Nat} : (W.freeze ⟨g, 0, none⟩ k).heap.size = W.heap.size := by
  unfold World.freeze; split <;> simp

theorem freeze_cell {g k g' q : Nat} {arr : Array Value} {e : TypeId} {fz : Nat × Nat} (h : W.heap[g]? = some (.cells arr e fz)) : (W.freeze ⟨g, 0, none⟩ k).cell? ⟨g', q, none⟩ = W.cell? ⟨g', q, none⟩ := by
  by_cases hg : g' = g
  · subst hg
    obtain ⟨fz', h1, _⟩ := freeze_at (k := k) h
    rw [cell_of_blk h1, cell_of_blk h]
  · exact cell_same (freeze_other hg)

theorem freeze_os {g k : Nat} : (W.freeze ⟨g, 0, none⟩ k).os = W.os := by unfold World.freeze; split <;> rfl
theorem freeze_tape {g k : Nat} : TapeLe W (W.freeze ⟨g, 0, none⟩ k) := by unfold World.freeze; split <;> exact ⟨rfl, Nat.le_refl _⟩
theorem freeze_output {g k : Nat} : (W.freeze ⟨g, 0, none⟩ k).output = W.output := by unfold World.freeze; split <;> rfl

theorem held_same {l : Owner} {xs xs' : List (List V)} {v v' : Value} (h : Held W m st tmps l xs v) (h' : Held W m st tmps l xs' v') : xs' = xs ∧ v' = v := by
  obtain ⟨l', hl'⟩ : ∃ l', l' = l := ⟨_, rfl⟩
  rw [← hl'] at h'
  cases h with
  | tmp a1 a2 =>
    cases h' with
    | tmp b1 b2 => cases hl'; rw [a2] at b2; cases b2; exact ⟨rfl, rfl⟩
    | cell b1 b2 b3 b4 b5 => cases hl'
  | cell a1 a2 a3 a4 a5 =>
    cases h' with
    | tmp b1 b2 => cases hl'
    | cell b1 b2 b3 b4 b5 =>
      cases hl'
      rw [a1] at b1; cases b1
      rw [a3] at b3; cases b3
      rw [a4] at b4; cases b4
      rw [a5] at b5; cases b5
      exact ⟨rfl, rfl⟩

theorem Sim.freeze (h : Sim B W I m st tmps) {l : Owner} {xs : List (List V)} {v : Value} {g k sz : Nat} {arr : Array Value} {e : TypeId} {fz : Nat × Nat} (hh : Held W m st tmps l xs v) (hc : claimOf v = some g) (hw : W.heap[g]? = some (.cells arr e fz))
    (hsz : ∀ row ∈ xs, row.length = sz) (hk : k ≤ xs.length * sz) : Sim B (W.freeze ⟨g, 0, none⟩ k) I m st tmps := by
  obtain ⟨hA, hm⟩ := h.ownA _ _ _ _ hh hc
  have hcell : ∀ g' q, (W.freeze ⟨g, 0, none⟩ k).cell? ⟨g', q, none⟩ = W.cell? ⟨g', q, none⟩ := fun g' q => freeze_cell hw
  have hkeep : KeepI I W (W.freeze ⟨g, 0, none⟩ k) := ⟨fun g' q _ => hcell g' q, info_but (fun g' hne => freeze_other hne) fun p hp => by obtain ⟨fz', hf⟩ := freeze_at (k := k) hw; simpa [rowInfo, hf, hw] using hp⟩
  have hheld : ∀ {l xs v}, Held (W.freeze ⟨g, 0, none⟩ k) m st tmps l xs v → Held W m st tmps l xs v := fun hh => by
    cases hh with
    | tmp h1 h2 => exact .tmp h1 h2
    | cell h1 h2 h3 h4 h5 => exact .cell h1 h2 h3 h4 (by rw [← hcell]; exact h5)
  refine ⟨⟨freeze_os.trans h.grow.os, freeze_tape.trans h.grow.tape, freeze_output.trans h.grow.output, by rw [freeze_size]; exact h.grow.size, fun g' hg' ha => (freeze_other fun e => ?_).trans (h.grow.same g' hg' ha), h.grow.sub, h.grow.fresh,
      h.grow.keep.after hkeep h.grow.sub, fun g' hg' => (freeze_other fun e => h.heldD hh hc (e ▸ h.grow.dfr g' hg')).trans (h.grow.dfr g' hg'), h.grow.dnd⟩, h.pre, fun g' q hi => ?_, h.len, fun t x hx => (h.fr t x hx).mono (fun _ _ h => h) hkeep (List.prefix_refl _), h.mlen, h.inj, fun id b hb => ?_, h.mA, h.notI,
    fun l' xs' v' k' => ?_, fun l' xs' v' g' k' => h.ownA l' xs' v' g' (hheld k'), fun l' l'' xs' xs'' v' v'' g' k' k'' => h.ownInj l' l'' xs' xs'' v' v'' g' (hheld k') (hheld k''), fun t o ho => ?_, h.nb⟩
  · subst e
    rcases hA with hA | hA
    · exact ha hA
    · omega
  · obtain ⟨u, hu⟩ := h.live g' q hi
    exact ⟨u, (hcell g' q).trans hu⟩
  · obtain ⟨x, hx, hb'⟩ := h.blk id b hb
    exact ⟨x, hx, hb'.mono (fun _ _ h => h) hkeep (MLe.refl _) fun g' e => freeze_other fun e2 => hm (by subst e2; subst e; exact List.mem_of_getElem? hx)⟩
  · have hk' := hheld k'
    have ho := h.own _ _ _ hk'
    by_cases hcl : claimOf v' = some g
    · have e := h.ownInj _ _ _ _ _ _ _ hh hk' hc hcl
      subst e
      rcases ho with ho | ⟨g1, c1, arr1, e1, sz1, fz1, rfl, p1, p2, p3, p4, p5, p6, p7, p8⟩
      · exact .inl ho
      · have : g1 = g := by simpa [claimOf] using hcl
        subst this
        rw [hw] at p3; cases p3
        obtain ⟨fz', q1, q2⟩ := freeze_at (k := k) hw
        refine .inr ⟨g1, c1, arr, e, sz1, fz', rfl, p1, p2, q1, ?_, p5, p6, p7, p8⟩
        have hx := (held_same hh hk').1
        subst hx
        have : sz1 = sz := by
          cases xs' with
          | nil => exact absurd rfl p1
          | cons r xs => rw [← p2 r (by simp), ← hsz r (by simp)]
        subst this
        omega
    · exact ho.mono (fun g' hg' => freeze_other fun e => hcl (e ▸ hg')) fun _ _ _ h => h
  · have := h.al t o ho
    cases o with
    | tmp u => exact this
    | cell id off =>
      intro hlt
      obtain ⟨g', hg', hc'⟩ := this hlt
      exact ⟨g', hg', (hcell _ _).trans hc'⟩
    | base id off =>
      intro hlt
      obtain ⟨g', a', n', c', p', hg', hc', hp'⟩ := this hlt
      exact ⟨g', a', n', c', p', hg', (hcell _ _).trans hc', hp'⟩

theorem owned_cell (h : Sim B W I m st a.tmps) {id off : Nat} (ho : isOwner st (.cell id off) = true) {d : Bool} {xs : List (List V)} (hv : heldV st (.cell id off) = .sl d xs) {g : Nat} {v : Value} (hg : m[id]? = some (some g)) (hc : W.cell? ⟨g, off, none⟩ = some v) :
    Held W m st a.tmps (.cell id off) xs v ∧ Rel W I m (.sl d xs) v := by
  simp only [isOwner] at ho
  obtain ⟨ow', how'⟩ := Option.isSome_iff_exists.1 ho
  obtain ⟨id', off', ty, own, cs, e1, e2, hb, hmem⟩ := cellOwner_inv how'
  cases e1
  simp only [heldV, hb] at hv
  have hcs : cs[off]? = some (.sl d xs) := by
    rcases hq : cs[off]? with _ | y
    · rw [List.getD_eq_getElem?_getD, hq] at hv; cases hv
    · rw [getD_of_get hq] at hv; rw [hv]
  refine ⟨.cell hb hmem hcs hg hc, ?_⟩
  obtain ⟨arr, hw, hsz, h1, hr⟩ := h.blkAt hb hg
  have := hr off _ hcs
  rw [cell_of_blk hw] at hc
  rwa [getD_arr hc] at this

theorem dataOp_sim (h : Sim B W I m st a.tmps) {dst : Option Tmp} {x : Operand} {ts : Array TypeId} {ty : TypeId} (hev : dataOp dst x st = some st') :
    ∃ w, (Builtin.unsafeSliceData_ ts ty #[a.eval x]).run P W = .ok w W ∧ Sim B W I m st' (aput a.tmps dst w) := by
  unfold dataOp at hev
  split at hev
  · rename_i u
    split at hev
    · rename_i id off hf
      split at hev
      · rename_i hc
        cases hev
        simp only [Bool.and_eq_true] at hc
        obtain ⟨⟨ho, hs⟩, hsl⟩ := hc
        have hal := h.al _ _ (findAlias_mem hf)
        have hxu : ∃ y, ev st.fr (.tmp u) = y ∧ y ≠ .any := ⟨_, rfl, fun e => by rw [e] at hsl; simp [isSl] at hsl⟩
        obtain ⟨y, hy, hyn⟩ := hxu
        have hfu := fr_get hyn hy
        have hlt : u < a.tmps.size := by rw [h.len]; exact (List.getElem?_eq_some_iff.1 hfu).1
        obtain ⟨g, hg, hcell⟩ := hal hlt
        cases hv : heldV st (.cell id off) <;> rw [hv] at hs <;> simp [heldSome] at hs
        rename_i d xs
        obtain ⟨hheld, hrelv⟩ := owned_cell h ho hv hg hcell
        have hne : xs ≠ [] := by intro e; subst e; simp [heldSome] at hs
        have hno : (st.put dst .any).alias dst (some (.base id off)) = (st.put dst .any).alias dst (some (.base id off)) := rfl
        -- what lies there
        have fin : ∀ p : Option Addr, (∀ (aa : Option Addr) (n c : Nat), a.eval (.tmp u) = .slice aa n c → c ≠ 0 → p = aa) → Sim B W I m ((st.put dst .any).alias dst (some (.base id off))) (aput a.tmps dst (.pointer p)) := fun p hp => by
          refine (h.put dst .any).aliasIn _ _ fun t o' ht ho' => ?_
          cases ho'
          subst ht
          intro htl
          have htl' : t < a.tmps.size := by simpa [aput] using htl
          have hval : (aput a.tmps (some t) (.pointer p)).getD t undef = .pointer p := by simp only [aput]; rw [getD_set htl', if_pos rfl]
          rcases h.own _ _ _ hheld with ⟨aa, e⟩ | ⟨g1, c1, arr1, e1, sz1, fz1, e2, _⟩
          · exact ⟨g, aa, _, _, p, hg, hcell.trans (congrArg some e), hval, fun hc => absurd rfl hc⟩
          · exact ⟨g, _, _, _, p, hg, hcell.trans (congrArg some e2), hval, fun hc => hp _ _ _ e2 hc⟩
        have hrel : Rel W I m (ev st.fr (.tmp u)) (a.eval (.tmp u)) := rel_ev h (.tmp u)
        rcases h.own _ _ _ hheld with ⟨aa, e⟩ | ⟨g1, c1, arr1, e1, sz1, fz1, e2, _⟩
        · exfalso
          rw [e] at hrelv
          obtain ⟨_, c1, _, _, _, _, e1, hc1, _⟩ := rel_sl_inv hrelv
          cases e1
          exact hne (List.eq_nil_of_length_eq_zero (by omega))
        · have e3 : a.eval (.tmp u) = .slice (some ⟨g1, 0, none⟩) xs.length (c1 + 1) := e2
          refine ⟨.pointer (some ⟨g1, 0, none⟩), ?_, fin _ fun aa n c he _ => ?_⟩
          · rw [e3]; exact run_unsafeSliceData_row _ _ _ _ _ _ (by omega)
          · rw [e3] at he; cases he; rfl
      · cases hev
    · cases hev
  · cases hev

theorem mapM_bytesS : ∀ (xs : List (List V)) (bs : List UInt8), xs.mapM rowByteS = some bs → xs = bs.map byteRow
  | [], bs, h => by simp at h; subst h; rfl
  | r :: xs, bs, h => by
    rw [List.mapM_cons] at h
    simp only [Option.bind_eq_bind, Option.bind_eq_some_iff, Option.pure_def, Option.some.injEq] at h
    obtain ⟨b, hb, bs', h2, rfl⟩ := h
    rw [mapM_bytesS xs bs' h2]
    unfold rowByteS at hb
    split at hb
    · rename_i n
      split at hb
      · rename_i hn
        cases hb
        simp only [List.map_cons, byteRow]
        rw [← hn]
      · cases hb
    · cases hb

theorem textOp_sim (hok : cfg.Ok P) (h : Sim B W I m st a.tmps) {dst : Option Tmp} {p n : Operand} {t it ty : TypeId} (hev : textOp cfg dst t p n st = some st') :
    ∃ w W', (Builtin.unsafeString_ #[t, it] ty #[a.eval p, a.eval n]).run P W = .ok w W' ∧ Sim B W' I m st' (aput a.tmps dst w) := by
  unfold textOp at hev
  split at hev
  · rename_i e u hte
    split at hev
    · rename_i id off hee hf
      split at hev
      · rename_i ho
        split at hev
        · rename_i d xs k hv hk
          split at hev
          · rename_i bs hbs
            split at hev
            · rename_i hlen
              cases hev
              obtain ⟨hk1, hk2⟩ := hlen
              obtain ⟨ti, hti, hke⟩ := Option.map_eq_some_iff.1 hee
              have hbyte := hok.bt1 e ti hti hke
              obtain ⟨hund, hcells⟩ := hok.bt2 e hbyte
              obtain ⟨tt, htt, hkt⟩ := Option.map_eq_some_iff.1 hte
              obtain ⟨i, dd, z, T⟩ := hok.ty t tt htt
              have hptr : P.underlying t = some (.pointer e) := by
                have hkd := T.kind
                rw [hkt] at hkd
                rw [T.und]
                cases dd <;> simp [KOk] at hkd
                rw [hkd]
              have hxs := mapM_bytesS xs bs hbs
              have hn : a.eval n = .int .i64 bs.length := by
                have := rel_ev h n
                rw [hk] at this
                rw [rel_int_inv this, hk1]
              have hal := h.al _ _ (findAlias_mem hf)
              simp only [Bool.and_eq_true, Nat.blt_eq] at ho
              obtain ⟨ho, hlt⟩ := ho
              rw [← h.len] at hlt
              obtain ⟨g, aa, n1, c1, p1, hg, hcell, hval, hpa⟩ := hal hlt
              obtain ⟨hheld, hrelv⟩ := owned_cell h ho hv hg hcell
              have hp : a.eval (.tmp u) = .pointer p1 := hval
              rw [hp, hn]
              have hb0 : bs.length = 0 → bs = [] := List.eq_nil_of_length_eq_zero
              have hnew : ∀ {W' : World} (_ : Sim B W' I m st a.tmps), Sim B W' I m (st.put dst (.str bs)) (aput a.tmps dst (.string ⟨bs.toArray⟩)) := fun hS => hS.put dst (.str (by simp))
              by_cases hbe : bs = []
              · subst hbe
                refine ⟨_, W, run_unsafeString_none _ t it ty p1, ?_⟩
                exact hnew h
              · have hne : xs ≠ [] := by rw [hxs]; simpa using hbe
                rcases h.own _ _ _ hheld with ⟨aa', e1⟩ | ⟨g1, c2, arr1, e1, sz1, fz1, e2, q1, q2, q3, q4, q5, q6, q7, q8⟩
                · exfalso
                  rw [e1] at hrelv
                  obtain ⟨_, c3, _, _, _, _, e3, hc3, _⟩ := rel_sl_inv hrelv
                  cases e3
                  exact hne (List.eq_nil_of_length_eq_zero (by omega))
                · have hhb : headByte xs = true := by
                    rw [hxs]
                    cases bs with
                    | nil => exact absurd rfl hbe
                    | cons b bs => rfl
                  have he1 : e1 = e := (q8 hhb).trans hbyte.symm
                  subst he1
                  cases e2
                  have hp1 := hpa (by omega)
                  subst hp1
                  have hsz : sz1 = 1 := by
                    rw [hxs] at q2
                    cases bs with
                    | nil => exact absurd rfl hbe
                    | cons b bs => exact (q2 (byteRow b) (by simp)).symm
                  subst hsz
                  have hxl : xs.length = bs.length := by rw [hxs]; simp
                  obtain ⟨aa3, c3, g3, o3, sz3, f3, e3, _, ha3, hs3, hi3, hr3⟩ := rel_sl_inv hrelv
                  cases e3
                  have := ha3 hne
                  cases this
                  have hsz3 : sz3 = 1 := by
                    obtain ⟨r, hr⟩ : ∃ r, xs[0]? = some r := by
                      rcases xs with _ | ⟨r, xs⟩
                      · exact absurd rfl hne
                      · exact ⟨r, rfl⟩
                    rw [← hs3 0 r hr]
                    exact q2 r (List.mem_of_getElem? hr)
                  subst hsz3
                  have hrun := run_unsafeString_row (P := P) (w := W) t it ty e1 hptr hcells g1 arr1.size (by unfold World.shape?; rw [q3]) bs hbe (by rw [q5]; omega) (by unfold strMax at hk2; omega) (fun j x hx => by
                    have hrow : xs[j]? = some (byteRow x) := by rw [hxs]; simp [hx]
                    obtain ⟨_, k2, _⟩ := hi3 j (byteRow x) 0 (.int .u8 x.toNat) hrow rfl
                    have k3 := hr3 j (byteRow x) 0 (.int .u8 x.toNat) hrow rfl
                    rw [rel_int_inv k3] at k2
                    have : (⟨g1, 0, none⟩ : Addr).add j = ⟨g1, j, none⟩ := by cases j <;> simp [Addr.add]
                    rw [this]
                    simpa using k2)
                  refine ⟨_, _, hrun, hnew ?_⟩
                  refine h.freeze hheld rfl q3 q2 (by rw [hxl]; omega)
            · cases hev
          · cases hev
        · cases hev
      · cases hev
    · cases hev
  · cases hev

end Go.Abs
/-! Literals whose slices are left out: these slices have no room. -/
namespace Go.Abs
open Go.Lib
variable [BT] {F : Fence} {n : Nat} {P : Program} {cfg : Cfg} {B : Base} {W : World} {I : Nat → Nat → Prop} {m : List (Option Nat)} {st st' : St} {a : Act} {o : Oper} {tmps : Array Value} {orc : Orc}

theorem nilRow_get : ∀ (l : List V) (j : Nat) (x : V), (nilRow l)[j]? = some x → ∃ y, l[j]? = some y ∧ x = if isSl y then .nils else y
  | [], j, x, h => by simp [nilRow] at h
  | v :: r, 0, x, h => by simp [nilRow] at h; exact ⟨v, rfl, h.symm⟩
  | v :: r, j + 1, x, h => by simpa using nilRow_get r j x (by simpa [nilRow] using h)
theorem nilRow_length : ∀ l : List V, (nilRow l).length = l.length
  | [] => rfl
  | v :: r => by simp [nilRow, nilRow_length r]
theorem rowRel_nil {t : TypeId} {ti : TI} {i : TypeInfo} {d : TypeDesc} {z : Value} (T : TyOk P t ti i d z) : RowRel W I m (nilRow ti.zero) z.cells := by
  obtain ⟨h1, h2, h3⟩ := rowRel_zero (W := W) (I := I) (m := m) T
  refine ⟨by rw [nilRow_length]; exact h1, fun j x hx => ?_, fun j x hx => ?_⟩
  · obtain ⟨y, hy, _⟩ := nilRow_get _ _ _ hx
    exact h2 j y hy
  · obtain ⟨y, hy, rfl⟩ := nilRow_get _ _ _ hx
    split
    · rename_i hs
      rw [T.zeq] at hy
      simp only [List.getElem?_map, Option.map_eq_some_iff, Array.getElem?_toList] at hy
      obtain ⟨w, hw1, hw2⟩ := hy
      rw [getD_arr hw1]
      cases y with
      | sl d xs =>
        obtain ⟨rfl, _⟩ := ofConst_sl hw2
        exact .nils
      | _ => simp [isSl] at hs
    · exact h3 j y hy

theorem run_buildN (hok : cfg.Ok P) (h : Sim B W I m st a.tmps) {t : TypeId} {parts : Array (Nat × Operand)} {v : V} (hv : buildN cfg t (parts.toList.map fun (p : Nat × Operand) => (p.1, ev st.fr p.2)) = some v) (hk : fieldsKnown cfg t = true) :
    ∃ w, (Instr.build t (parts.map fun (p : Nat × Operand) => (p.1, a.eval p.2))).run P W = .ok w W ∧ Rel W I m v w := by
  obtain ⟨hl, hpq⟩ := parts_rel h parts
  unfold buildN at hv
  split at hv
  · cases hv
  · rename_i ti hti
    obtain ⟨i, d, z, T⟩ := hok.ty _ _ hti
    have hz : (zeroValue t).run P W = .ok z W := by simp [zeroValue, typeInfo, T.info, T.zero]
    have hkd := T.kind
    split at hv
    · rename_i eq fs hks
      rw [hks] at hkd
      obtain ⟨fields, rfl, rfl⟩ := kok_struct hkd
      obtain ⟨out, hout, rfl⟩ := Option.map_eq_some_iff.1 hv
      have hinfo : ∀ x ∈ fields.toList, ∃ ti i, cfg.ty x.type = some ti ∧ P.info? x.type = some i ∧ i.size = ti.size := fun x hx => by
        simp only [fieldsKnown, hti, Option.map_some, hks, List.all_eq_true] at hk
        have := hk (x.offset, x.type) (List.mem_map.2 ⟨x, hx, rfl⟩)
        obtain ⟨ti', hti'⟩ := Option.isSome_iff_exists.1 this
        obtain ⟨i', d', z', T'⟩ := hok.ty _ _ hti'
        exact ⟨ti', i', hti', T'.info, T'.size⟩
      have hplaces : (fields.mapM fun f => (do pure (f.offset, ← sizeOf f.type) : Sem (Nat × Nat))).run P W = .ok (fields.map fun f => (f.offset, P.cellsOf f.type)) W := by
        have hm := mapM_sizes (P := P) (W := W) (ts := []) (fun _ => none) fields.toList fun x hx => by obtain ⟨_, i', _, h2, _⟩ := hinfo x hx; exact ⟨i', h2⟩
        rw [Array.mapM_eq_mapM_toList]
        simp only [Sem.run_bind, Sem.run_map, hm]
        simp only [Result.andThen]
        congr 1
        apply Array.ext'
        simp
      obtain ⟨arr', h1, h2⟩ := fill_sim (W := W) (I := I) (m := m) (place' := fun i => (fields.map fun f => (f.offset, P.cellsOf f.type))[i]?) (fun i => by
        rcases hf : fields[i]? with _ | f
        · right; simp [hf]
        · obtain ⟨ti', i', h1, h2, h3⟩ := hinfo f (by rw [Array.mem_toList_iff]; exact Array.mem_of_getElem? hf)
          left
          simp [hf, h1, Program.cellsOf, h2, h3]) _ _ _ _ z.cells hout hl hpq (rowRel_nil T)
      refine ⟨_, ?_, rel_agg h2⟩
      simp only [Instr.build, Sem.run_bind, hz, Result.andThen_ok, run_und T.und, hplaces]
      rw [h1]
      rfl
    · cases hv

theorem nilAt_mem : ∀ (k : Nat) (l : List V) (o : Nat), o ∈ nilAt k l → k ≤ o ∧ l[o - k]? = some .nils
  | k, [], o, h => by simp [nilAt] at h
  | k, v :: r, o, h => by
    have step : o ∈ nilAt (k + 1) r → k ≤ o ∧ (v :: r)[o - k]? = some .nils := fun h => by
      obtain ⟨h1, h2⟩ := nilAt_mem (k + 1) r o h
      refine ⟨by omega, ?_⟩
      rw [show o - k = (o - (k + 1)) + 1 by omega]
      simpa using h2
    unfold nilAt at h
    split at h
    · rename_i hv
      rcases List.mem_cons.1 h with rfl | h
      · refine ⟨Nat.le_refl _, ?_⟩
        cases v <;> simp [isNils] at hv
        simp
      · exact step h
    · exact step h
theorem rel_unnil {v : V} {w : Value} (h : Rel W I m v w) : Rel W I m (unnil v) w := by
  unfold unnil
  split
  · rename_i hv
    cases v <;> simp [isNils] at hv
    cases h
    exact .sl (g := 0) (o := 0) (sz := 0) (f := fun _ _ => undef) rfl (by simp) (by simp) (by simp) (by simp) (by simp)
  · exact h

theorem storeN_sim (hok : cfg.Ok P) (h : Sim B W I m st a.tmps) {t : TypeId} {p x : Operand} (hs : storeN cfg t p x st = some st') : ∃ W', (Instr.storeAt t (a.eval p) (a.eval x)).run P W = .ok () W' ∧ Sim B W' I m st' a.tmps := by
  unfold storeN at hs
  split at hs
  · cases hs
  · rename_i ti hti
    obtain ⟨i, d, z, T⟩ := hok.ty _ _ hti
    split at hs
    · rename_i id off vs0 hp hvs
      split at hs
      · cases hs
      rename_i n0 ns hna
      split at hs
      · rename_i e ow cs hb
        split at hs
        · rename_i hle
          obtain ⟨hle1, hle2⟩ := hle
          have hpr := rel_ev h p
          rw [hp] at hpr
          have hxr := rel_ev h x
          obtain ⟨g, hg, hpv⟩ : ∃ g, m[id]? = some (some g) ∧ a.eval p = .pointer (some ⟨g, off, none⟩) := by
            generalize a.eval p = vp at hpr
            cases hpr with
            | ptr hg => exact ⟨_, hg, rfl⟩
          obtain ⟨arr, hw, hsz, h1, hr⟩ := h.blkAt hb hg
          have hrow : RowPre W I m cs arr := ⟨hsz.1, h1, hr⟩
          have hle4 := hsz.1
          have hal : arr.toList.length = arr.size := Array.length_toList
          have hvr0 : RowRel W I m vs0 (a.eval x).cells := rel_cells hxr (by rw [hvs]; rfl)
          obtain ⟨vs, hvs'⟩ : ∃ vs, vs = vs0.map unnil := ⟨_, rfl⟩
          rw [← hvs'] at hs
          have hvl : vs.length = vs0.length := by rw [hvs']; simp
          rw [← hvl] at hle1
          have hvr : RowRel W I m vs (a.eval x).cells := by
            refine ⟨by rw [hvl]; exact hvr0.1, fun j y hy => ?_, fun j y hy => ?_⟩
            · rw [hvs', List.getElem?_map, Option.map_eq_some_iff] at hy
              obtain ⟨y0, hy0, _⟩ := hy
              exact hvr0.2.1 j y0 hy0
            · rw [hvs', List.getElem?_map, Option.map_eq_some_iff] at hy
              obtain ⟨y0, hy0, rfl⟩ := hy
              exact rel_unnil (hvr0.2.2 j y0 hy0)
          have hle3 : off + vs.length ≤ cs.length := by omega
          obtain ⟨hnew, hnsz⟩ := rowPre_splice (ws := (a.eval x).cells.toList) hrow (by simpa using hvr) hle3
          obtain ⟨arr', harr'⟩ : ∃ arr', arr' = (arr.toList.take off ++ (a.eval x).cells.toList ++ arr.toList.drop (off + (a.eval x).cells.toList.length)).toArray := ⟨_, rfl⟩
          rw [← harr'] at hnew
          have hnsz' : arr'.size = arr.size := by rw [harr', List.size_toArray]; exact hnsz
          have hst := run_storeCells_at (P := P) g off e (a.eval x).cells.toList 0 arr W hw (by simp [hvr.1]; omega) fun u hu => by
            obtain ⟨j, hj⟩ := List.mem_iff_getElem?.1 hu
            have hj' : (a.eval x).cells[j]? = some u := by simpa using hj
            have hlt : j < vs.length := by rw [← hvr.1]; exact (Array.getElem?_eq_some_iff.1 hj').1
            have := hvr.2.1 j _ (List.getElem?_eq_getElem hlt)
            rwa [getD_arr hj'] at this
          simp only [Nat.add_zero] at hst
          rw [← harr'] at hst
          refine ⟨W.setRow g arr', ?_, ?_⟩
          · simp only [Instr.storeAt, hpv, Instr.sureAddr, Sem.run_bind, Sem.run_pure, Result.andThen_ok, storeVar, sizeOf_run T]
            rw [if_neg (by rw [hvr.1]; omega)]
            exact hst
          · rw [hle1] at hle3
            rw [hle1] at hnew
            obtain ⟨hle2, hnz⟩ := hle2
            have hwl : (a.eval x).cells.toList.length = ti.size := by simp [hvr.1, hle1]
            have keepIt : ∀ (j : Nat) (dd : Bool) (xs : List (List V)), j ∈ ow.filter (fun o => decide (o < off) || decide (off + ti.size ≤ o)) → (cs.take off ++ vs ++ cs.drop (off + ti.size))[j]? = some (.sl dd xs) →
                ∃ dd, j ∈ ow ∧ j ≠ off ∧ cs[j]? = some (.sl dd xs) ∧ arr.getD j undef = arr'.getD j undef := fun j dd xs hj hx => by
              simp only [List.mem_filter, Bool.or_eq_true, decide_eq_true_eq] at hj
              obtain ⟨hj1, hj2⟩ := hj
              have hx' := splice_get (cells := cs) (cs := vs) (off := off) (by omega) (by rw [hle1]; exact hx)
              rw [if_neg (by omega)] at hx'
              refine ⟨dd, hj1, by omega, hx', ?_⟩
              have hlt : j < arr.size := Nat.lt_of_lt_of_le (List.getElem?_eq_some_iff.1 hx').1 hle4
              have := splice_out (cs := (a.eval x).cells.toList) (off := off) (by rw [hwl, hal]; omega) (by rw [hwl]; exact hj2) (show arr.toList[j]? = some (arr.getD j undef) by rw [Array.getElem?_toList]; exact get_of_lt hlt)
              rw [harr']
              exact (getD_arr (by rw [List.getElem?_toArray]; exact this)).symm
            -- what is known to have no room
            have nilIs : ∀ (j : Nat) (dd : Bool) (xs : List (List V)), j ∈ nilAt off vs0 → (cs.take off ++ vs ++ cs.drop (off + ti.size))[j]? = some (.sl dd xs) → ∃ aa, arr'.getD j undef = .slice aa xs.length 0 := fun j dd xs hj hx => by
              obtain ⟨hj1, hj2⟩ := nilAt_mem _ _ _ hj
              have hlt := (List.getElem?_eq_some_iff.1 hj2).1
              have hx' := splice_get (cells := cs) (cs := vs) (off := off) (by omega) (by rw [hle1]; exact hx)
              rw [if_pos (by omega), hvs', List.getElem?_map, hj2] at hx'
              simp only [Option.map_some, unnil, isNils, if_true, Option.some.injEq, V.sl.injEq] at hx'
              obtain ⟨_, rfl⟩ := hx'
              have hrel := hvr0.2.2 _ _ hj2
              have hget : arr'.getD j undef = (a.eval x).cells.getD (j - off) undef := by
                have hlt2 : j - off < (a.eval x).cells.size := by rw [hvr0.1]; exact hlt
                rw [harr']
                refine getD_arr ?_
                have e0 : (arr.toList.take off).length = off := by rw [List.length_take, hal]; omega
                rw [List.getElem?_toArray, List.append_assoc, List.getElem?_append_right (by rw [e0]; exact hj1), List.getElem?_append_left (by rw [e0]; simpa using hlt2), e0, Array.getElem?_toList]
                exact get_of_lt hlt2
              rw [hget]
              generalize (a.eval x).cells.getD (j - off) undef = u at hrel
              cases hrel
              exact ⟨_, rfl⟩
            have hset := fun (own' : List Nat) (ow' : List Nat) (hown : ∀ t, t ∈ own' → t ∈ st.own) hheld => h.setBlk (W' := W.setRow g arr') (off0 := off) (ow' := ow') (own' := own') hb hg hw (setRow_heap' hw) hnsz' (fun g' hne => setRow_other' hne) (by simp) rfl ⟨rfl, Nat.le_refl _⟩ rfl ⟨hnew.1, fun hso => by rw [hnsz', hsz.2 hso, ← hle1, splice_length (by omega)]⟩ hnew.2.1 hnew.2.2 hown hheld
            cases hs
            refine hset st.own _ (fun _ h => h) fun j dd xs hj hx => ?_
            have hj' : j ∈ nilAt off vs0 ∨ j ∈ ow.filter (fun o => decide (o < off) || decide (off + ti.size ≤ o)) := by
              rw [hna]
              rcases List.mem_cons.1 hj with rfl | hj
              · exact .inl (by simp)
              · rcases List.mem_append.1 hj with hj | hj
                · exact .inl (List.mem_cons_of_mem _ hj)
                · exact .inr hj
            rcases hj' with hj' | hj'
            · exact .inl (nilIs j dd xs hj' hx)
            · exact .inr (.inl (keepIt j dd xs hj' hx))
        · cases hs
      · cases hs
    · cases hs

theorem boxN_sim (h : Sim B W I m st a.tmps) {t : TypeId} {x : Operand} {dst : Option Tmp} (hs : boxN t (ev st.fr x) dst st = some st') : ∃ w W' I' m', (Instr.box t (a.eval x)).run P W = .ok w W' ∧ Sim B W' I' m' st' (aput a.tmps dst w) := by
  unfold boxN at hs
  split at hs
  · rename_i vs0 hvs
    split at hs
    · cases hs
    · rename_i n0 ns hna
      cases hs
      rw [← hna]
      have hvr0 : RowRel W I m vs0 (a.eval x).cells := rel_cells (rel_ev h x) (by rw [hvs]; rfl)
      have hvr : RowRel W I m (vs0.map unnil) (a.eval x).cells := by
        refine ⟨by rw [List.length_map]; exact hvr0.1, fun j y hy => ?_, fun j y hy => ?_⟩
        · rw [List.getElem?_map, Option.map_eq_some_iff] at hy
          obtain ⟨y0, hy0, _⟩ := hy
          exact hvr0.2.1 j y0 hy0
        · rw [List.getElem?_map, Option.map_eq_some_iff] at hy
          obtain ⟨y0, hy0, rfl⟩ := hy
          exact rel_unnil (hvr0.2.2 j y0 hy0)
      refine ⟨_, _, _, _, ?_, pushBlk_sim (t := t) h hvr (fun j d xs hj hx => ?_) dst⟩
      · simp only [Instr.box, newVar, Go.newRow, Sem.run_bind, run_newObj, Result.andThen_ok, Sem.run_pure]
        rfl
      · obtain ⟨_, hj2⟩ := nilAt_mem _ _ _ hj
        rw [Nat.sub_zero] at hj2
        rw [List.getElem?_map, hj2] at hx
        simp only [Option.map_some, unnil, isNils, if_true, Option.some.injEq, V.sl.injEq] at hx
        obtain ⟨_, rfl⟩ := hx
        have hrel := hvr0.2.2 _ _ hj2
        generalize (a.eval x).cells.getD j undef = u at hrel
        cases hrel
        exact ⟨_, rfl⟩
  · cases hs

theorem nilOr_inv {b : Bool} {x y : Option St} {s : St} (h : nilOr b x y = some s) : x = some s ∨ y = some s := by
  unfold nilOr at h
  split at h
  · split at h
    · exact .inl h
    · exact .inr h
  · exact .inr h
theorem boxX_sim (h : Sim B W I m st a.tmps) {t : TypeId} {x : Operand} {o : Oper} (hs : boxX cfg t (ev st.fr x) o.dst st = some st') : ∃ w W' I' m', (Instr.box t (a.eval x)).run P W = .ok w W' ∧ Sim B W' I' m' st' (aput a.tmps o.dst w) := by
  rcases nilOr_inv hs with hs | hs
  · exact boxN_sim h hs
  · unfold boxV at hs
    split at hs
    · rename_i cs hcs
      cases hs
      exact box_sim h hcs
    · cases hs
theorem storeX_sim (hok : cfg.Ok P) (h : Sim B W I m st a.tmps) {t : TypeId} {p x : Operand} (hs : storeX cfg t p x st = some st') : ∃ W', (Instr.storeAt t (a.eval p) (a.eval x)).run P W = .ok () W' ∧ Sim B W' I m st' a.tmps := by
  rcases nilOr_inv hs with hs | hs
  · exact storeN_sim hok h hs
  · exact store_sim hok h hs
theorem run_buildX (hok : cfg.Ok P) (h : Sim B W I m st a.tmps) {t : TypeId} {c : Nat} {parts : Array (Nat × Operand)} {v : V} (hv : buildX cfg t c (parts.toList.map fun (p : Nat × Operand) => (p.1, ev st.fr p.2)) = some v) (hk : fieldsKnown cfg t = true) :
    ∃ w, (Instr.build t (parts.map fun (p : Nat × Operand) => (p.1, a.eval p.2))).run P W = .ok w W ∧ Rel W I m v w := by
  unfold buildX at hv
  split at hv
  · exact run_buildN hok h hv hk
  · exact run_buildV hok h hv hk
end Go.Abs
/-! Every operation at once. -/
namespace Go.Abs
open Go.Lib
variable [BT] {F : Fence} {n : Nat} {P : Program} {cfg : Cfg} {B : Base} {W : World} {I : Nat → Nat → Prop} {m : List (Option Nat)} {st st' : St} {a : Act} {o : Oper} {tmps : Array Value} {orc : Orc}

theorem ren_pure {f : Nat → Nat} : ∀ v : V, V.lt 0 v = true → v.ren f = v := ren_pure0

theorem renl_pure {f : Nat → Nat} : ∀ l : List V, V.ltl 0 l = true → V.renl f l = l
  | [], _ => rfl
  | v :: r, h => by
    simp only [V.ltl, V.alll, Bool.and_eq_true] at h
    simp only [V.renl]
    rw [ren_pure v h.1, renl_pure r h.2]

theorem reach_nodup (hp : List Blk) (args : List V) : (reach hp args).Nodup := List.Sublist.nodup List.filter_sublist List.nodup_range

theorem closed_sees {args : List V} (h : closedIn st.hp (reach st.hp args) args = true) : Sees st (reach st.hp args) ∧ V.alll (fun i => (reach st.hp args).contains i) args = true := by
  simp only [closedIn, Bool.and_eq_true, List.all_eq_true] at h
  refine ⟨⟨reach_nodup _ _, fun r hr => ?_⟩, h.1⟩
  have := h.2 r hr
  split at this
  · rename_i b hb
    simp only [Bool.and_eq_true] at this
    exact ⟨b, hb, this.2⟩
  · cases this

theorem sees_nil : Sees st [] := ⟨List.nodup_nil, fun r hr => by cases hr⟩

theorem call_sim (hcall : CallOk P orc) (hF : FOk F) (h : Sim B W I m st tmps) {f : FuncId} {R : List Nat} (hR : Sees st R) {args : List V} (hargs : V.alll (fun i => R.contains i) args = true) {v : V} {own : Bool} {hp : List Blk}
    (hev : orc.call f (V.renl (fun i => R.idxOf i) args) (subHp st.hp R) = some (v, own, hp))
    {vargs : Array Value} (hl : vargs.size = args.length) (hr : ∀ (j : Nat) (x : V), args[j]? = some x → Rel W I m x (vargs.getD j undef)) :
    CallsIn F n P f vargs W fun e W' => ∃ w I' m', e = .returned w ∧ Sim (Sim.base W I m st tmps R) W' I' m' (ret v own hp) #[w] := by
  obtain ⟨_, hc⟩ := hcall.call _ _ _ _ _ _ hev
  refine hc F n (Sim.base W I m st tmps R) I vargs hF rfl rfl (h.enter hR _ vargs (by simpa using hl) fun t x hx => ?_)
  obtain ⟨y, hy, rfl⟩ := renl_get hx
  exact (hr t y hy).sub (alll_get hargs hy)

theorem round_sim (hcall : CallOk P orc) (hF : FOk F) (h : Sim B W I m st tmps) {id : Nat} {R : List Nat} (hR : Sees st R) {args : List V} (hargs : V.alll (fun i => R.contains i) (.yld id :: args) = true) {b : Bool} {hp : List Blk}
    (hev : orc.round (R.idxOf id) (V.renl (fun i => R.idxOf i) args) (subHp st.hp R) = some (b, hp))
    {vargs : Array Value} {g : Nat} (hg : Rel W I m (.yld id) (.func (.yield g) #[] #[])) (hl : vargs.size = args.length) (hr : ∀ (j : Nat) (x : V), args[j]? = some x → Rel W I m x (vargs.getD j undef)) :
    ∃ r, W.heap[g]? = some (.loop r) ∧ vargs.size = r.params.size ∧
      RoundIn F n P g r.fn ((r.params.zip vargs).foldl (fun tmps (t, a) => tmps.setIfInBounds t a) r.tmps) r.assign r.body W fun e W' => ∃ I' m', e = .returned (.bool b) ∧ Sim (Sim.base W I m st tmps R) W' I' m' (ret (.bool b) false hp) #[.bool b] := by
  refine hcall.round _ _ _ _ _ hev F n (Sim.base W I m st tmps R) I vargs g hF rfl rfl (h.enter hR (V.renl (fun i => R.idxOf i) (.yld id :: args)) _ (by simp [hl, V.renl]; omega) fun t x hx => ?_)
  obtain ⟨y, hy, rfl⟩ := renl_get hx
  have hy' := alll_get hargs hy
  refine Rel.sub ?_ hy'
  cases t with
  | zero =>
    simp at hy; subst hy
    have e : (#[Value.func (.yield g) #[] #[]] ++ vargs).getD 0 undef = .func (.yield g) #[] #[] := by
      simp only [Array.getD_eq_getD_getElem?]
      rw [Array.getElem?_append_left (by simp)]
      rfl
    rw [e]; exact hg
  | succ t =>
    have := hr t y (by simpa using hy)
    have e : (#[Value.func (.yield g) #[] #[]] ++ vargs).getD (t + 1) undef = vargs.getD t undef := by
      simp only [Array.getD_eq_getD_getElem?]
      rw [Array.getElem?_append_right (by simp)]
      simp
    rw [e]; exact this

theorem pureCall_sim (hcall : CallOk P orc) (hF : FOk F) (h : Sim B W I m st tmps) {f : FuncId} {args : List V} {v : V} {own : Bool} {hp : List Blk} (hev : orc.call f args [] = some (v, own, hp)) (hpure : V.ltl 0 args = true)
    {vargs : Array Value} (hl : vargs.size = args.length) (hr : ∀ (j : Nat) (x : V), args[j]? = some x → Rel W I m x (vargs.getD j undef)) :
    CallsIn F n P f vargs W fun e W' => ∃ w I' m', e = .returned w ∧ Sim (Sim.base W I m st tmps []) W' I' m' (ret v own hp) #[w] := by
  refine call_sim hcall hF h sees_nil (R := []) (args := args) ?_ ?_ hl hr
  · rw [alll_iff]
    intro x hx
    have := alll_iff.1 hpure x hx
    exact (show (fun i => Nat.blt i 0) = (fun i => ([] : List Nat).contains i) from funext fun i => by rw [List.contains_nil]; cases i <;> rfl) ▸ this
  · rw [renl_pure args hpure]; exact hev

theorem limCall_sim (h : Sim B W I m st tmps) {W' : World} {I' : Nat → Nat → Prop} {m' : List (Option Nat)} {v : V} {own : Bool} {w : Value} (hS : Sim (Sim.base W I m st tmps []) W' I' m' (ret v own []) #[w]) :
    Sim B W' I' m st tmps ∧ Rel W' I' m v w ∧ V.lt 0 v = true := by
  have hna : ∀ g, ¬ (Sim.base W I m st tmps []).A g := fun g hg => by
    rcases hg with hg | ⟨r, _, _, _, hr, _⟩
    · simp [subM] at hg
    · cases hr
  have hm' : m' = [] := List.eq_nil_of_length_eq_zero (by simpa [ret] using hS.mlen)
  subst hm'
  have hrel : Rel W' I' [] v w := by simpa using hS.fr 0 v rfl
  refine ⟨h.world hS.grow.os hS.grow.tape hS.grow.output hS.grow.size (fun g hg => hS.grow.same g hg (hna g)) hS.grow.sub (fun g o hi => ?_) hS.live, hrel.mono (fun _ _ h => h) (KeepI.refl _ _) List.nil_prefix, hrel.lt⟩
  rcases hS.grow.fresh g o hi with hi | hi | hi
  · exact .inl hi
  · exact .inr hi
  · exact (hna g hi).elim

theorem args_rel (h : Sim B W I m st a.tmps) (args : Array Operand) {cap : List V} {arr : Array Value} (hl : arr.size = cap.length) (hr : ∀ (j : Nat) (x : V), cap[j]? = some x → Rel W I m x (arr.getD j undef)) :
    (args.map a.eval ++ arr).size = (args.toList.map (ev st.fr) ++ cap).length ∧ ∀ (j : Nat) (x : V), (args.toList.map (ev st.fr) ++ cap)[j]? = some x → Rel W I m x ((args.map a.eval ++ arr).getD j undef) := by
  refine ⟨by simp [hl], fun j x hx => ?_⟩
  by_cases hj : j < args.size
  · rw [List.getElem?_append_left (by simpa using hj)] at hx
    simp only [List.getElem?_map, Option.map_eq_some_iff, Array.getElem?_toList] at hx
    obtain ⟨p, hp, rfl⟩ := hx
    rw [getD_arr (show (args.map a.eval ++ arr)[j]? = some (a.eval p) by rw [Array.getElem?_append_left (by simpa using hj)]; simp [hp])]
    exact rel_ev h p
  · rw [List.getElem?_append_right (by simpa using hj)] at hx
    have hlt := (List.getElem?_eq_some_iff.1 hx).1
    simp only [List.length_map, Array.length_toList] at hx hlt
    have e : (args.map a.eval ++ arr).getD j undef = arr.getD (j - args.size) undef := by
      simp only [Array.getD_eq_getD_getElem?]
      rw [Array.getElem?_append_right (by simpa using hj)]
      simp
    rw [e]
    exact hr _ x hx

theorem ret_less {v : V} {own own' : Bool} {hp : List Blk} {w : Value} (h : Sim B W I m (ret v own hp) #[w]) (ho : own' = true → own = true) : Sim B W I m (ret v own' hp) #[w] := by
  refine h.less _ _ (fun t ht => ?_) fun _ h => h
  cases own' with
  | false => simp at ht
  | true => rw [ho rfl]; exact ht

theorem isSl_inv {v : V} (h : isSl v = true) : ∃ d xs, v = .sl d xs := by
  cases v <;> simp [isSl] at h
  exact ⟨_, _, rfl⟩

theorem evOp_sim (hok : cfg.Ok P) (hF : FOk F) (hcall : CallOk P orc) {lim : Bool} (hev : evOp cfg orc lim o st = some st') (h : Sim B W I m st a.tmps) {next : Act → World → Prop} {Q : Exit → Act → World → Prop}
    (k : ∀ a' W', After B st' a.defers a' W' → next a' W') : o.wpIn F n P a W next Q := by
  obtain ⟨dst, op, ty, pos, after, guard⟩ := o
  have give : ∀ {w : Value} {W' : World} {I' : Nat → Nat → Prop} {m' : List (Option Nat)}, (∀ c, op ≠ .defer c) → (execOp a.eval { dst := dst, op := op, type := ty, pos := pos, after := after, guard := guard }).run P W = .ok (.value w) W' → Sim B W' I' m' st' (aput a.tmps dst w) →
      Oper.wpIn F n P { dst := dst, op := op, type := ty, pos := pos, after := after, guard := guard } a W next Q := fun hnd hrun hS => wp_of_gives hF hnd ⟨_, _, _, _, hrun, hS⟩ k
  -- an operation that gives a value and leaves the world alone
  have val : ∀ {s : Sem Value} {x : Option V}, (∀ c, op ≠ .defer c) → execOp a.eval { dst := dst, op := op, type := ty, pos := pos, after := after, guard := guard } = (do pure (.value (← s)) : Sem Next) → (x.map fun v => st.put dst v) = some st' →
      (∀ v, x = some v → ∃ w, s.run P W = .ok w W ∧ Rel W I m v w) → Oper.wpIn F n P { dst := dst, op := op, type := ty, pos := pos, after := after, guard := guard } a W next Q := fun hnd he hx hr => by
    obtain ⟨v, hv, rfl⟩ := map_put hx
    obtain ⟨w, hrun, hrel⟩ := hr v hv
    exact give hnd (by rw [he]; simp only [Sem.run_bind, hrun, Result.andThen_ok, Sem.run_pure]) (h.put dst hrel)
  have memv : ∀ {s : Sem Value} {x : Option V}, (∀ c, op ≠ .defer c) → execOp a.eval { dst := dst, op := op, type := ty, pos := pos, after := after, guard := guard } = (do pure (.value (← s)) : Sem Next) → (x.map fun v => st.put dst v) = some st' →
      (∀ v, x = some v → ∃ w W' I', s.run P W = .ok w W' ∧ Sim B W' I' m st a.tmps ∧ Rel W' I' m v w) → Oper.wpIn F n P { dst := dst, op := op, type := ty, pos := pos, after := after, guard := guard } a W next Q := fun hnd he hx hr => by
    obtain ⟨v, hv, rfl⟩ := map_put hx
    obtain ⟨w, W', I', hrun, hS, hrel⟩ := hr v hv
    exact give hnd (by rw [he]; simp only [Sem.run_bind, hrun, Result.andThen_ok, Sem.run_pure]) (hS.put dst hrel)
  cases op <;> simp only [evOp] at hev <;> try (cases hev; done)
  · -- move
    exact give (by simp) rfl (move_sim h hev)
  · -- assign
    exact give (by simp) rfl (assign_sim h hev)
  · -- pick
    rename_i c x y
    have hc := rel_ev h c
    split at hev
    · rename_i hcv
      cases hev
      rw [hcv] at hc
      exact give (by simp) (by simp [execOp, rel_bool_inv hc, asBool]) (h.put dst (rel_ev h x))
    · rename_i hcv
      cases hev
      rw [hcv] at hc
      exact give (by simp) (by simp [execOp, rel_bool_inv hc, asBool]) (h.put dst (rel_ev h y))
    · cases hev
  · -- alloc
    rename_i t
    split at hev
    · cases hev
    · split at hev
      · rename_i ti hti
        cases hev
        obtain ⟨w, W', I', m', hrun, hS⟩ := alloc_sim (o := { dst := dst, op := .alloc t, type := ty, pos := pos, after := after, guard := guard }) hok h hti
        exact give (by simp) (by simp only [execOp, Sem.run_bind, hrun, Result.andThen_ok, Sem.run_pure]) hS
      · cases hev
  · -- box
    rename_i t x
    split at hev
    · cases hev
    · obtain ⟨w, W', I', m', hrun, hS⟩ := boxX_sim (P := P) (t := t) (o := { dst := dst, op := .box t x, type := ty, pos := pos, after := after, guard := guard }) h hev
      exact give (by simp) (by simp only [execOp, Sem.run_bind, hrun, Result.andThen_ok, Sem.run_pure]) hS
  · -- build
    rename_i t parts
    split at hev
    · rename_i hk
      exact val (by simp) rfl hev fun v hv => run_buildX hok h hv hk
    · cases hev
  · -- buildSlice
    exact memv (by simp) rfl hev fun v hv => by
      obtain ⟨w, W', I', h1, h2, h3, _⟩ := run_buildSliceV hok h hv
      exact ⟨w, W', I', h1, h2, h3⟩
  · -- load
    obtain ⟨w, hrun, hS⟩ := load_sim hok h hev
    exact give (by simp) (by simp only [execOp, Sem.run_bind, hrun, Result.andThen_ok, Sem.run_pure]) hS
  · -- store
    split at hev
    · cases hev
    · rename_i hc
      simp only [Bool.or_eq_true, not_or, Bool.not_eq_true, Option.isSome_eq_false_iff, Option.isNone_iff_eq_none] at hc
      obtain ⟨_, rfl⟩ := hc
      obtain ⟨W', hrun, hS⟩ := storeX_sim hok h hev
      exact wp_skip hF (by simp) (by simp only [execOp, Sem.run_bind, hrun, Result.andThen_ok, Sem.run_pure]) (k _ _ ⟨rfl, I, m, hS⟩)
  · -- nilCheck
    rename_i x
    have hx := rel_ev h x
    split at hev <;> rename_i hxv <;> first
      | (cases hev; done)
      | (cases hev
         rw [hxv] at hx
         have hx' := hx
         generalize hvx : a.eval x = vx at hx hx'
         cases hx <;> exact give (by simp) (by simp [execOp, hvx]) (h.put dst hx'))
  · -- binOp
    rename_i op t x y t2
    exact val (by simp) rfl hev fun v hv => run_binOpV hok hv (rel_ev h x) (rel_ev h y)
  · -- unOp
    rename_i op t x
    exact val (by simp) rfl hev fun v hv => run_unOpV hv (rel_ev h x)
  · -- convert
    rename_i src d x
    split at hev
    · rename_i v hv
      cases hev
      split at hv
      · cases hv
      · obtain ⟨w, hrun, hrel⟩ := run_convPV hok h hv (rel_ev h x)
        exact give (by simp) (w := w) (by simp only [execOp, Sem.run_bind, hrun, Result.andThen_ok, Sem.run_pure]) (h.put dst hrel)
    · exact memv (by simp) rfl hev fun v hv => run_convV hok h hv (rel_ev h x)
  · -- makeFunc
    rename_i fn first cap
    cases fn <;> simp only at hev <;> try (cases hev; done)
    rename_i f
    split at hev
    · rename_i hfirst
      cases hev
      have hf : first = #[] := by simpa using hfirst
      subst hf
      refine give (by simp) (w := .func (.func f) #[] (cap.map a.eval)) (by simp [execOp, Instr.makeFunc]) (h.put dst (.fn (by simp) fun j x hx => ?_))
      simp only [List.getElem?_map, Option.map_eq_some_iff, Array.getElem?_toList] at hx
      obtain ⟨p, hp, rfl⟩ := hx
      rw [getD_arr (show (cap.map a.eval)[j]? = some (a.eval p) by simp [hp])]
      exact rel_ev h p
    · cases hev
  · -- slice
    obtain ⟨w, hrun, hS⟩ := slice_sim hok h hev
    exact give (by simp) (by simp only [execOp, Sem.run_bind, hrun, Result.andThen_ok, Sem.run_pure]) hS
  · -- fieldAddr
    rename_i t x i
    exact val (by simp) rfl hev fun v hv => run_fieldV hok hv (rel_ev h x)
  · -- field
    rename_i t x i
    exact val (by simp) rfl hev fun v hv => run_partV hok hv (rel_ev h x)
  · -- indexAddr
    rename_i t x i
    exact val (by simp) rfl hev fun v hv => run_indexAddrV hok hv (rel_ev h x) (rel_ev h i)
  · -- index
    rename_i t x i
    exact val (by simp) rfl hev fun v hv => run_indexV hok hv (rel_ev h x) (rel_ev h i)
  · -- extract
    rename_i x i
    have hx := rel_ev h x
    split at hev
    · rename_i vs hxv
      split at hev
      · rename_i v hv
        cases hev
        rw [hxv] at hx
        generalize hvx : a.eval x = vx at hx
        cases hx with
        | @tup _ _ arr hl hr =>
          have hlt : i < arr.size := by rw [hl]; exact (List.getElem?_eq_some_iff.1 hv).1
          exact give (by simp) (w := arr.getD i undef) (by simp only [execOp, hvx, Instr.extract]; rw [get_of_lt hlt]; rfl) (h.put dst (hr i v hv))
      · cases hev
    · cases hev
  · -- call
    rename_i c
    obtain ⟨callee, args, types⟩ := c
    cases callee with
    | invoke r nm => simp only at hev; cases hev
    | builtin b =>
      simp only at hev
      split at hev
      · cases hev
      · have hexec : ∀ ts' : List TypeId, types.toList = ts' → execOp a.eval { dst := dst, op := .call { callee := .builtin b, args := args, argTypes := types }, type := ty, pos := pos, after := after, guard := guard } =
            (do let d ← (pure { target := .builtin b types ty (args.map fun | .const _ => true | _ => false), args := args.map a.eval } : Sem Deferred); invoke d.target d.args) := fun _ _ => rfl
        unfold builtinOp at hev
        split at hev
        · rename_i s x t tx hargs htypes hb
          obtain ⟨w, W', I', hrun, hS⟩ := appendOp_sim (ty := ty) hok h hev
          have e1 : args.map a.eval = #[a.eval s, a.eval x] := by
            have : args = #[s, x] := by apply Array.ext'; simpa using hargs
            rw [this]; simp
          have e2 : types = #[t, tx] := by apply Array.ext'; simpa using htypes
          refine give (by simp) (w := w) ?_ hS
          rw [hexec _ rfl]
          simp only [Sem.run_bind, Sem.run_pure, Result.andThen_ok, invoke, builtin, e1, e2, hrun]
        · rename_i x t tys hargs htypes hb
          have e1 : args.map a.eval = #[a.eval x] := by
            have : args = #[x] := by apply Array.ext'; simpa using hargs
            rw [this]; simp
          have e2 : types[0]? = some t := by rw [← Array.getElem?_toList, htypes]; rfl
          obtain ⟨v, hv, rfl⟩ := map_put hev
          obtain ⟨w, hrun, hrel⟩ := run_lenV (ty := ty) hok hv (rel_ev h x) e2
          refine give (by simp) (w := w) ?_ (h.put dst hrel)
          rw [hexec _ rfl]
          simp only [Sem.run_bind, Sem.run_pure, Result.andThen_ok, invoke, builtin, e1, hrun]
        · rename_i tys
          obtain ⟨v, hv, rfl⟩ := map_put hev
          obtain ⟨w0, r, w, e, hrun, hrel⟩ := minmax_sim (P := P) (W := W) (I := I) (m := m) false _ (args.map a.eval).toList v hv (by simp) fun j x w hx hw => by
            simp only [List.getElem?_map, Option.map_eq_some_iff, Array.toList_map] at hx hw
            obtain ⟨p, hp, rfl⟩ := hx
            obtain ⟨q, hq, rfl⟩ := hw
            rw [hp] at hq; cases hq
            exact rel_ev h p
          refine give (by simp) (w := w) ?_ (h.put dst hrel)
          rw [hexec _ rfl]
          simp only [Sem.run_bind, Sem.run_pure, Result.andThen_ok, invoke, builtin, Builtin.min_, e]
          simp only [Bool.false_eq_true, if_false] at hrun
          rw [hrun]
          rfl
        · rename_i tys
          obtain ⟨v, hv, rfl⟩ := map_put hev
          obtain ⟨w0, r, w, e, hrun, hrel⟩ := minmax_sim (P := P) (W := W) (I := I) (m := m) true _ (args.map a.eval).toList v hv (by simp) fun j x w hx hw => by
            simp only [List.getElem?_map, Option.map_eq_some_iff, Array.toList_map] at hx hw
            obtain ⟨p, hp, rfl⟩ := hx
            obtain ⟨q, hq, rfl⟩ := hw
            rw [hp] at hq; cases hq
            exact rel_ev h p
          refine give (by simp) (w := w) ?_ (h.put dst hrel)
          rw [hexec _ rfl]
          simp only [Sem.run_bind, Sem.run_pure, Result.andThen_ok, invoke, builtin, Builtin.max_, e]
          simp only [if_true] at hrun
          rw [hrun]
          rfl
        · rename_i x hargs hb
          have e1 : args.map a.eval = #[a.eval x] := by
            have : args = #[x] := by apply Array.ext'; simpa using hargs
            rw [this]; simp
          obtain ⟨w, hrun, hS⟩ := dataOp_sim (P := P) (ts := types) (ty := ty) h hev
          refine give (by simp) (w := w) ?_ hS
          rw [hexec _ rfl]
          simp only [Sem.run_bind, Sem.run_pure, Result.andThen_ok, invoke, builtin, e1, hrun]
        · rename_i p q t it hargs htypes hb
          obtain ⟨w, W', hrun, hS⟩ := textOp_sim (it := it) (ty := ty) hok h hev
          have e1 : args.map a.eval = #[a.eval p, a.eval q] := by
            have : args = #[p, q] := by apply Array.ext'; simpa using hargs
            rw [this]; simp
          have e2 : types = #[t, it] := by apply Array.ext'; simpa using htypes
          refine give (by simp) (w := w) ?_ hS
          rw [hexec _ rfl]
          simp only [Sem.run_bind, Sem.run_pure, Result.andThen_ok, invoke, builtin, e1, e2, hrun]
        · cases hev
    | value f =>
      simp only at hev
      split at hev
      · rename_i g cap hfv
        have hfr := rel_ev h f
        rw [hfv] at hfr
        obtain ⟨arr, hfe, hl, hr⟩ : ∃ arr, a.eval f = .func (.func g) #[] arr ∧ arr.size = cap.length ∧ ∀ (j : Nat) (x : V), cap[j]? = some x → Rel W I m x (arr.getD j undef) := by
          generalize a.eval f = vf at hfr
          cases hfr with
          | fn hl hr => exact ⟨_, rfl, hl, hr⟩
        obtain ⟨hal, har⟩ := args_rel h args hl hr
        have enter : ∀ {fn : Func}, P.funcs[g]? = some fn → (fn.name == "runtime.NumGoroutine") = false → fn.body.isNone = false →
            (execOp a.eval { dst := dst, op := .call { callee := .value f, args := args, argTypes := types }, type := ty, pos := pos, after := after, guard := guard }).run P W = .ok (.enter g (args.map a.eval ++ arr)) W := fun hfn hname hbody => by
          simp only [execOp, resolve, hfe, Deferred.ofValue, Sem.run_bind, Sem.run_pure, Result.andThen_ok, invoke, callFunc, run_program, hfn, hname, hbody]
          simp
        have wpcall : ∀ {R : Ending → World → Prop}, (∃ fn, P.funcs[g]? = some fn ∧ (fn.name == "runtime.NumGoroutine") = false ∧ fn.body.isNone = false) → CallsIn F (n - 1) P g (args.map a.eval ++ arr) W R →
            (∀ e W', R e W' → ∃ w, e = .returned w ∧ next (a.put dst w) W') → Oper.wpIn F n P { dst := dst, op := .call { callee := .value f, args := args, argTypes := types }, type := ty, pos := pos, after := after, guard := guard } a W next Q := fun ⟨fn, h1, h2, h3⟩ hc hR => by
          refine ⟨fun f _ => hF.fn f, ?_⟩
          rw [Oper.semAt_eq _ _ _ (by simp), enter h1 h2 h3, Oper.uponIn_enter]
          refine ⟨fun hd => (by rw [hF.depth] at hd; cases hd), hc.mono ?_⟩
          intro e W' hR'
          obtain ⟨w, rfl, hn⟩ := hR e W' hR'
          exact hn
        have back : ∀ {R : List Nat} {v : V} {own : Bool} {hp : List Blk} {w : Value} {W' : World} {I' : Nat → Nat → Prop} {m' : List (Option Nat)} , Sees st R → Sim (Sim.base W I m st a.tmps R) W' I' m' (ret v own hp) #[w] →
            ({ st with hp := backHp st.hp R hp, al := keepAl R st.al }.putOwn dst (v.ren (backId R st.hp.length)) (own && isSl v)) = st' → next (a.put dst w) W' := fun {R v own hp w W' I' m'} hR hS hn => by
          cases hn
          have := h.back hR (ret_less (own' := own && isSl v) hS fun h => (Bool.and_eq_true_iff.1 h).1) dst fun h => isSl_inv (Bool.and_eq_true_iff.1 h).2
          refine k _ _ ⟨put_defers _ _ _, I', backM m R m', ?_⟩
          rw [put_tmps]
          exact this
        split at hev
        · split at hev
          · rename_i hpure
            split at hev
            · rename_i v own hcl
              cases hev
              refine wpcall (hcall.call _ _ _ _ _ _ hcl).1 (pureCall_sim hcall hF h hcl hpure hal har) ?_
              rintro e W' ⟨w, I', m', rfl, hS⟩
              obtain ⟨h1, h2, _⟩ := limCall_sim h hS
              exact ⟨w, rfl, k _ _ ⟨put_defers _ _ _, I', m, by rw [put_tmps]; exact h1.put dst h2⟩⟩
            · cases hev
          · cases hev
        · split at hev
          · -- the pointer as it is
            rename_i hx
            split at hev
            · rename_i v hargs
              cases hev
              obtain ⟨fn, hfn, hname, hbody, hnx, e, he, rfl⟩ := hok.ext _ hx
              have hsz : (args.map a.eval ++ arr).size = 1 := by rw [hal, hargs]; rfl
              obtain ⟨w, hw⟩ : ∃ w, args.map a.eval ++ arr = #[w] := ⟨(args.map a.eval ++ arr)[0], by apply Array.ext (by simp [hsz]); intro i h1 h2; have : i = 0 := by omega
                                                                                                      subst this; rfl⟩
              have hrel : Rel W I m v w := by
                have := har 0 v (by rw [hargs]; rfl)
                rw [hw] at this
                exact this
              refine give (by simp) (w := w) (W' := W) ?_ (h.put dst hrel)
              have hnn : (fn.name == "runtime.NumGoroutine") = false := by rw [hname]; decide
              simp only [execOp, resolve, hfe, Deferred.ofValue, Sem.run_bind, Sem.run_pure, Result.andThen_ok, invoke, callFunc, run_program, hfn, hnn, hbody, hw]
              simp only [hnx, he, mark, Bool.false_eq_true, if_false, if_true]
              rw [Array.empty_append, hw]
              rfl
            · cases hev
          split at hev
          · rename_i hpure
            split at hev
            · rename_i v own hcl
              refine wpcall (hcall.call _ _ _ _ _ _ hcl).1 (pureCall_sim hcall hF h hcl hpure hal har) ?_
              rintro e W' ⟨w, I', m', rfl, hS⟩
              refine ⟨w, rfl, back sees_nil hS ?_⟩
              rw [ren_pure v (limCall_sim h hS).2.2]
              have e0 : backHp st.hp [] [] = st.hp := by simp [backHp, putBack]
              rw [e0]
              exact Option.some.inj hev
            · rename_i v own hp hcl
              refine wpcall (hcall.call _ _ _ _ _ _ hcl).1 (pureCall_sim hcall hF h hcl hpure hal har) ?_
              rintro e W' ⟨w, I', m', rfl, hS⟩
              exact ⟨w, rfl, back sees_nil hS (Option.some.inj hev)⟩
            · cases hev
          · skip
            split at hev
            · rename_i hclosed
              obtain ⟨hR, hargs⟩ := closed_sees hclosed
              split at hev
              · rename_i v own hp hcl
                refine wpcall (hcall.call _ _ _ _ _ _ hcl).1 (call_sim hcall hF h hR hargs hcl hal har) ?_
                rintro e W' ⟨w, I', m', rfl, hS⟩
                exact ⟨w, rfl, back hR hS (Option.some.inj hev)⟩
              · cases hev
            · cases hev
      · rename_i id hfv
        split at hev
        · cases hev
        · have hfr := rel_ev h f
          rw [hfv] at hfr
          obtain ⟨g, hfe, hg⟩ : ∃ g, a.eval f = .func (.yield g) #[] #[] ∧ m[id]? = some (some g) := by
            generalize a.eval f = vf at hfr
            cases hfr with
            | yld hg => exact ⟨_, rfl, hg⟩
          split at hev
          · rename_i hclosed
            obtain ⟨hR, hargs⟩ := closed_sees hclosed
            split at hev
            · rename_i b hp hcl
              cases hev
              obtain ⟨r, hr1, hr2, hr3⟩ := round_sim (F := F) (n := n - 1) hcall hF h hR hargs hcl (vargs := args.map a.eval) (g := g) (.yld hg) (by simp) fun j x hx => by
                simp only [List.getElem?_map, Option.map_eq_some_iff] at hx
                obtain ⟨p, hp, rfl⟩ := hx
                rw [getD_arr (show (args.map a.eval)[j]? = some (a.eval p) by rw [Array.getElem?_map, ← Array.getElem?_toList, hp]; rfl)]
                exact rel_ev h p
              refine ⟨fun f _ => hF.fn f, ?_⟩
              have hexec : (execOp a.eval { dst := dst, op := .call { callee := .value f, args := args, argTypes := types }, type := ty, pos := pos, after := after, guard := guard }).run P W = .ok (.round g r.fn ((r.params.zip (args.map a.eval)).foldl (fun tmps (t, a) => tmps.setIfInBounds t a) r.tmps) r.assign r.body) W := by
                simp only [execOp, resolve, hfe, Deferred.ofValue, Sem.run_bind, Sem.run_pure, Result.andThen_ok, invoke, callFunc, Array.empty_append, Array.append_empty]
                exact run_yield hr1 hr2
              rw [Oper.semAt_eq _ _ _ (by simp), hexec, Oper.uponIn_round]
              refine ⟨fun hd => (by rw [hF.depth] at hd; cases hd), hr3.mono ?_⟩
              rintro e W' ⟨I', m', rfl, hS⟩
              have hb := h.back hR hS dst fun h => by cases h
              have e2 : ∀ (s : St) (v : V), s.putOwn dst v false = s.put dst v := fun s v => by cases dst <;> rfl
              rw [e2] at hb
              exact k _ _ ⟨put_defers _ _ _, I', backM m (reach st.hp (.yld id :: args.toList.map (ev st.fr))) m', by rw [put_tmps]; exact hb⟩
            · cases hev
          · cases hev
      · cases hev

end Go.Abs
/-! Slices that are written in place: the state's steps. -/
namespace Go.Abs
open Go.Lib
variable [BT] {F : Fence} {n : Nat} {P : Program} {cfg : Cfg} {B : Base} {W : World} {I : Nat → Nat → Prop} {m : List (Option Nat)} {st st' : St} {a : Act} {o : Oper} {tmps : Array Value} {orc : Orc}

theorem nb_ne {i id : Nat} : (!Nat.beq i id) = true ↔ i ≠ id := by
  rw [Bool.not_eq_true', ← Bool.not_eq_true, Nat.beq_eq]

theorem drop1_get {id t : Nat} {fr : List V} {x : V} (h : (fr.map (V.drop1 id))[t]? = some x) : x = .any ∨ (fr[t]? = some x ∧ V.all (fun i => !Nat.beq i id) x = true) := by
  simp only [List.getElem?_map, Option.map_eq_some_iff] at h
  obtain ⟨y, hy, rfl⟩ := h
  unfold V.drop1
  split
  · rename_i hc; exact .inr ⟨hy, hc⟩
  · exact .inl rfl

theorem BlkOk.onp {p : Nat → Bool} {m' : List (Option Nat)} {b : Blk} {x : Option Nat} (h : BlkOk W I m b x) (hf : ∀ (id g : Nat), p id = true → m[id]? = some (some g) → m'[id]? = some (some g)) (hp : b.all p = true) : BlkOk W I m' b x := by
  cases h with
  | cells h hs h1 hr =>
    simp only [Blk.all] at hp
    exact .cells h hs h1 fun j x hx => (hr j x hx).on hf (alll_get hp hx)
  | loop h e1 e2 e4 e5 e6 hs hr hg =>
    simp only [Blk.all] at hp
    exact .loop h e1 e2 e4 e5 e6 hs (fun j x hx => (hr j x hx).on hf (alll_get hp hx)) hg
  | map h hs hr =>
    simp only [Blk.all, List.all_eq_true, Bool.and_eq_true] at hp
    refine .map h hs fun j k vs e h1 h2 => ?_
    obtain ⟨p1, p2, v, rfl, p4⟩ := hr j k vs e h1 h2
    have hq := hp _ (List.mem_of_getElem? h1)
    simp only [V.alll, Bool.and_true] at hq
    exact ⟨p1, p2.on hf hq.1, v, rfl, p4.on hf hq.2⟩
  | dead h hd => exact .dead h hd
  | ahead => exact .ahead

theorem set_blk {id : Nat} {b0 : Blk} {hp : List Blk} {j : Nat} {b : Blk} (h : (hp.set id b0)[j]? = some b) : (j = id ∧ b = b0) ∨ (j ≠ id ∧ hp[j]? = some b) := by
  rw [List.getElem?_set] at h
  split at h
  · rename_i e
    split at h
    · cases h; exact .inl ⟨e.symm, rfl⟩
    · cases h
  · rename_i e; exact .inr ⟨fun e' => e e'.symm, h⟩

theorem Sim.lose (h : Sim B W I m st tmps) {id : Nat} (hid : B.m.length ≤ id) (hlt : id < st.hp.length) (ha : aloneIn id st.hp = true) :
    Sim B W I (m.set id none) (st.lose id) tmps ∧ ∀ g, m[id]? = some (some g) → some g ∉ m.set id none ∧ ∀ l xs v, Held W (m.set id none) (st.lose id) tmps l xs v → claimOf v ≠ some g := by
  have hget : ∀ {j g : Nat}, (m.set id none)[j]? = some (some g) → j ≠ id ∧ m[j]? = some (some g) := fun {j g} hj => by
    rw [List.getElem?_set] at hj
    split at hj
    · split at hj <;> cases hj
    · rename_i e; exact ⟨fun e' => e e'.symm, hj⟩
  have hput : ∀ (j g : Nat), (!Nat.beq j id) = true → m[j]? = some (some g) → (m.set id none)[j]? = some (some g) := fun j g hj hm => by
    rw [List.getElem?_set, if_neg fun e => (nb_ne.1 hj) e.symm]; exact hm
  have hmem : ∀ {g}, some g ∈ m.set id none → some g ∈ m := fun {g} hg => by
    obtain ⟨j, hj⟩ := List.mem_iff_getElem?.1 hg
    exact List.mem_of_getElem? (hget hj).2
  have hheld : ∀ {l xs v}, Held W (m.set id none) (st.lose id) tmps l xs v → Held W m st tmps l xs v := fun hh => by
    cases hh with
    | tmp h1 h2 =>
      rcases drop1_get h2 with e | ⟨e, _⟩
      · cases e
      · exact .tmp h1 e
    | cell h1 h2 h3 h4 h5 =>
      obtain ⟨hne, hm⟩ := hget h4
      rcases set_blk h1 with ⟨e, _⟩ | ⟨_, hb⟩
      · exact absurd e hne
      · exact .cell hb h2 h3 hm h5
  have hnot : ∀ g, m[id]? = some (some g) → some g ∉ m.set id none := fun g hg hm => by
    obtain ⟨j, hj⟩ := List.mem_iff_getElem?.1 hm
    obtain ⟨hne, hj⟩ := hget hj
    exact hne (h.inj _ _ _ hj hg)
  refine ⟨⟨h.grow, ?_, h.live, by simp [St.lose, h.len], fun t x hx => ?_, by simp [St.lose, h.mlen], fun i j g hi hj => h.inj i j g (hget hi).2 (hget hj).2, fun j b hj => ?_, fun g hg => h.mA g (hmem hg), fun g hg => h.notI g (hmem hg),
    fun l xs v hh => h.own l xs v (hheld hh), fun l xs v g hh hc => ⟨(h.ownA l xs v g (hheld hh) hc).1, fun hg => (h.ownA l xs v g (hheld hh) hc).2 (hmem hg)⟩,
    fun l l' xs xs' v v' g hh hh' => h.ownInj l l' xs xs' v v' g (hheld hh) (hheld hh'), fun t o k => (by cases k), h.nb⟩, fun g hg => ⟨hnot g hg, fun l xs v hh hc => (h.ownA l xs v g (hheld hh) hc).2 (List.mem_of_getElem? hg)⟩⟩
  · obtain ⟨r, hr⟩ := h.pre
    rw [← hr, List.set_append_right _ _ hid]
    exact List.prefix_append _ _
  · rcases drop1_get hx with rfl | ⟨hx, hp⟩
    · exact .any
    · exact (h.fr t x hx).on hput hp
  · rcases set_blk hj with ⟨rfl, rfl⟩ | ⟨hne, hb⟩
    · refine ⟨none, ?_, .ahead⟩
      rw [List.getElem?_set, if_pos rfl, if_pos (by rw [h.mlen]; exact hlt)]
    · obtain ⟨x, hx, hb'⟩ := h.blk j b hb
      refine ⟨x, by rw [List.getElem?_set, if_neg fun e => hne e.symm]; exact hx, hb'.onp hput ?_⟩
      exact List.all_eq_true.1 ha b (List.mem_of_getElem? hj)

theorem Sim.adopt (h : Sim B W I m st tmps) {id g : Nat} {cs : List V} {arr : Array Value} {t : TypeId} (hw : W.heap[g]? = some (.cells arr t (0, 0))) (hr : RowPre W I m cs arr) (hso : ¬ BT.solo t)
    (hid : B.m.length ≤ id) (hlt : id < st.hp.length) (hfree : m[id]? = some none) (hgm : some g ∉ m) (hgI : ∀ o, ¬ I g o) (hgA : B.A g ∨ B.W.heap.size ≤ g) (hgc : ∀ l xs v, Held W m st tmps l xs v → claimOf v ≠ some g) :
    Sim B W I (m.set id (some g)) { st with hp := st.hp.set id (.cells t [] cs), al := [] } tmps := by
  have hget : ∀ {j g' : Nat}, (m.set id (some g))[j]? = some (some g') → (j = id ∧ g' = g) ∨ (j ≠ id ∧ m[j]? = some (some g')) := fun {j g'} hj => by
    rw [List.getElem?_set] at hj
    split at hj
    · rename_i e
      split at hj
      · cases hj; exact .inl ⟨e.symm, rfl⟩
      · cases hj
    · rename_i e; exact .inr ⟨fun e' => e e'.symm, hj⟩
  have hle : MLe m (m.set id (some g)) := fun j g' hj => by
    rw [List.getElem?_set]
    split
    · rename_i e; subst e; rw [hfree] at hj; cases hj
    · exact hj
  have hmem : ∀ {g'}, some g' ∈ m.set id (some g) → g' = g ∨ some g' ∈ m := fun {g'} hg => by
    obtain ⟨j, hj⟩ := List.mem_iff_getElem?.1 hg
    rcases hget hj with ⟨_, e⟩ | ⟨_, hj⟩
    · exact .inl e
    · exact .inr (List.mem_of_getElem? hj)
  have hheld : ∀ {l xs v}, Held W (m.set id (some g)) { st with hp := st.hp.set id (.cells t [] cs), al := [] } tmps l xs v → Held W m st tmps l xs v := fun hh => by
    cases hh with
    | tmp h1 h2 => exact .tmp h1 h2
    | cell h1 h2 h3 h4 h5 =>
      rcases set_blk h1 with ⟨_, e⟩ | ⟨hne, hb⟩
      · cases e; cases h2
      · rcases hget h4 with ⟨e, _⟩ | ⟨_, hm⟩
        · exact absurd e hne
        · exact .cell hb h2 h3 hm h5
  refine ⟨h.grow, ?_, h.live, h.len, fun t x hx => (h.fr t x hx).mono_le (fun _ _ h => h) (KeepI.refl _ _) hle, by simp [h.mlen], fun i j g' hi hj => ?_, fun j b hj => ?_, fun g' hg => ?_, fun g' hg o => ?_,
    fun l xs v hh => h.own l xs v (hheld hh), fun l xs v g' hh hc => ⟨(h.ownA l xs v g' (hheld hh) hc).1, fun hg => ?_⟩,
    fun l l' xs xs' v v' g hh hh' => h.ownInj l l' xs xs' v v' g (hheld hh) (hheld hh'), fun t o k => (by cases k), h.nb⟩
  · obtain ⟨r, hr⟩ := h.pre
    rw [← hr, List.set_append_right _ _ hid]
    exact List.prefix_append _ _
  · rcases hget hi with ⟨e1, e2⟩ | ⟨hne, hi2⟩ <;> rcases hget hj with ⟨e3, e4⟩ | ⟨hne', hj2⟩
    · rw [e1, e3]
    · exact absurd (List.mem_of_getElem? (e2 ▸ hj2)) hgm
    · exact absurd (List.mem_of_getElem? (e4 ▸ hi2)) hgm
    · exact h.inj _ _ _ hi2 hj2
  · rcases set_blk hj with ⟨rfl, rfl⟩ | ⟨hne, hb⟩
    · refine ⟨some g, by rw [List.getElem?_set, if_pos rfl, if_pos (by rw [h.mlen]; exact hlt)], .cells hw ⟨hr.1, fun hs => absurd hs hso⟩ hr.2.1 fun i x hx => (hr.2.2 i x hx).mono_le (fun _ _ h => h) (KeepI.refl _ _) hle⟩
    · obtain ⟨x, hx, hb'⟩ := h.blk j b hb
      exact ⟨x, by rw [List.getElem?_set, if_neg fun e => hne e.symm]; exact hx, hb'.mono (fun _ _ h => h) (KeepI.refl _ _) hle fun _ _ => rfl⟩
  · rcases hmem hg with rfl | hg
    · exact hgA
    · exact h.mA g' hg
  · rcases hmem hg with rfl | hg
    · exact hgI o
    · exact h.notI g' hg o
  · rcases hmem hg with rfl | hg
    · exact hgc l xs v (hheld hh) hc
    · exact (h.ownA l xs v g' (hheld hh) hc).2 hg

theorem rowPre_of {cs : List V} {A R : Array Value} (h : RowRel W I m cs A) : RowPre W I m cs (A ++ R) := by
  have key : ∀ (j : Nat) (x : V), cs[j]? = some x → (A ++ R).getD j undef = A.getD j undef := fun j x hx => by
    have hlt : j < A.size := by rw [h.1]; exact (List.getElem?_eq_some_iff.1 hx).1
    simp only [Array.getD_eq_getD_getElem?]
    rw [Array.getElem?_append_left hlt]
  exact ⟨by rw [Array.size_append, h.1]; exact Nat.le_add_right _ _, fun j x hx => by rw [key j x hx]; exact h.2.1 j x hx, fun j x hx => by rw [key j x hx]; exact h.2.2 j x hx⟩

theorem RowPre.mono {W' : World} {I' : Nat → Nat → Prop} {m' : List (Option Nat)} {cs : List V} {arr : Array Value} (h : RowPre W I m cs arr) (hI : ∀ g o, I g o → I' g o) (hk : KeepI I W W') (hm : MLe m m') : RowPre W' I' m' cs arr :=
  ⟨h.1, h.2.1, fun j x hx => (h.2.2 j x hx).mono_le hI hk hm⟩
theorem RowRel.mono {W' : World} {I' : Nat → Nat → Prop} {m' : List (Option Nat)} {cs : List V} {arr : Array Value} (h : RowRel W I m cs arr) (hI : ∀ g o, I g o → I' g o) (hk : KeepI I W W') (hm : MLe m m') : RowRel W' I' m' cs arr :=
  ⟨h.1, h.2.1, fun j x hx => (h.2.2 j x hx).mono_le hI hk hm⟩

theorem Sim.bear (h : Sim B W I m st tmps) {W1 : World} (h1 : W1.heap = W.heap) (h2 : W1.os = W.os) (h3 : TapeLe W W1) (h4 : W1.output = W.output) {cs : List V} {arr : Array Value} {e : TypeId} (hr : RowPre W I m cs arr) (hso : ¬ BT.solo e) :
    Sim B (W1.alloc (.cells arr e)) I (m ++ [some W.heap.size]) { st with hp := st.hp ++ [.cells e [] cs], al := [] } tmps := by
  have hS : Sim B W1 I m st tmps := h.world h2 ⟨h3.eq, h3.le⟩ h4 (by rw [h1]; exact Nat.le_refl _) (fun g _ => by rw [h1]) (fun _ _ h => h) (fun _ _ h => .inl h) fun g o hi => by
    obtain ⟨v, hv⟩ := h.live g o hi
    exact ⟨v, by rw [← hv]; exact cell_same (by rw [h1])⟩
  have hk : KeepI I W W1 := ⟨fun g o _ => cell_same (by rw [h1]), fun g p hp => (info_same (W := W) (W' := W1) (by rw [h1])).trans hp⟩
  have hr' := hr.mono (fun _ _ h => h) hk (MLe.refl m)
  have := (hS.push [] cs arr e ⟨hr'.1, fun hs => absurd hs hso⟩ hr'.2.1 hr'.2.2 (fun j d xs hj => by cases hj)).noAl
  rw [h1] at this
  exact this

theorem flat_len {ys : List (List V)} {size : Nat} (hs : ∀ (i : Nat) (row : List V), ys[i]? = some row → row.length = size) : ys.flatten.length = ys.length * size := by
  induction ys with
  | nil => simp
  | cons r ys ih =>
    have h0 := hs 0 r rfl
    rw [List.flatten_cons, List.length_append, ih fun i row h => hs (i + 1) row h, h0, List.length_cons, Nat.succ_mul, Nat.add_comm]

theorem flat_get {size : Nat} (hsz : 0 < size) : ∀ {ys : List (List V)} (hs : ∀ (i : Nat) (row : List V), ys[i]? = some row → row.length = size) {q : Nat} {x : V}, ys.flatten[q]? = some x → ∃ row, ys[q / size]? = some row ∧ row[q % size]? = some x
  | [], _, q, x, h => by simp at h
  | r :: ys, hs, q, x, h => by
    have h0 := hs 0 r rfl
    rw [List.flatten_cons] at h
    by_cases hq : q < size
    · rw [List.getElem?_append_left (by omega)] at h
      exact ⟨r, by rw [Nat.div_eq_of_lt hq]; rfl, by rw [Nat.mod_eq_of_lt hq]; exact h⟩
    · rw [List.getElem?_append_right (by omega), h0] at h
      obtain ⟨row, p1, p2⟩ := flat_get hsz (fun i row h => hs (i + 1) row h) h
      refine ⟨row, ?_, ?_⟩
      · rw [Nat.div_eq_sub_div hsz (by omega)]; simpa using p1
      · rw [Nat.mod_eq_sub_mod (by omega)]; exact p2

structure SrcM (P : Program) (W : World) (I : Nat → Nat → Prop) (m : List (Option Nat)) (size : Nat) (vx : Value) (k : Nat) (new : List V) (news : List Value) : Prop where
  len : ∀ W' : World, (Builtin.lenOf vx).run P W' = .ok k W'
  cells : ∀ W' : World, W'.heap = W.heap → (Builtin.firstCells size k vx).run P W' = .ok news.toArray W'
  nl : new.length = k * size
  rel : RowRel W I m new news.toArray

theorem SrcM.nl' {size : Nat} {vx : Value} {k : Nat} {new : List V} {news : List Value} (S : SrcM P W I m size vx k new news) : news.length = k * size := by rw [← S.nl, ← S.rel.1]; simp
theorem SrcM.one {size : Nat} {vx : Value} {k : Nat} {new : List V} {news : List Value} (S : SrcM P W I m size vx k new news) : ∀ u ∈ news, u.oneCell' = true := fun u hu => by
  obtain ⟨j, hj⟩ := List.mem_iff_getElem?.1 hu
  have hlt : j < new.length := by rw [S.nl, ← S.nl']; exact (List.getElem?_eq_some_iff.1 hj).1
  have := S.rel.2.1 j _ (List.getElem?_eq_getElem hlt)
  rwa [getD_arr (show news.toArray[j]? = some u by rw [List.getElem?_toArray]; exact hj)] at this

theorem srcM_sim (hok : cfg.Ok P) (h : Sim B W I m st a.tmps) {t tx : TypeId} {ti : TI} {x : V} {vx : Value} {k : Nat} {new : List V} (hsz : 0 < ti.size) (hs : srcM cfg st.hp t tx ti x = some (k, new)) (hx : Rel W I m x vx) :
    t = tx ∧ ∃ news, SrcM P W I m ti.size vx k new news := by
  unfold srcM at hs
  split at hs
  · rename_i d ys
    split at hs
    · rename_i hc
      cases hs
      obtain ⟨news, S⟩ := src_sl (P := P) hx hc.2
      refine ⟨hc.1, news, S.len, S.cells, flat_len S.rows, by rw [List.size_toArray, S.nl, flat_len S.rows], fun j x hj => ?_, fun j x hj => ?_⟩
      · have hlt : j < news.length := by rw [S.nl, ← flat_len S.rows]; exact (List.getElem?_eq_some_iff.1 hj).1
        rw [getD_arr (show news.toArray[j]? = some _ by rw [List.getElem?_toArray]; exact List.getElem?_eq_getElem hlt)]
        exact S.one _ (List.getElem_mem hlt)
      · obtain ⟨row, p1, p2⟩ := flat_get hsz S.rows hj
        have := S.rel _ _ _ _ p1 p2
        rw [Nat.div_add_mod'] at this
        have e : news.toArray.getD j undef = news.getD j undef := by simp [Array.getD_eq_getD_getElem?, List.getD_eq_getElem?_getD]
        rw [e]; exact this.up
    · cases hs
  · rename_i id off len cap
    split at hs
    · rename_i ht
      split at hs
      · rename_i e ow cs hb
        split at hs
        · rename_i hle
          cases hs
          cases hx with
          | @ms _ _ _ _ _ c g hg hlc hcc hz =>
            obtain ⟨arr, hw, hsa, h1, hr⟩ := h.blkAt hb hg
            have hget : ∀ (j : Nat) (x : V), ((cs.drop off).take (k * ti.size))[j]? = some x → j < k * ti.size ∧ cs[off + j]? = some x := fun j x hj => by
              rw [List.getElem?_take] at hj
              split at hj
              · rename_i hlt; rw [List.getElem?_drop] at hj; exact ⟨hlt, hj⟩
              · cases hj
            refine ⟨ht, (List.range (k * ti.size)).map fun q => arr.getD (off + q) undef, fun _ => rfl, fun W' hW => ?_, by simp; omega, by simp; omega, fun j x hj => ?_, fun j x hj => ?_⟩
            · refine run_firstCells_some (P := P) W' ti.size k ⟨g, off, none⟩ k c _ (by simp) fun j v hj => ?_
              simp only [List.getElem?_map, Option.map_eq_some_iff] at hj
              obtain ⟨q, hq, rfl⟩ := hj
              obtain ⟨hlt, rfl⟩ := List.getElem?_eq_some_iff.1 hq
              simp only [List.length_range] at hlt
              rw [add_none, List.getElem_range]
              have hlt2 : off + j < arr.size := by have := hsa.1; omega
              simp only [World.cell?, hW, hw]
              simp [Array.getD_eq_getD_getElem?, Array.getElem?_eq_getElem hlt2]
            · obtain ⟨hlt, hj'⟩ := hget j x hj
              rw [getD_arr (show (((List.range (k * ti.size)).map fun q => arr.getD (off + q) undef).toArray)[j]? = some (arr.getD (off + j) undef) by simp [hlt])]
              exact h1 _ _ hj'
            · obtain ⟨hlt, hj'⟩ := hget j x hj
              rw [getD_arr (show (((List.range (k * ti.size)).map fun q => arr.getD (off + q) undef).toArray)[j]? = some (arr.getD (off + j) undef) by simp [hlt])]
              exact hr _ _ hj'
        · cases hs
      · cases hs
    · cases hs
  · split at hs
    · rename_i ht
      cases hs
      cases hx with
      | @nils _ aa =>
        refine ⟨ht, [], fun _ => rfl, fun W' _ => ?_, by simp, by simp, by simp, by simp⟩
        cases aa with
        | none => rfl
        | some aa => simp [Builtin.firstCells, loadCells, loadCellsFrom]
    · cases hs
  · cases hs
end Go.Abs
/-! Slices that are written in place: append, make. -/
namespace Go.Abs
open Go.Lib
variable [BT] {F : Fence} {n : Nat} {P : Program} {cfg : Cfg} {B : Base} {W : World} {I : Nat → Nat → Prop} {m : List (Option Nat)} {st st' : St} {a : Act} {o : Oper} {tmps : Array Value} {orc : Orc}

theorem wrapM {n : Int} (h1 : -9223372036854775808 ≤ n) (h2 : n ≤ 9223372036854775807) : IntKind.i64.wrap n = n := by
  rw [IntKind.wrap_i64]; omega

theorem cells_none {size : Nat} {base : Option Addr} {W : World} : (Builtin.firstCells size 0 (.slice base 0 0)).run P W = .ok #[] W := by
  cases base with
  | none => rfl
  | some b => simp [Builtin.firstCells, loadCells, loadCellsFrom]

theorem zero_cells {z : Value} {k : Nat} : (Builtin.zeroCells z.cells k).size = k * z.cells.size := by simp [Builtin.zeroCells]

theorem born (h : Sim B W I m st tmps) {W1 : World} (h1 : W1.heap = W.heap) (h2 : W1.os = W.os) (h3 : TapeLe W W1) (h4 : W1.output = W.output) {e : TypeId} {ti : TI} {cs : List V} {arr : Array Value} {k c l : Nat} (hr : RowPre W I m cs arr) (hso : ¬ BT.solo e)
    (hl : l ≤ k) (hk : k ≤ c) (hc : k = c ∨ c * BT.width e ≤ arr.size) (dst : Option Tmp) :
    Sim B (W1.alloc (.cells arr e)) I (m ++ [some W.heap.size]) ({ st with hp := st.hp ++ [Blk.cells e [] cs], al := [] }.put dst (.ms st.hp.length 0 l k)) (aput tmps dst (.slice (some ⟨W.heap.size, 0, none⟩) l c)) := by
  have hS := h.bear h1 h2 ⟨h3.eq, h3.le⟩ h4 hr hso
  refine hS.put dst (.ms ?_ hl hk fun _ => ?_)
  · rw [← h.mlen, List.getElem?_append_right (Nat.le_refl _)]; simp
  · rcases hc with rfl | hc
    · exact .inl rfl
    · refine .inr ⟨e, arr.size, ?_, hc⟩
      have : (W1.alloc (.cells arr e)).heap[W.heap.size]? = some (.cells arr e (0, 0)) := by rw [← h1]; exact heap_alloc_new W1 _
      simp [rowInfo, this]

section
variable {t tx ty e : TypeId} {ti : TI} {i : TypeInfo} {dd dx : TypeDesc} {z : Value}

theorem run_append_zero0 (T : TyOk P e ti i dd z) (ht : P.underlying t = some (.slice e)) (htx : P.underlying tx = some (.int .i64)) {base : Option Addr} :
    (Builtin.append_ #[t, tx] ty #[.slice base 0 0, .int .i64 0]).run P W = .ok (.slice base 0 0) W := by
  have w0 : IntKind.i64.wrap 0 = 0 := wrapM (by omega) (by omega)
  cases base <;> simp [Builtin.append_, run_und ht, run_und htx, sizeOf, typeInfo, T.info, T.size, storeCells, asInt, asIntOf, w0]

theorem run_append_zeros (T : TyOk P e ti i dd z) (ht : P.underlying t = some (.slice e)) (htx : P.underlying tx = some (.int .i64)) {base : Option Addr} {k : Nat} (hk : k ≠ 0) (hfit : k * ti.bytes ≤ strMax) (hb : ti.bytes ≠ 0) (hs : ti.size ≠ 0) :
    (Builtin.append_ #[t, tx] ty #[.slice base 0 0, .int .i64 (k : Int)]).run P W =
      .ok (.slice (some ⟨W.heap.size, 0, none⟩) k (grownCap W k 0 e)) (W.drew.alloc (.cells (#[] ++ Builtin.zeroCells z.cells k ++ Builtin.zeroCells z.cells (grownCap W k 0 e - k)) e)) := by
  have hkb : k ≤ strMax := Nat.le_trans (Nat.le_mul_of_pos_right k (Nat.pos_of_ne_zero hb)) hfit
  have hw : IntKind.i64.wrap (k : Int) = (k : Int) := wrapM (by omega) (by simp only [strMax] at hkb; omega)
  have n1 : ¬ ((k : Int) < 0) := by omega
  have n2 : ¬ (281474976710656 < (k : Int) * (ti.bytes : Int)) := by
    have : ((k * ti.bytes : Nat) : Int) ≤ 281474976710656 := by simp only [strMax] at hfit; omega
    rw [← Int.natCast_mul]; omega
  have n3 : ¬ (9223372036854775807 < (k : Int)) := by simp only [strMax] at hkb; omega
  have n4 : ¬ (k ≤ 0) := by omega
  have hcap : ¬ (281474976710656 < Builtin.nextslicecap k 0 * ti.bytes) := by
    have : Builtin.nextslicecap k 0 = k := by simp [Builtin.nextslicecap]; omega
    rw [this]; simp only [strMax] at hfit; omega
  have hfor : (Question.appendCap k 0 e).forced = false := rfl
  have n5 : ¬ (k * ti.size = 0) := Nat.mul_ne_zero hk hs
  have n6 : ti.size ≠ 0 := hs
  cases base <;> simp [Builtin.append_, run_und ht, run_und htx, sizeOf, typeInfo, zeroValue, T.info, T.zero, T.size, T.bytes, asInt, asIntOf, hw, n1, n2, n3, n4, n5, hk, n6, hcap, hfor, newRow, grownCap, Builtin.firstCells, loadCells, loadCellsFrom]

theorem appendNil_sim (hok : cfg.Ok P) {st1 : St} (h : Sim B W I m st a.tmps) (h1 : Sim B W I m st1 a.tmps) (hti : cfg.ty e = some ti) (hu : P.underlying t = some (.slice e)) (hsz : ti.size ≠ 0) (hbz : ti.bytes ≠ 0) (hso : ¬ cfg.solo e = true) {dst : Option Tmp} {x : V} {vx : Value} {aa : Option Addr}
    (hev : appendNilM cfg e ti dst t tx x st.hp st1 = some st') (hx : Rel W I m x vx) :
    ∃ w W' I' m', (Builtin.append_ #[t, tx] ty #[.slice aa 0 0, vx]).run P W = .ok w W' ∧ Sim B W' I' m' st' (aput a.tmps dst w) := by
  obtain ⟨i, d', z, T⟩ := hok.ty _ _ hti
  have hso' : ¬ BT.solo e := fun hs => hso ((hok.bt4 _).1 hs)
  have hwd : BT.width e = ti.size := hok.bt5 _ _ hti
  have hnil : ∀ w' : Option Addr, Sim B W I m (st1.put dst .nils) (aput a.tmps dst (.slice w' 0 0)) := fun w' => h1.put dst .nils
  unfold appendNilM at hev
  split at hev
  · rename_i k new hz
    unfold zerosM at hz
    split at hz
    · rename_i nn hkx
      split at hz
      · rename_i hc
        cases hz
        obtain ⟨dx, hux, hkd⟩ := hok.kind hkx
        cases dx <;> simp [KOk] at hkd
        subst hkd
        cases hx
        obtain ⟨k, rfl⟩ : ∃ k : Nat, nn = k := ⟨nn.toNat, by omega⟩
        simp only [Int.toNat_natCast] at hev hc
        split at hev
        · rename_i h0
          subst h0
          cases hev
          exact ⟨_, _, _, _, run_append_zero0 T hu hux, hnil aa⟩
        · rename_i h0
          cases hev
          have hrun := run_append_zeros (W := W) (ty := ty) (base := aa) T hu hux h0 hc.2 hbz hsz
          have hge := grownCap_ge W k 0 e
          have hrow : RowRel W I m (reps k ti.zero) (#[] ++ Builtin.zeroCells z.cells k) := by
            have := rowRel_reps (rowRel_zero (W := W) (I := I) (m := m) T) k
            have hzl : ti.zero.length = z.cells.size := by rw [T.zeq]; simp
            rw [hzl] at this
            simpa [Builtin.zeroCells] using this
          have hzs : z.cells.size = ti.size := T.zsize
          refine ⟨_, _, _, _, hrun, born (W1 := W.drew) (ti := ti) h1 rfl rfl ⟨rfl, Nat.le_succ _⟩ rfl (rowPre_of hrow) hso' (Nat.le_refl _) hge (.inr ?_) dst⟩
          rw [hwd]
          simp only [Array.size_append, zero_cells, hzs, Array.size_empty, Nat.zero_add, ← Nat.add_mul]
          exact Nat.mul_le_mul_right _ (by omega)
      · cases hz
    · cases hz
  · split at hev
    · rename_i k new hs
      obtain ⟨htx, news, S⟩ := srcM_sim hok h (Nat.pos_of_ne_zero hsz) hs hx
      subst htx
      split at hev
      · rename_i h0
        subst h0
        cases hev
        have hn0 : news = [] := List.eq_nil_of_length_eq_zero (by rw [S.nl']; simp)
        subst hn0
        exact ⟨_, _, _, _, run_append_none T hu hu (.inl rfl) S.len (by simpa using S.cells W rfl), hnil aa⟩
      · rename_i h0
        split at hev
        · rename_i hm
          cases hev
          have hrun := run_append_grow_any (W := W) (ty := ty) (base := aa) (sLen := 0) (sCap := 0) T hu hu (.inl rfl) S.len (by omega) (by simpa using hm) hbz (olds := []) (by simpa using cells_none) (S.cells W.drew rfl)
          have hge := grownCap_ge W k 0 e
          simp only [Nat.zero_add, Array.empty_append] at hrun
          have hzs : z.cells.size = ti.size := T.zsize
          refine ⟨_, _, _, _, hrun, born (W1 := W.drew) (ti := ti) h1 rfl rfl ⟨rfl, Nat.le_succ _⟩ rfl (rowPre_of ?_) hso' (Nat.le_refl _) hge (.inr ?_) dst⟩
          · simpa using S.rel
          · rw [hwd]
            simp only [Array.size_append, zero_cells, hzs, List.size_toArray, S.nl', ← Nat.add_mul, List.length_nil, Nat.zero_add]
            exact Nat.mul_le_mul_right _ (by omega)
        · cases hev
    · cases hev

theorem run_append_zero (T : TyOk P e ti i dd z) (ht : P.underlying t = some (.slice e)) {base : Option Addr} {sLen sCap : Nat} {x : Value} (hc : sLen ≤ sCap)
    (hlen : ∀ W' : World, (Builtin.lenOf x).run P W' = .ok 0 W') (hnew : (Builtin.firstCells ti.size 0 x).run P W = .ok #[] W) :
    (Builtin.append_ #[t, t] ty #[.slice base sLen sCap, x]).run P W = .ok (.slice base sLen sCap) W := by
  cases base <;> simp [Builtin.append_, run_und ht, sizeOf, typeInfo, T.info, T.size, hlen, hnew, storeCells, hc]

theorem appendAt_sim (hok : cfg.Ok P) (hB : B.n0 = B.m.length) (h : Sim B W I m st a.tmps) (hti : cfg.ty e = some ti) (hu : P.underlying t = some (.slice e)) (hsz : ti.size ≠ 0) (hbz : ti.bytes ≠ 0) (hso : ¬ cfg.solo e = true) {dst : Option Tmp} {x : V} {vx v : Value} {id len cap k : Nat} {new : List V}
    (hs : srcM cfg st.hp t tx ti x = some (k, new)) (hev : appendAtM cfg e ti dst id len cap k new st = some st') (hv : Rel W I m (.ms id 0 len cap) v) (hx : Rel W I m x vx) :
    ∃ w W' I' m', (Builtin.append_ #[t, tx] ty #[v, vx]).run P W = .ok w W' ∧ Sim B W' I' m' st' (aput a.tmps dst w) := by
  obtain ⟨i, d', z, T⟩ := hok.ty _ _ hti
  have hso' : ¬ BT.solo e := fun hs => hso ((hok.bt4 _).1 hs)
  have hwd : BT.width e = ti.size := hok.bt5 _ _ hti
  have hpos : 0 < ti.size := Nat.pos_of_ne_zero hsz
  obtain ⟨htx, news, S⟩ := srcM_sim hok h hpos hs hx
  subst htx
  cases hv with
  | @ms _ _ _ _ _ c g hg hlc hcc hz =>
    unfold appendAtM at hev
    split at hev
    · rename_i t' ow cs hb
      obtain ⟨arr, hw, hsa, h1, hr⟩ := h.blkAt hb hg
      have hrow : RowPre W I m cs arr := ⟨hsa.1, h1, hr⟩
      split at hev
      · rename_i hte
        subst hte
        split at hev
        · rename_i hk0
          subst hk0
          cases hev
          have hn0 : news = [] := List.eq_nil_of_length_eq_zero (by rw [S.nl']; simp)
          subst hn0
          exact ⟨_, _, _, _, run_append_zero T hu (Nat.le_trans hlc hcc) S.len (by simpa using S.cells W rfl), h.put dst (.ms hg hlc hcc hz)⟩
        · rename_i hk0
          split at hev
          · -- there is room, as is known
            rename_i hroom
            split at hev
            · rename_i hfit
              cases hev
              have hnl := S.nl'
              have hmul : (len + k) * ti.size = len * ti.size + k * ti.size := Nat.add_mul _ _ _
              have hrun := run_append_room_any (W := W) (ty := ty) T hu hu (.inl rfl) (sLen := len) (sCap := c) S.len (Nat.le_trans hroom hcc) (S.cells W rfl) hw (Nat.zero_le _) (by rw [hnl, ← hmul]; exact Nat.le_trans hfit.1 hsa.1) S.one
              have hoff : len * ti.size + new.length ≤ cs.length := by rw [S.nl, ← hmul]; exact hfit.1
              obtain ⟨hnew, hnsz⟩ := rowPre_splice (ws := news) hrow S.rel hoff
              obtain ⟨arr', harr'⟩ : ∃ arr', arr' = (arr.toList.take (len * ti.size) ++ news ++ arr.toList.drop (len * ti.size + news.length)).toArray := ⟨_, rfl⟩
              rw [← harr'] at hrun hnew
              have hnsz' : arr'.size = arr.size := by rw [harr', List.size_toArray]; exact hnsz
              have hal : arr.toList.length = arr.size := Array.length_toList
              have hset := h.setBlk (W' := W.setRow g arr') (off0 := len * ti.size) (ow' := ow.filter fun o => decide (o < len * ti.size) || decide ((len + k) * ti.size ≤ o)) (own' := st.own) (cs' := writeM cs new (len * ti.size)) hb hg hw (setRow_heap' hw) hnsz' (fun g' hne => setRow_other' hne) (by simp) rfl ⟨rfl, Nat.le_refl _⟩ rfl
                ⟨hnew.1, fun hs => absurd hs hso'⟩ hnew.2.1 hnew.2.2 (fun _ h => h) fun j dd xs hj hx' => by
                  simp only [List.mem_filter, Bool.or_eq_true, decide_eq_true_eq] at hj
                  obtain ⟨hj1, hj2⟩ := hj
                  have hx2 := splice_get (cells := cs) (cs := new) (off := len * ti.size) hoff hx'
                  have hkp : 0 < k * ti.size := Nat.mul_pos (Nat.pos_of_ne_zero hk0) hpos
                  rw [S.nl, if_neg (by omega)] at hx2
                  refine .inr (.inl ⟨dd, hj1, by omega, hx2, ?_⟩)
                  have hlt : j < arr.size := Nat.lt_of_lt_of_le (List.getElem?_eq_some_iff.1 hx2).1 hsa.1
                  have := splice_out (cs := news) (off := len * ti.size) (by rw [hnl, hal]; rw [S.nl] at hoff; exact Nat.le_trans hoff hsa.1) (by rw [hnl]; omega) (show arr.toList[j]? = some (arr.getD j undef) by rw [Array.getElem?_toList]; exact get_of_lt hlt)
                  rw [harr']
                  exact (getD_arr (by rw [List.getElem?_toArray]; exact this)).symm
              refine ⟨_, _, _, _, hrun, hset.put dst (.ms hg (by omega) hcc fun h0 => (hz h0).imp (fun h => h) fun ⟨t, q, p1, p2⟩ => ⟨t, q, ?_, p2⟩)⟩
              have hinfo := p1
              simp only [rowInfo, hw] at hinfo
              simp only [rowInfo, setRow_heap' hw, hnsz']
              exact hinfo
            · cases hev
          · split at hev
            · -- the block is this slice's alone
              rename_i hroom hc
              obtain ⟨hcl, hnb, hal, hnm, hmost, hl0⟩ := hc
              cases hev
              have hlt : id < st.hp.length := (List.getElem?_eq_some_iff.1 hb).1
              have hid : B.m.length ≤ id := by have := h.nb; omega
              obtain ⟨hL, hLn⟩ := h.lose hid hlt hal
              obtain ⟨hgm, hgc⟩ := hLn g hg
              have hput : ∀ (j g : Nat), (!Nat.beq j id) = true → m[j]? = some (some g) → (m.set id none)[j]? = some (some g) := fun j g hj hm => by
                rw [List.getElem?_set, if_neg fun e => (nb_ne.1 hj) e.symm]; exact hm
              have hfree : (m.set id none)[id]? = some none := by rw [List.getElem?_set, if_pos rfl, if_pos (by rw [h.mlen]; exact hlt)]
              have hgI : ∀ o, ¬ I g o := fun o => h.notI g (List.mem_of_getElem? hg) o
              have hgA := h.mA g (List.mem_of_getElem? hg)
              have hcsn : V.alll (fun i => !Nat.beq i id) cs = true ∧ V.alll (fun i => !Nat.beq i id) new = true := by
                simp only [alll_iff, List.mem_append] at hnm ⊢
                exact ⟨fun x hx => hnm x (.inl hx), fun x hx => hnm x (.inr hx)⟩
              have hrow2 : RowPre W I (m.set id none) cs arr := ⟨hrow.1, hrow.2.1, fun j x hx => (hrow.2.2 j x hx).on hput (alll_get hcsn.1 hx)⟩
              have hnew2 : RowRel W I (m.set id none) new news.toArray := ⟨S.rel.1, S.rel.2.1, fun j x hx => (S.rel.2.2 j x hx).on hput (alll_get hcsn.2 hx)⟩
              have hnl := S.nl'
              have hmul : (len + k) * ti.size = len * ti.size + k * ti.size := Nat.add_mul _ _ _
              have hal2 : arr.toList.length = arr.size := Array.length_toList
              have hsa1 := hsa.1
              by_cases hc : len + k ≤ c
              · -- in the same row
                obtain ⟨t2, q2, hi2, hq2⟩ := (hz rfl).resolve_left (by omega)
                have hi3 : rowInfo W g = some (t', arr.size) := by simp [rowInfo, hw]
                rw [hi3] at hi2
                cases hi2
                rw [hwd] at hq2
                have hfits : len * ti.size + news.length ≤ arr.size := by
                  rw [hnl, ← hmul]; exact Nat.le_trans (Nat.mul_le_mul_right _ hc) hq2
                have hrun := run_append_room_any (W := W) (ty := ty) T hu hu (.inl rfl) (sLen := len) (sCap := c) S.len hc (S.cells W rfl) hw (Nat.zero_le _) hfits S.one
                obtain ⟨arr', harr'⟩ : ∃ arr', arr' = (arr.toList.take (len * ti.size) ++ news ++ arr.toList.drop (len * ti.size + news.length)).toArray := ⟨_, rfl⟩
                rw [← harr'] at hrun
                have hnsz : arr'.size = arr.size := by
                  rw [harr', List.size_toArray]
                  simp only [List.length_append, List.length_take, List.length_drop, hal2]
                  omega
                have hW' : (W.setRow g arr').heap[g]? = some (.cells arr' t' (0, 0)) := setRow_heap' hw
                have hk : KeepI I W (W.setRow g arr') := ⟨fun g' o hi => cell_same (setRow_other' fun e => hgI o (e ▸ hi)), info_but (fun g' hne => setRow_other' hne) fun p hp => by rw [hi3] at hp; cases hp; simp [rowInfo, hW', hnsz]⟩
                have hS : Sim B (W.setRow g arr') I (m.set id none) (st.lose id) a.tmps := hL.worldX (fun g' => g' = g) rfl ⟨rfl, Nat.le_refl _⟩ rfl (by simp) (fun g' _ hne => setRow_other' hne) (fun g' hg' => hg' ▸ hgm) (fun g' l xs' v' hg' hh => hg' ▸ hgc l xs' v' hh) (fun g' hg' => hg' ▸ hgA) hk
                  (fun _ _ hi => hi) (fun g' q hi => .inl hi) (fun g' q hi => by obtain ⟨v, hv⟩ := h.live g' q hi; exact ⟨v, (hk.cell g' q hi).trans hv⟩) fun g' hg' x => (by rw [hg', hw]; simp)
                have hrow3 : RowPre (W.setRow g arr') I (m.set id none) (cs ++ new) arr' := by
                  have hg1 : ∀ (j : Nat) (x : V), cs[j]? = some x → arr'.getD j undef = arr.getD j undef := fun j x hx => by
                    have hlt := (List.getElem?_eq_some_iff.1 hx).1
                    have : arr'[j]? = arr[j]? := by
                      rw [harr', List.getElem?_toArray, List.append_assoc, List.getElem?_append_left (by simp; omega), List.getElem?_take, if_pos (by omega), Array.getElem?_toList]
                    simp only [Array.getD_eq_getD_getElem?, this]
                  have hg2 : ∀ (j : Nat) (x : V), new[j]? = some x → arr'.getD (len * ti.size + j) undef = news.toArray.getD j undef := fun j x hx => by
                    have hlt := (List.getElem?_eq_some_iff.1 hx).1
                    have hlt2 : j < news.length := by rw [hnl, ← S.nl]; exact hlt
                    have e0 : (arr.toList.take (len * ti.size)).length = len * ti.size := by rw [List.length_take, hal2]; omega
                    have : arr'[len * ti.size + j]? = news.toArray[j]? := by
                      rw [harr', List.getElem?_toArray, List.append_assoc, List.getElem?_append_right (by omega), e0, Nat.add_sub_cancel_left, List.getElem?_append_left hlt2, List.getElem?_toArray]
                    simp only [Array.getD_eq_getD_getElem?, this]
                  have hsp : ∀ (j : Nat) (x : V), (cs ++ new)[j]? = some x → cs[j]? = some x ∨ ∃ q, j = len * ti.size + q ∧ new[q]? = some x := fun j x hx => by
                    rw [List.getElem?_append] at hx
                    split at hx
                    · exact .inl hx
                    · exact .inr ⟨j - cs.length, by omega, hx⟩
                  have hm := hrow2.mono (fun _ _ h => h) hk (MLe.refl _)
                  have hm2 := hnew2.mono (fun _ _ h => h) hk (MLe.refl _)
                  refine ⟨by rw [hnsz, List.length_append, hcl, S.nl, ← hnl]; exact hfits, fun j x hx => ?_, fun j x hx => ?_⟩
                  · rcases hsp j x hx with hx2 | ⟨q, rfl, hx2⟩
                    · rw [hg1 j x hx2]; exact hm.2.1 j x hx2
                    · rw [hg2 q x hx2]; exact hm2.2.1 q x hx2
                  · rcases hsp j x hx with hx2 | ⟨q, rfl, hx2⟩
                    · rw [hg1 j x hx2]; exact hm.2.2 j x hx2
                    · rw [hg2 q x hx2]; exact hm2.2.2 q x hx2
                have hA := hS.adopt hW' hrow3 hso' hid (by simpa [St.lose] using hlt) hfree hgm hgI hgA fun l xs v hh => hgc l xs v (hh.world fun g' hg' => setRow_other' fun e => hgm (e ▸ hg'))
                refine ⟨_, _, _, _, hrun, hA.put dst (.ms (g := g) ?_ (Nat.le_refl _) hc fun _ => .inr ⟨t', arr'.size, by simp [rowInfo, hW'], by rw [hwd, hnsz]; exact hq2⟩)⟩
                rw [List.getElem?_set, if_pos rfl, if_pos (by rw [List.length_set, h.mlen]; exact hlt)]
              · -- in a new row
                have holds : (Builtin.firstCells ti.size len (.slice (some ⟨g, 0, none⟩) len c)).run P W.drew = .ok (arr.toList.take (len * ti.size)).toArray W.drew := by
                  refine run_firstCells_some (P := P) W.drew ti.size len ⟨g, 0, none⟩ len c _ (by rw [List.length_take, hal2]; omega) fun j v hj => ?_
                  rw [add_none, Nat.zero_add]
                  rw [List.getElem?_take] at hj
                  split at hj
                  · rw [Array.getElem?_toList] at hj
                    have : W.drew.cell? ⟨g, j, none⟩ = W.cell? ⟨g, j, none⟩ := rfl
                    rw [this, cell_of_blk hw]; exact hj
                  · cases hj
                have hrun := run_append_grow_any (W := W) (ty := ty) (base := some ⟨g, 0, none⟩) (sLen := len) (sCap := c) T hu hu (.inl rfl) S.len (by omega) hmost hbz (olds := arr.toList.take (len * ti.size)) holds (S.cells W.drew rfl)
                have hge := grownCap_ge W (len + k) c t'
                have hzs : z.cells.size = ti.size := T.zsize
                obtain ⟨arr', harr'⟩ : ∃ arr', arr' = (arr.toList.take (len * ti.size)).toArray ++ news.toArray ++ Builtin.zeroCells z.cells (grownCap W (len + k) c t' - (len + k)) := ⟨_, rfl⟩
                rw [← harr'] at hrun
                have hsz' : arr'.size = grownCap W (len + k) c t' * ti.size := by
                  rw [harr']
                  simp only [Array.size_append, zero_cells, hzs, List.size_toArray, List.length_take, hal2, hnl]
                  have e1 : min (len * ti.size) arr.size = len * ti.size := Nat.min_eq_left (by omega)
                  rw [e1, ← Nat.add_mul, ← Nat.add_mul]
                  congr 1; omega
                have hrow3 : RowRel W I (m.set id none) (cs ++ new) ((arr.toList.take (len * ti.size)).toArray ++ news.toArray) := by
                  have hts : (arr.toList.take (len * ti.size)).toArray.size = len * ti.size := by rw [List.size_toArray, List.length_take, hal2]; omega
                  have hg1 : ∀ (j : Nat) (x : V), cs[j]? = some x → ((arr.toList.take (len * ti.size)).toArray ++ news.toArray).getD j undef = arr.getD j undef := fun j x hx => by
                    have hlt := (List.getElem?_eq_some_iff.1 hx).1
                    have : ((arr.toList.take (len * ti.size)).toArray ++ news.toArray)[j]? = arr[j]? := by
                      rw [Array.getElem?_append_left (by omega), List.getElem?_toArray, List.getElem?_take, if_pos (by omega), Array.getElem?_toList]
                    simp only [Array.getD_eq_getD_getElem?, this]
                  have hg2 : ∀ (j : Nat), ((arr.toList.take (len * ti.size)).toArray ++ news.toArray).getD (len * ti.size + j) undef = news.toArray.getD j undef := fun j => by
                    have : ((arr.toList.take (len * ti.size)).toArray ++ news.toArray)[len * ti.size + j]? = news.toArray[j]? := by
                      rw [Array.getElem?_append_right (by omega), hts, Nat.add_sub_cancel_left]
                    simp only [Array.getD_eq_getD_getElem?, this]
                  have hsp : ∀ (j : Nat) (x : V), (cs ++ new)[j]? = some x → cs[j]? = some x ∨ ∃ q, j = len * ti.size + q ∧ new[q]? = some x := fun j x hx => by
                    rw [List.getElem?_append] at hx
                    split at hx
                    · exact .inl hx
                    · exact .inr ⟨j - cs.length, by omega, hx⟩
                  refine ⟨by rw [Array.size_append, hts, List.size_toArray, List.length_append, hcl, S.nl, hnl], fun j x hx => ?_, fun j x hx => ?_⟩
                  · rcases hsp j x hx with hx2 | ⟨q, rfl, hx2⟩
                    · rw [hg1 j x hx2]; exact hrow2.2.1 j x hx2
                    · rw [hg2 q]; exact hnew2.2.1 q x hx2
                  · rcases hsp j x hx with hx2 | ⟨q, rfl, hx2⟩
                    · rw [hg1 j x hx2]; exact hrow2.2.2 j x hx2
                    · rw [hg2 q]; exact hnew2.2.2 q x hx2
                have hpre3 : RowPre W I (m.set id none) (cs ++ new) arr' := by rw [harr']; exact rowPre_of hrow3
                have hD : Sim B W.drew I (m.set id none) (st.lose id) a.tmps := hL.drew (Nat.le_succ _)
                have hkD : KeepI I W W.drew := ⟨fun _ _ _ => rfl, fun _ _ h => h⟩
                have hpre4 := hpre3.mono (fun _ _ h => h) hkD (MLe.refl _)
                have hlay := hD.lay (m' := (m.set id none).set id (some W.heap.size)) (hp' := (st.lose id).hp.set id (.cells t' [] (cs ++ new))) id [] (cs ++ new) arr' t' ⟨hpre4.1, fun hs => absurd hs hso'⟩ hpre4.2.1 hpre4.2.2 (fun j d xs hj => by cases hj)
                  (by obtain ⟨r, hr⟩ := hL.pre; rw [← hr, List.set_append_right _ _ hid]; exact List.prefix_append _ _) (by simp [St.lose, h.mlen])
                  (fun j => by
                    rw [List.getElem?_set]
                    by_cases e : id = j
                    · subst e; rw [if_pos rfl, if_pos rfl, if_pos (by rw [List.length_set, h.mlen]; exact hlt)]; rfl
                    · rw [if_neg e, if_neg fun e' => e e'.symm])
                  (fun j => by
                    rw [List.getElem?_set]
                    by_cases e : id = j
                    · subst e; rw [if_pos rfl, if_pos rfl, if_pos (by simpa [St.lose] using hlt)]
                    · rw [if_neg e, if_neg fun e' => e e'.symm])
                  (fun g' => by rw [hfree]; simp)
                refine ⟨_, _, _, _, hrun, hlay.put dst (.ms (g := W.heap.size) ?_ (Nat.le_refl _) hge fun _ => .inr ⟨t', arr'.size, ?_, by rw [hwd, hsz']; exact Nat.le_refl _⟩)⟩
                · rw [List.getElem?_set, if_pos rfl, if_pos (by rw [List.length_set, h.mlen]; exact hlt)]
                · have : (W.drew.alloc (.cells arr' t')).heap[W.heap.size]? = some (.cells arr' t' (0, 0)) := heap_alloc_new W.drew _
                  show rowInfo (W.drew.alloc (.cells arr' t')) W.heap.size = _
                  unfold rowInfo
                  rw [this]
            · cases hev
      · cases hev
    · cases hev
end
end Go.Abs
