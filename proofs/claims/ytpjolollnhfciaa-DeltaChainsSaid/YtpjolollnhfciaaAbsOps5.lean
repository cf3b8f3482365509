/- Literals, new variables, stores, conversions: what the interpreter says of them is what the model does. -/
import Derived.Test.YtpjolollnhfciaaAbsOps4
set_option linter.all false
namespace Go.Abs
open Go.Lib
variable [BT] {F : Fence} {n : Nat} {P : Program} {cfg : Cfg} {B : Base} {W : World} {I : Nat → Nat → Prop} {m : List (Option Nat)} {st st' : St} {a : Act} {o : Oper} {tmps : Array Value}

/-- A row of cells stands for a list of abstract ones. -/
def RowRel (W : World) (I : Nat → Nat → Prop) (m : List (Option Nat)) (cs : List V) (arr : Array Value) : Prop :=
  arr.size = cs.length ∧ (∀ (j : Nat) (x : V), cs[j]? = some x → (arr.getD j undef).oneCell' = true) ∧ ∀ (j : Nat) (x : V), cs[j]? = some x → Rel W I m x (arr.getD j undef)

theorem foldl_set_size (off : Nat) : ∀ (l : List (Value × Nat)) (arr : Array Value), (l.foldl (fun cs (p : Value × Nat) => cs.setIfInBounds (off + p.2) p.1) arr).size = arr.size
  | [], _ => rfl
  | _ :: r, arr => by rw [List.foldl_cons, foldl_set_size off r]; simp

theorem foldl_set_get (off : Nat) : ∀ (vs : List Value) (k : Nat) (arr : Array Value) (j : Nat), off + k + vs.length ≤ arr.size →
    ((vs.zipIdx k).foldl (fun cs (p : Value × Nat) => cs.setIfInBounds (off + p.2) p.1) arr).getD j undef = if off + k ≤ j ∧ j < off + k + vs.length then vs.getD (j - (off + k)) undef else arr.getD j undef
  | [], k, arr, j, _ => by simp only [List.zipIdx_nil, List.foldl_nil, List.length_nil]; rw [if_neg (by omega)]
  | v :: r, k, arr, j, h => by
    simp only [List.zipIdx_cons, List.foldl_cons, List.length_cons] at h ⊢
    rw [foldl_set_get off r (k + 1) _ j (by simp; omega), getD_set (by omega)]
    by_cases h1 : off + (k + 1) ≤ j ∧ j < off + (k + 1) + r.length
    · rw [if_pos h1, if_pos (by omega)]
      have : j - (off + k) = j - (off + (k + 1)) + 1 := by omega
      rw [this]; simp
    · rw [if_neg h1]
      by_cases h2 : j = off + k
      · subst h2; rw [if_pos rfl, if_pos (by omega)]; simp
      · rw [if_neg h2, if_neg (by omega)]

theorem splice_get {α : Type} {cells cs : List α} {off j : Nat} {x : α} (hle : off + cs.length ≤ cells.length) (h : (cells.take off ++ cs ++ cells.drop (off + cs.length))[j]? = some x) :
    if off ≤ j ∧ j < off + cs.length then cs[j - off]? = some x else cells[j]? = some x := by
  have hl : (cells.take off).length = off := by simp; omega
  by_cases h1 : j < off
  · rw [if_neg (by omega)]
    rw [List.append_assoc, List.getElem?_append_left (by omega), List.getElem?_take, if_pos h1] at h
    exact h
  · by_cases h2 : j < off + cs.length
    · rw [if_pos (by omega)]
      rw [List.append_assoc, List.getElem?_append_right (by omega), hl, List.getElem?_append_left (by omega)] at h
      exact h
    · rw [if_neg (by omega)]
      rw [List.getElem?_append_right (by simp; omega), List.getElem?_drop] at h
      have : off + cs.length + (j - (cells.take off ++ cs).length) = j := by simp; omega
      rw [this] at h
      exact h

theorem splice_length {α : Type} {cells cs : List α} {off : Nat} (hle : off + cs.length ≤ cells.length) : (cells.take off ++ cs ++ cells.drop (off + cs.length)).length = cells.length := by
  simp; omega

/-- A part of a row is laid over. -/
theorem rowRel_splice {cells cs : List V} {arr : Array Value} {w : Value} {off : Nat} (hr : RowRel W I m cells arr) (hw : RowRel W I m cs w.cells) (hle : off + cs.length ≤ cells.length) :
    RowRel W I m (cells.take off ++ cs ++ cells.drop (off + cs.length)) (w.cells.zipIdx.foldl (fun a (p : Value × Nat) => a.setIfInBounds (off + p.2) p.1) arr) := by
  have hfold : w.cells.zipIdx.foldl (fun a (p : Value × Nat) => a.setIfInBounds (off + p.2) p.1) arr = (w.cells.toList.zipIdx).foldl (fun a (p : Value × Nat) => a.setIfInBounds (off + p.2) p.1) arr := by
    rw [← Array.foldl_toList]; simp
  have hlen : w.cells.toList.length = cs.length := by simp [hw.1]
  have hget : ∀ j, ((w.cells.toList.zipIdx).foldl (fun a (p : Value × Nat) => a.setIfInBounds (off + p.2) p.1) arr).getD j undef = if off ≤ j ∧ j < off + cs.length then w.cells.getD (j - off) undef else arr.getD j undef := fun j => by
    have := foldl_set_get off w.cells.toList 0 arr j (by rw [hlen, hr.1]; omega)
    rw [hlen] at this
    simp only [Nat.add_zero] at this
    rw [this]
    split
    · simp [List.getD_eq_getElem?_getD, Array.getD_eq_getD_getElem?]
    · rfl
  rw [hfold]
  refine ⟨by rw [foldl_set_size, hr.1, splice_length hle], fun j x hx => ?_, fun j x hx => ?_⟩
  · have := splice_get hle hx
    rw [hget]
    split at this
    · rename_i h; rw [if_pos h]; exact hw.2.1 _ _ this
    · rename_i h; rw [if_neg h]; exact hr.2.1 _ _ this
  · have := splice_get hle hx
    rw [hget]
    split at this
    · rename_i h; rw [if_pos h]; exact hw.2.2 _ _ this
    · rename_i h; rw [if_neg h]; exact hr.2.2 _ _ this

/-- The parts of a literal, one by one. -/
theorem fill_sim {place place' : Nat → Option (Nat × Nat)} (hp : ∀ i, place i = place' i ∨ place i = none) : ∀ (parts : List (Nat × V)) (vparts : List (Nat × Value)) (cells out : List V) (arr : Array Value),
    fillV place cells parts = some out → parts.length = vparts.length → (∀ (j : Nat) (p : Nat × V) (q : Nat × Value), parts[j]? = some p → vparts[j]? = some q → p.1 = q.1 ∧ Rel W I m p.2 q.2) → RowRel W I m cells arr →
    ∃ arr', Instr.fill place' arr vparts = some arr' ∧ RowRel W I m out arr' := by
  intro parts
  induction parts with
  | nil =>
    intro vparts cells out arr h hl _ hr
    have : vparts = [] := List.eq_nil_of_length_eq_zero (by simpa using hl.symm)
    subst this
    simp only [fillV, Option.some.injEq] at h
    subst h
    exact ⟨arr, rfl, hr⟩
  | cons p r ih =>
    intro vparts cells out arr h hl hpq hr
    obtain ⟨i, v⟩ := p
    cases vparts with
    | nil => simp at hl
    | cons q vr =>
      obtain ⟨i', w⟩ := q
      obtain ⟨he, hrel⟩ := hpq 0 _ _ rfl rfl
      simp only at he hrel
      subst he
      simp only [fillV] at h
      split at h
      · cases h
      · rename_i off size hpl
        split at h
        · cases h
        · rename_i cs hcs
          split at h
          · rename_i hle
            obtain ⟨hsz, hle⟩ := hle
            subst hsz
            have hw : RowRel W I m cs w.cells := rel_cells hrel hcs
            have hpl' : place' i = some (off, cs.length) := by
              rcases hp i with e | e
              · rw [← e]; exact hpl
              · rw [e] at hpl; cases hpl
            obtain ⟨arr', h1, h2⟩ := ih vr _ out _ h (by simpa using hl) (fun j p q hp hq => hpq (j + 1) p q hp hq) (rowRel_splice hr hw hle)
            refine ⟨arr', ?_, h2⟩
            rw [Instr.fill, hpl']
            simp only
            rw [if_neg (by rw [hw.1, hr.1]; simp; omega)]
            exact h1
          · cases h

theorem rowRel_zero {t : TypeId} {ti : TI} {i : TypeInfo} {d : TypeDesc} {z : Value} (T : TyOk P t ti i d z) : RowRel W I m ti.zero z.cells := by
  have hget : ∀ (j : Nat) (x : V), ti.zero[j]? = some x → ∃ w, z.cells[j]? = some w ∧ x = ofConst w := fun j x hx => by
    rw [T.zeq] at hx
    simp only [List.getElem?_map, Option.map_eq_some_iff, Array.getElem?_toList] at hx
    obtain ⟨w, h1, h2⟩ := hx
    exact ⟨w, h1, h2.symm⟩
  refine ⟨by rw [T.zeq]; simp, fun j x hx => ?_, fun j x hx => ?_⟩
  · obtain ⟨w, h1, h2⟩ := hget j x hx
    rw [getD_arr h1]
    exact T.zone w (by rw [Array.mem_toList_iff]; exact Array.mem_of_getElem? h1)
  · obtain ⟨w, h1, rfl⟩ := hget j x hx
    rw [getD_arr h1]
    exact rel_const w

theorem parts_rel (h : Sim B W I m st a.tmps) (parts : Array (Nat × Operand)) :
    (parts.toList.map fun (p : Nat × Operand) => (p.1, ev st.fr p.2)).length = (parts.map fun (p : Nat × Operand) => (p.1, a.eval p.2)).toList.length ∧
    ∀ (j : Nat) (p : Nat × V) (q : Nat × Value), (parts.toList.map fun (p : Nat × Operand) => (p.1, ev st.fr p.2))[j]? = some p → (parts.map fun (p : Nat × Operand) => (p.1, a.eval p.2)).toList[j]? = some q → p.1 = q.1 ∧ Rel W I m p.2 q.2 := by
  refine ⟨by simp, fun j p q hp hq => ?_⟩
  simp only [List.getElem?_map, Option.map_eq_some_iff, Array.toList_map] at hp hq
  obtain ⟨x, hx, rfl⟩ := hp
  obtain ⟨y, hy, rfl⟩ := hq
  rw [hx] at hy; cases hy
  exact ⟨rfl, rel_ev h x.2⟩

theorem mapM_sizes {ts : List Field} (f : Field → Option Nat) : ∀ (fs : List Field), (∀ x ∈ fs, ∃ i, P.info? x.type = some i) → 
    (fs.mapM fun (f : Field) => (do pure (f.offset, ← sizeOf f.type) : Sem (Nat × Nat))).run P W = .ok (fs.map fun f => (f.offset, P.cellsOf f.type)) W
  | [], _ => by simp
  | x :: r, h => by
    obtain ⟨i, hi⟩ := h x (by simp)
    have hsz : (sizeOf x.type).run P W = .ok (P.cellsOf x.type) W := by simp [sizeOf, typeInfo, hi, Program.cellsOf]
    rw [List.mapM_cons]
    simp only [Sem.run_bind, hsz, Result.andThen_ok, Sem.run_pure]
    rw [mapM_sizes (ts := ts) f r fun y hy => h y (by simp [hy])]
    rfl

theorem rel_agg {cs : List V} {arr : Array Value} (h : RowRel W I m cs arr) : Rel W I m (.agg cs) (.agg arr) := .agg h.1 h.2.1 h.2.2

theorem run_buildV (hok : cfg.Ok P) (h : Sim B W I m st a.tmps) {t : TypeId} {parts : Array (Nat × Operand)} {v : V} (hv : buildV cfg t (parts.toList.map fun (p : Nat × Operand) => (p.1, ev st.fr p.2)) = some v) (hk : fieldsKnown cfg t = true) :
    ∃ w, (Instr.build t (parts.map fun (p : Nat × Operand) => (p.1, a.eval p.2))).run P W = .ok w W ∧ Rel W I m v w := by
  obtain ⟨hl, hpq⟩ := parts_rel h parts
  unfold buildV at hv
  split at hv
  · cases hv
  · rename_i ti hti
    obtain ⟨i, d, z, T⟩ := hok.ty _ _ hti
    have hz : (zeroValue t).run P W = .ok z W := by simp [zeroValue, typeInfo, T.info, T.zero]
    have hkd := T.kind
    split at hv
    · rename_i eq fs hks
      rw [hks] at hkd
      obtain ⟨fields, rfl, rfl⟩ := kok_struct hkd
      obtain ⟨out, hout, rfl⟩ := Option.map_eq_some_iff.1 hv
      have hinfo : ∀ x ∈ fields.toList, ∃ ti i, cfg.ty x.type = some ti ∧ P.info? x.type = some i ∧ i.size = ti.size := fun x hx => by
        simp only [fieldsKnown, hti, Option.map_some, hks, List.all_eq_true] at hk
        have := hk (x.offset, x.type) (List.mem_map.2 ⟨x, hx, rfl⟩)
        obtain ⟨ti', hti'⟩ := Option.isSome_iff_exists.1 this
        obtain ⟨i', d', z', T'⟩ := hok.ty _ _ hti'
        exact ⟨ti', i', hti', T'.info, T'.size⟩
      have hplaces : (fields.mapM fun f => (do pure (f.offset, ← sizeOf f.type) : Sem (Nat × Nat))).run P W = .ok (fields.map fun f => (f.offset, P.cellsOf f.type)) W := by
        have hm := mapM_sizes (P := P) (W := W) (ts := []) (fun _ => none) fields.toList fun x hx => by obtain ⟨_, i', _, h2, _⟩ := hinfo x hx; exact ⟨i', h2⟩
        rw [Array.mapM_eq_mapM_toList]
        simp only [Sem.run_bind, Sem.run_map, hm]
        simp only [Result.andThen]
        congr 1
        apply Array.ext'
        simp
      obtain ⟨arr', h1, h2⟩ := fill_sim (W := W) (I := I) (m := m) (place' := fun i => (fields.map fun f => (f.offset, P.cellsOf f.type))[i]?) (fun i => by
        rcases hf : fields[i]? with _ | f
        · right; simp [hf]
        · obtain ⟨ti', i', h1, h2, h3⟩ := hinfo f (by rw [Array.mem_toList_iff]; exact Array.mem_of_getElem? hf)
          left
          simp [hf, h1, Program.cellsOf, h2, h3]) _ _ _ _ z.cells hout hl hpq (rowRel_zero T)
      refine ⟨_, ?_, rel_agg h2⟩
      simp only [Instr.build, Sem.run_bind, hz, Result.andThen_ok, run_und T.und, hplaces]
      rw [h1]
      rfl
    · rename_i nn e hks
      rw [hks] at hkd
      have := kok_array hkd; subst this
      rcases hte : cfg.ty e with _ | te
      · rw [hte] at hv; cases hv
      · rw [hte] at hv
        simp only [Option.bind_some] at hv
        obtain ⟨out, hout, rfl⟩ := Option.map_eq_some_iff.1 hv
        obtain ⟨i', d', z', T'⟩ := hok.ty _ _ hte
        obtain ⟨arr', h1, h2⟩ := fill_sim (W := W) (I := I) (m := m) (place' := fun i => some (i * te.size, te.size)) (fun i => .inl rfl) _ _ _ _ z.cells hout hl hpq (rowRel_zero T)
        refine ⟨_, ?_, rel_agg h2⟩
        simp only [Instr.build, Sem.run_bind, hz, Result.andThen_ok, run_und T.und, sizeOf_run T']
        rw [h1]
        rfl
    · cases hv

end Go.Abs
