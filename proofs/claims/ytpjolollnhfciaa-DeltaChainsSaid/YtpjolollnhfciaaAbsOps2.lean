/- The operations that read: what the interpreter says of them is what the model does. -/
import Derived.Test.YtpjolollnhfciaaAbsOps
set_option linter.all false
namespace Go.Abs
variable [BT] {F : Fence} {n : Nat} {P : Program} {cfg : Cfg} {B : Base} {W : World} {I : Nat → Nat → Prop} {m : List (Option Nat)} {st st' : St} {a : Act} {o : Oper}

theorem Cfg.Ok.kind (hok : cfg.Ok P) {t : TypeId} {k : K} (hk : (cfg.ty t).map TI.k = some k) : ∃ d, P.underlying t = some d ∧ KOk P t k d := by
  obtain ⟨ti, hti, rfl⟩ := Option.map_eq_some_iff.1 hk
  obtain ⟨i, d, z, hT⟩ := hok.ty _ _ hti
  exact ⟨d, hT.und, hT.kind⟩

theorem kok_slice {t : TypeId} {e : TypeId} {d : TypeDesc} (h : KOk P t (.slice e) d) : d = .slice e := by
  cases d <;> simp [KOk] at h
  subst h; rfl
theorem kok_array {t : TypeId} {n : Nat} {e : TypeId} {d : TypeDesc} (h : KOk P t (.array n e) d) : d = .array n e := by
  cases d <;> simp [KOk] at h
  obtain ⟨rfl, rfl⟩ := h; rfl
theorem kok_str {t : TypeId} {d : TypeDesc} (h : KOk P t .str d) : d = .string := by
  cases d <;> simp [KOk] at h
  rfl
theorem kok_int {t : TypeId} {k : IntKind} {d : TypeDesc} (h : KOk P t (.int k) d) : d = .int k := by
  cases d <;> simp [KOk] at h
  subst h; rfl
theorem kok_struct {t : TypeId} {eq : Bool} {fs : List (Nat × TypeId)} {d : TypeDesc} (h : KOk P t (.struct eq fs) d) : ∃ fields, d = .struct fields ∧ fs = fields.toList.map fun f => (f.offset, f.type) := by
  cases d <;> simp only [KOk] at h
  exact ⟨_, rfl, h.1⟩

theorem run_unOpV {op : UnOp} {x v : V} {vx : Value} (h : unOpV op x = some v) (hx : Rel W I m x vx) : ∃ w, (Op.unary op vx).run P W = .ok w W ∧ Rel W I m v w := by
  unfold unOpV at h
  split at h <;> try (cases h; done)
  · rw [rel_int_inv hx]; cases h; exact ⟨_, rfl, .int⟩
  · rw [rel_int_inv hx]; cases h; exact ⟨_, rfl, .int⟩
  · rw [rel_bool_inv hx]; cases h; exact ⟨_, rfl, .bool⟩

theorem add_none (g o k : Nat) : (⟨g, o, none⟩ : Addr).add k = ⟨g, o + k, none⟩ := by unfold Addr.add; split <;> simp_all

/-! ### Loads -/
theorem rel_pc_inv {d : Bool} {cs : List V} {w : Value} (h : Rel W I m (.pc d cs) w) : ∃ (g o : Nat) (f : Nat → Value), w = .pointer (some ⟨g, o, none⟩) ∧
    (∀ (j : Nat) (x : V), cs[j]? = some x → I g (o + j) ∧ W.cell? ⟨g, o + j, none⟩ = some (f j) ∧ (f j).oneCell' = true) ∧ ∀ (j : Nat) (x : V), cs[j]? = some x → Rel W I (if d then [] else m) x (f j) := by
  cases h with
  | pc hc hr => exact ⟨_, _, _, rfl, hc, hr⟩

theorem ite_pre (d : Bool) (m : List (Option Nat)) : (if d then [] else m) <+: m := by cases d <;> simp

theorem Rel.up {v : V} {w : Value} {d : Bool} (h : Rel W I (if d then [] else m) v w) : Rel W I m v w := h.mono (fun _ _ h => h) (fun _ _ _ => rfl) (ite_pre d m)

theorem Sim.blkAt (h : Sim B W I m st a.tmps) {id : Nat} {t : TypeId} {ow : List Nat} {cs : List V} (hb : st.hp[id]? = some (.cells t ow cs)) {g : Nat} (hg : m[id]? = some (some g)) :
    ∃ arr, W.heap[g]? = some (.cells arr t (0, 0)) ∧ arr.size = cs.length ∧ (∀ (j : Nat) (x : V), cs[j]? = some x → (arr.getD j undef).oneCell' = true) ∧ ∀ (j : Nat) (x : V), cs[j]? = some x → Rel W I m x (arr.getD j undef) := by
  obtain ⟨x, hx, hb'⟩ := h.blk id _ hb
  rw [hg] at hx; cases hx
  cases hb' with
  | cells h1 h2 h3 h4 => exact ⟨_, h1, h2, h3, h4⟩

theorem run_loadV (hok : cfg.Ok P) (h : Sim B W I m st a.tmps) {t : TypeId} {p v : V} {vp : Value} (hv : loadV cfg st.hp t p = some v) (hp : Rel W I m p vp) : ∃ w, (Instr.loadAt t vp).run P W = .ok w W ∧ Rel W I m v w := by
  unfold loadV at hv
  split at hv
  · cases hv
  · rename_i ti hti
    obtain ⟨i, d, z, hT⟩ := hok.ty _ _ hti
    split at hv
    · rename_i dd cs
      split at hv
      · rename_i hle
        obtain ⟨g, o, f, rfl, hc, hr⟩ := rel_pc_inv hp
        have hl : (cs.take ti.size).length = ti.size := by simp; omega
        have hget : ∀ {j : Nat} {x : V}, (cs.take ti.size)[j]? = some x → cs[j]? = some x := fun {j x} hj => by
          rw [List.getElem?_take] at hj; split at hj
          · exact hj
          · cases hj
        have hrun := run_loadVar_f (P := P) (W := W) hT (g := g) (off := o) (f := f) hv hl fun j hj => (hc j cs[j] (List.getElem?_eq_getElem (by omega))).2.1
        exact ⟨_, by simp [Instr.loadAt, Instr.sureAddr, hrun], rel_mk hv hl (fun j x hx => (hc j x (hget hx)).2.2) fun j x hx => (hr j x (hget hx)).up⟩
      · cases hv
    · rename_i id off
      split at hv
      · rename_i ow cs hb
        split at hv
        · rename_i hle
          cases hp with
          | @ptr _ _ _ g hg =>
            obtain ⟨arr, hw, hs, h1, hr⟩ := h.blkAt hb hg
            have hl : ((cs.drop off).take ti.size).length = ti.size := by simp; omega
            have hrun := run_loadVar_f (P := P) (W := W) hT (g := g) (off := off) (f := fun j => arr.getD (off + j) undef) hv hl fun j hj => by
              rw [cell_of_blk hw]; exact get_of_lt (by omega)
            exact ⟨_, by simp [Instr.loadAt, Instr.sureAddr, hrun], rel_mk hv hl (fun j x hx => h1 _ x (take_drop_get hx).2) fun j x hx => hr _ x (take_drop_get hx).2⟩
        · cases hv
      · cases hv
    · cases hv

theorem run_fieldV (hok : cfg.Ok P) {s : TypeId} {p v : V} {i : Nat} {vp : Value} (hv : fieldV cfg s p i = some v) (hp : Rel W I m p vp) : ∃ w, (Instr.fieldAt s vp i).run P W = .ok w W ∧ Rel W I m v w := by
  unfold fieldV at hv
  split at hv
  · rename_i eq fs hk
    obtain ⟨d, hu, hkd⟩ := hok.kind hk
    obtain ⟨fields, rfl, rfl⟩ := kok_struct hkd
    split at hv
    · rename_i off t hf
      simp only [List.getElem?_map, Option.map_eq_some_iff, Array.getElem?_toList] at hf
      obtain ⟨f, hf, he⟩ := hf
      cases he
      split at hv
      · cases hv
      · rename_i hz
        have hsz : ∃ ti, cfg.ty f.type = some ti ∧ ti.size ≠ 0 := by
          rcases ht : cfg.ty f.type with _ | ti
          · simp [ht] at hz
          · exact ⟨ti, rfl, by simpa [ht] using hz⟩
        obtain ⟨ti, hti, hz⟩ := hsz
        obtain ⟨i', d', z', hT⟩ := hok.ty _ _ hti
        split at hv
        · cases hv
          cases hp with
          | ptr hg => exact ⟨_, by simp [Instr.fieldAt, run_und hu, hf, Instr.sureAddr, fieldPlace, sizeOf_run hT, hz, add_none], .ptr hg⟩
        · cases hv
          obtain ⟨g, o, ff, rfl, hc, hr⟩ := rel_pc_inv hp
          refine ⟨.pointer (some ⟨g, o + f.offset, none⟩), by simp [Instr.fieldAt, run_und hu, hf, Instr.sureAddr, fieldPlace, sizeOf_run hT, hz, add_none], .pc (f := fun j => ff (f.offset + j)) (fun j x hx => ?_) fun j x hx => ?_⟩
          · rw [List.getElem?_drop] at hx
            have := hc _ x hx
            rwa [show o + f.offset + j = o + (f.offset + j) by omega]
          · rw [List.getElem?_drop] at hx
            exact hr _ x hx
        · cases hv
    · cases hv
  · cases hv

theorem run_partV (hok : cfg.Ok P) {s : TypeId} {x v : V} {i : Nat} {vx : Value} (hv : partV cfg s x i = some v) (hx : Rel W I m x vx) : ∃ w, (Instr.field s vx i).run P W = .ok w W ∧ Rel W I m v w := by
  unfold partV at hv
  split at hv
  · rename_i eq fs cs hk
    obtain ⟨d, hu, hkd⟩ := hok.kind hk
    obtain ⟨fields, rfl, rfl⟩ := kok_struct hkd
    split at hv
    · rename_i off t hf
      simp only [List.getElem?_map, Option.map_eq_some_iff, Array.getElem?_toList] at hf
      obtain ⟨f, hf, he⟩ := hf
      cases he
      split at hv
      · rename_i ti hti
        obtain ⟨i', d', z', hT⟩ := hok.ty _ _ hti
        split at hv
        · rename_i hle
          cases hx with
          | @agg _ _ arr hl h1 hr =>
            have hl' : ((cs.drop f.offset).take ti.size).length = ti.size := by simp; omega
            have hrun := run_part_f (P := P) (W := W) hT (arr := arr) (off := f.offset) hv hl' (by omega)
            have hrel := rel_mk (W := W) (I := I) (m := m) (f := fun j => arr.getD (f.offset + j) undef) hv hl' (fun j x hx => h1 _ x (take_drop_get hx).2) fun j x hx => hr _ x (take_drop_get hx).2
            exact ⟨_, by simp only [Instr.field, Sem.run_bind, run_und hu, Result.andThen_ok, hf, asAgg, Sem.run_pure]; exact hrun, hrel⟩
        · cases hv
      · cases hv
    · cases hv
  · cases hv

/-! ### Slices -/
theorem rel_sl_inv {d : Bool} {xs : List (List V)} {w : Value} (h : Rel W I m (.sl d xs) w) : ∃ (a : Option Addr) (c g o sz : Nat) (f : Nat → Nat → Value), w = .slice a xs.length c ∧ xs.length ≤ c ∧ (xs ≠ [] → a = some ⟨g, o, none⟩) ∧
    (∀ (i : Nat) (row : List V), xs[i]? = some row → row.length = sz) ∧
    (∀ (i : Nat) (row : List V) (j : Nat) (x : V), xs[i]? = some row → row[j]? = some x → I g (o + (i * sz + j)) ∧ W.cell? ⟨g, o + (i * sz + j), none⟩ = some (f i j) ∧ (f i j).oneCell' = true) ∧
    ∀ (i : Nat) (row : List V) (j : Nat) (x : V), xs[i]? = some row → row[j]? = some x → Rel W I (if d then [] else m) x (f i j) := by
  cases h with
  | sl hn hc ha hs hi hr => subst hn; exact ⟨_, _, _, _, _, _, rfl, hc, ha, hs, hi, hr⟩

theorem rel_slice_part {d : Bool} {xs : List (List V)} {g o sz : Nat} {f : Nat → Nat → Value} (hs : ∀ (i : Nat) (row : List V), xs[i]? = some row → row.length = sz)
    (hi : ∀ (i : Nat) (row : List V) (j : Nat) (x : V), xs[i]? = some row → row[j]? = some x → I g (o + (i * sz + j)) ∧ W.cell? ⟨g, o + (i * sz + j), none⟩ = some (f i j) ∧ (f i j).oneCell' = true)
    (hr : ∀ (i : Nat) (row : List V) (j : Nat) (x : V), xs[i]? = some row → row[j]? = some x → Rel W I (if d then [] else m) x (f i j)) {a : Option Addr} (l k c : Nat) (hk : l + k ≤ xs.length) (hc : k ≤ c)
    (ha : 0 < k → a = some ⟨g, o + l * sz, none⟩) : Rel W I m (.sl d ((xs.drop l).take k)) (.slice a k c) := by
  have hget : ∀ {i : Nat} {row : List V}, ((xs.drop l).take k)[i]? = some row → i < k ∧ xs[l + i]? = some row := fun {i row} hi => by
    rw [List.getElem?_take] at hi
    split at hi
    · rw [List.getElem?_drop] at hi; exact ⟨by assumption, hi⟩
    · cases hi
  refine .sl (g := g) (o := o + l * sz) (sz := sz) (f := fun i j => f (l + i) j) (by simp; omega) hc (fun hne => ha ?_) (fun i row h => hs _ row (hget h).2) (fun i row j x h1 h2 => ?_) fun i row j x h1 h2 => hr _ row j x (hget h1).2 h2
  · rcases Nat.eq_zero_or_pos k with h0 | h0
    · subst h0; simp at hne
    · exact h0
  · have := hi _ row j x (hget h1).2 h2
    have e : o + l * sz + (i * sz + j) = o + ((l + i) * sz + j) := by rw [Nat.add_mul]; omega
    rw [e]; exact this

theorem run_indexAddrV (hok : cfg.Ok P) {t : TypeId} {x i v : V} {vx vi : Value} (hv : indexAddrV cfg t x i = some v) (hx : Rel W I m x vx) (hi : Rel W I m i vi) : ∃ w, (Instr.indexAt t vx vi).run P W = .ok w W ∧ Rel W I m v w := by
  unfold indexAddrV at hv
  split at hv
  · rename_i k i
    rw [rel_int_inv hi]
    split at hv
    · cases hv
    · rename_i hneg
      split at hv
      · rename_i e d xs hk
        obtain ⟨dd, hu, hkd⟩ := hok.kind hk
        have := kok_slice hkd; subst this
        split at hv
        · rename_i row hrow
          split at hv
          · rename_i hsz
            cases hv
            obtain ⟨ti, hti, hsz'⟩ := Option.map_eq_some_iff.1 hsz.symm
            obtain ⟨i', d', z', hT⟩ := hok.ty _ _ hti
            obtain ⟨aa, c, g, oo, sz, f, rfl, hc, ha, hs, hi', hr⟩ := rel_sl_inv hx
            have hlt : i.toNat < xs.length := (List.getElem?_eq_some_iff.1 hrow).1
            have hse : sz = ti.size := by rw [← hs _ _ hrow, hsz']
            have haa := ha (by intro h; subst h; simp at hlt)
            subst haa
            have hii : 0 ≤ i ∧ i < (xs.length : Int) := by omega
            refine ⟨.pointer (some ⟨g, oo + i.toNat * ti.size, none⟩), ?_, .pc (f := fun j => f i.toNat j) (fun j x hx => ?_) fun j x hx => hr _ row j x hrow hx⟩
            · simp [Instr.indexAt, asIntOf, run_und hu, hii, sizeOf_run hT, add_none]
            · have := hi' _ row j x hrow hx
              rw [hse] at this
              rwa [Nat.add_assoc]
          · cases hv
        · cases hv
      · rename_i e id off len cap hk
        obtain ⟨dd, hu, hkd⟩ := hok.kind hk
        have := kok_slice hkd; subst this
        split at hv
        · rename_i ti hti
          obtain ⟨i', d', z', hT⟩ := hok.ty _ _ hti
          split at hv
          · rename_i hlt
            cases hv
            cases hx with
            | ms hg hl =>
              have hii : 0 ≤ i ∧ i < (len : Int) := by omega
              exact ⟨_, by simp [Instr.indexAt, asIntOf, run_und hu, hii, sizeOf_run hT, add_none], .ptr hg⟩
          · cases hv
        · cases hv
      · rename_i nn e id off hk
        obtain ⟨dd, hu, hkd⟩ := hok.kind hk
        have := kok_array hkd; subst this
        split at hv
        · rename_i ti hti
          obtain ⟨i', d', z', hT⟩ := hok.ty _ _ hti
          split at hv
          · rename_i hlt
            cases hv
            cases hx with
            | ptr hg =>
              have hii : 0 ≤ i ∧ i < (nn : Int) := by omega
              exact ⟨_, by simp [Instr.indexAt, asIntOf, run_und hu, Instr.sureAddr, hii, sizeOf_run hT, add_none], .ptr hg⟩
          · cases hv
        · cases hv
      · rename_i nn e d cs hk
        obtain ⟨dd, hu, hkd⟩ := hok.kind hk
        have := kok_array hkd; subst this
        split at hv
        · rename_i ti hti
          obtain ⟨i', d', z', hT⟩ := hok.ty _ _ hti
          split at hv
          · rename_i hlt
            cases hv
            obtain ⟨g, oo, f, rfl, hc, hr⟩ := rel_pc_inv hx
            have hii : 0 ≤ i ∧ i < (nn : Int) := by omega
            refine ⟨.pointer (some ⟨g, oo + i.toNat * ti.size, none⟩), by simp [Instr.indexAt, asIntOf, run_und hu, Instr.sureAddr, hii, sizeOf_run hT, add_none], .pc (f := fun j => f (i.toNat * ti.size + j)) (fun j x hx => ?_) fun j x hx => ?_⟩
            · rw [List.getElem?_drop] at hx
              have := hc _ x hx
              rwa [Nat.add_assoc]
            · rw [List.getElem?_drop] at hx
              exact hr _ x hx
          · cases hv
        · cases hv
      · cases hv
  · cases hv

theorem run_indexV (hok : cfg.Ok P) {t : TypeId} {x i v : V} {vx vi : Value} (hv : indexV cfg t x i = some v) (hx : Rel W I m x vx) (hi : Rel W I m i vi) : ∃ w, (Instr.index t vx vi).run P W = .ok w W ∧ Rel W I m v w := by
  unfold indexV at hv
  split at hv
  · rename_i k i
    rw [rel_int_inv hi]
    split at hv
    · cases hv
    · rename_i hneg
      split at hv
      · rename_i s hk
        obtain ⟨dd, hu, hkd⟩ := hok.kind hk
        have := kok_str hkd; subst this
        split at hv
        · rename_i b hb
          cases hv
          rw [rel_str_inv hx]
          have h0 : 0 ≤ i := by omega
          have hb' : (⟨s.toArray⟩ : ByteArray)[i.toNat]? = some b := by
            have hlt := (List.getElem?_eq_some_iff.1 hb).1
            have hlt' : i.toNat < (⟨s.toArray⟩ : ByteArray).size := by simpa [ByteArray.size] using hlt
            rw [getElem?_pos (⟨s.toArray⟩ : ByteArray) i.toNat hlt']
            have := (List.getElem?_eq_some_iff.1 hb).2
            rw [← this]
            rfl
          exact ⟨_, by simp [Instr.index, asIntOf, run_und hu, h0, hb'], .int⟩
        · cases hv
      · rename_i nn e cs hk
        obtain ⟨dd, hu, hkd⟩ := hok.kind hk
        have := kok_array hkd; subst this
        split at hv
        · rename_i ti hti
          obtain ⟨i', d', z', hT⟩ := hok.ty _ _ hti
          split at hv
          · rename_i hlt
            obtain ⟨hlt, hle⟩ := hlt
            cases hx with
            | @agg _ _ arr hl h1 hr =>
              have hii : 0 ≤ i ∧ i < (nn : Int) := by omega
              have hl' : ((cs.drop (i.toNat * ti.size)).take ti.size).length = ti.size := by simp; omega
              have hrun := run_part_f (P := P) (W := W) hT (arr := arr) (off := i.toNat * ti.size) hv hl' (by omega)
              have hrel := rel_mk (W := W) (I := I) (m := m) (f := fun j => arr.getD (i.toNat * ti.size + j) undef) hv hl' (fun j x hx => h1 _ x (take_drop_get hx).2) fun j x hx => hr _ x (take_drop_get hx).2
              exact ⟨_, by simp only [Instr.index, asIntOf, Sem.run_bind, Sem.run_pure, run_und hu, Result.andThen_ok, if_pos hii, sizeOf_run hT]; exact hrun, hrel⟩
          · cases hv
        · cases hv
      · cases hv
  · cases hv

end Go.Abs
