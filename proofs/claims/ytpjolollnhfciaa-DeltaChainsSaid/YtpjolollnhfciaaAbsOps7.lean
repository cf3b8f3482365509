/- Conversions, least and greatest; then every operation at once. -/
import Derived.Test.YtpjolollnhfciaaAbsOps6
import Derived.Laws.IdiomStrings
set_option linter.all false
namespace Go.Abs
open Go.Lib
variable [BT] {F : Fence} {n : Nat} {P : Program} {cfg : Cfg} {B : Base} {W : World} {I : Nat → Nat → Prop} {m : List (Option Nat)} {st st' : St} {a : Act} {o : Oper} {tmps : Array Value}

theorem mapM_bytes : ∀ (xs : List (List V)) (bs : List UInt8), xs.mapM rowByte = some bs → ∃ ns : List Int, xs = ns.map (fun n => [V.int .u8 n]) ∧ bs = ns.map fun n => UInt8.ofNat n.toNat
  | [], bs, h => by simp at h; subst h; exact ⟨[], rfl, rfl⟩
  | r :: xs, bs, h => by
    rw [List.mapM_cons] at h
    simp only [Option.bind_eq_bind, Option.bind_eq_some_iff, Option.pure_def, Option.some.injEq] at h
    obtain ⟨b, hb, bs', hbs, rfl⟩ := h
    obtain ⟨ns, rfl, rfl⟩ := mapM_bytes xs bs' hbs
    unfold rowByte at hb
    split at hb
    · rename_i n
      simp only [Option.some.injEq] at hb
      subst hb
      exact ⟨n :: ns, rfl, rfl⟩
    · cases hb

theorem run_convV (hok : cfg.Ok P) (h : Sim B W I m st tmps) {src dst : TypeId} {x v : V} {vx : Value} (hv : convV cfg src dst x = some v) (hx : Rel W I m x vx) :
    ∃ w W' I', (convert src dst vx).run P W = .ok w W' ∧ Sim B W' I' m st tmps ∧ Rel W' I' m v w := by
  unfold convV at hv
  split at hv
  · rename_i ks kd k n hks hkd
    obtain ⟨d1, hu1, hk1⟩ := hok.kind hks
    obtain ⟨d2, hu2, hk2⟩ := hok.kind hkd
    have := kok_int hk2; subst this
    cases hv
    rw [rel_int_inv hx]
    exact ⟨_, W, I, by simp [convert, run_und hu1, run_und hu2, Conv.intToInt], h, .int⟩
  · rename_i ks kd s hks hkd
    obtain ⟨d1, hu1, hk1⟩ := hok.kind hks
    obtain ⟨d2, hu2, hk2⟩ := hok.kind hkd
    have := kok_str hk2; subst this
    cases hv
    have hvx := rel_str_inv hx
    rw [hvx]
    exact ⟨.string ⟨s.toArray⟩, W, I, by simp [convert, run_und hu1, run_und hu2], h, .str (by simp)⟩
  · rename_i ks kd e d xs hks hkd
    obtain ⟨d1, hu1, hk1⟩ := hok.kind hks
    obtain ⟨d2, hu2, hk2⟩ := hok.kind hkd
    have := kok_slice hk1; subst this
    have := kok_str hk2; subst this
    split at hv
    · rename_i he
      obtain ⟨d3, hu3, hk3⟩ := hok.kind he
      have := kok_int hk3; subst this
      obtain ⟨bs, hbs, rfl⟩ := Option.map_eq_some_iff.1 hv
      obtain ⟨ns, rfl, rfl⟩ := mapM_bytes _ _ hbs
      obtain ⟨aa, c, g, oo, sz, f, rfl, hc, ha, hs, hi, hr⟩ := rel_sl_inv hx
      cases aa with
      | none =>
        have h0 : ns = [] := by
          cases ns with
          | nil => rfl
          | cons n ns => have := ha (by simp); cases this
        subst h0
        exact ⟨_, W, I, run_convert_bytes_nil (P := P) (w := W) src e hu1 hu3 _ _ dst hu2, h, .str rfl⟩
      | some aa =>
        refine ⟨_, W, I, ?_, h, .str (s := strOfNums ns) (strOfNums_data ns)⟩
        have hsz : ns ≠ [] → sz = 1 := fun hne => by
          cases ns with
          | nil => exact absurd rfl hne
          | cons n ns => exact (hs 0 _ rfl).symm
        rcases hns : ns with _ | ⟨n0, ns0⟩
        · subst hns
          rw [run_convert_bytes_string W src dst e _ _ c hu1 hu3 hu2]
          simp [Conv.bytesToString, loadCells, loadCellsFrom, strOfNums, ByteArray.empty, ByteArray.emptyWithCapacity]
          rfl
        · rw [← hns]
          have hne : ns ≠ [] := by rw [hns]; simp
          have haa := ha (by simpa using hne)
          cases haa
          refine run_convert_bytes_arg W src e hu1 hu3 _ oo _ c ns (by simp) (fun i hi' => ?_) dst hu2
          have hlt : i < ns.length := by simpa using hi'
          have h1 : (ns.map fun n => [V.int .u8 n])[i]? = some [V.int .u8 (ns[i])] := by simp [hlt]
          have hcell := (hi i _ 0 _ h1 rfl).2.1
          have hrel := hr i _ 0 _ h1 rfl
          have := rel_int_inv hrel
          rw [hsz hne] at hcell
          rw [show oo + (i * 1 + 0) = oo + i by omega, this] at hcell
          rw [hcell]
          simp [List.getD_eq_getElem?_getD, hlt]
    · cases hv
  · rename_i ks kd e s hks hkd
    obtain ⟨d1, hu1, hk1⟩ := hok.kind hks
    obtain ⟨d2, hu2, hk2⟩ := hok.kind hkd
    have := kok_slice hk2; subst this
    split at hv
    · rename_i he
      obtain ⟨he, hks'⟩ := he
      obtain ⟨d3, hu3, hk3⟩ := hok.kind he
      have := kok_int hk3; subst this
      subst hks'
      have := kok_str hk1; subst this
      cases hv
      rw [rel_str_inv hx]
      have hss : (⟨s.toArray⟩ : ByteArray).size = s.length := by simp [ByteArray.size]
      have hrun := run_bytes_of_string (P := P) W src dst e ⟨s.toArray⟩ hu1 hu2 hu3
      rw [hss] at hrun
      obtain ⟨arr, harr⟩ : ∃ arr, arr = bytesRow ⟨s.toArray⟩ (grownCap W s.length 0 e) := ⟨_, rfl⟩
      rw [← harr] at hrun
      have hcap := grownCap_ge W s.length 0 e
      have hsize : s.length ≤ arr.size := by rw [harr]; simp [bytesRow, hss]
      have hget : ∀ (j : Nat) (b : UInt8), s[j]? = some b → arr.getD j undef = .int .u8 b.toNat := fun j b hb => by
        have hlt := (List.getElem?_eq_some_iff.1 hb).1
        refine getD_arr ?_
        rw [harr]
        simp only [bytesRow]
        rw [Array.getElem?_append_left (by simp; omega)]
        simp [hb]
      obtain ⟨hS, hK⟩ := h.newRow arr e (arr.size, arr.size + 1) (W1 := W.drew) rfl rfl rfl rfl s.length hsize
      have hnew : (W.drew.alloc (.cells arr e (arr.size, arr.size + 1))).heap[W.heap.size]? = some (.cells arr e (arr.size, arr.size + 1)) := heap_alloc_new W.drew _
      refine ⟨_, _, _, hrun, hS, .sl (g := W.heap.size) (o := 0) (sz := 1) (f := fun i _ => arr.getD i undef) (by simp) hcap (fun _ => rfl) (fun i row h => ?_) (fun i row j x h1 h2 => ?_) fun i row j x h1 h2 => ?_⟩
      · simp only [List.getElem?_map, Option.map_eq_some_iff] at h
        obtain ⟨b, _, rfl⟩ := h; rfl
      · simp only [List.getElem?_map, Option.map_eq_some_iff] at h1
        obtain ⟨b, hb, rfl⟩ := h1
        have hlt := (List.getElem?_eq_some_iff.1 hb).1
        cases j with
        | succ j => simp [byteRow] at h2
        | zero =>
          refine ⟨.inr ⟨rfl, by omega⟩, ?_, by rw [hget i b hb]; rfl⟩
          rw [cell_of_blk hnew, show 0 + (i * 1 + 0) = i by omega]
          exact get_of_lt (by omega)
      · simp only [List.getElem?_map, Option.map_eq_some_iff] at h1
        obtain ⟨b, hb, rfl⟩ := h1
        cases j with
        | succ j => simp [byteRow] at h2
        | zero =>
          simp [byteRow] at h2
          subst h2
          rw [hget i b hb]
          exact .int
    · cases hv
  · cases hv

theorem minmax_sim (mx : Bool) : ∀ (l : List V) (ws : List Value) (v : V), minmax mx l = some v → l.length = ws.length → (∀ (j : Nat) (x : V) (w : Value), l[j]? = some x → ws[j]? = some w → Rel W I m x w) →
    ∃ w0 r w, ws = w0 :: r ∧ (r.foldlM (if mx then Builtin.max2 else Builtin.min2) w0).run P W = .ok w W ∧ Rel W I m v w := by
  intro l
  induction hn : l.length using Nat.strongRecOn generalizing l with
  | _ k ih =>
    intro ws v h hl hr
    subst hn
    rw [minmax_def] at h
    split at h
    · rename_i k' a'
      cases h
      cases ws with
      | nil => simp at hl
      | cons w0 r =>
        cases r with
        | cons _ _ => simp at hl
        | nil =>
          have := rel_int_inv (hr 0 _ _ rfl rfl)
          subst this
          exact ⟨_, [], _, rfl, rfl, .int⟩
    · rename_i k1 x k2 y r
      split at h
      · rename_i hk
        subst hk
        cases ws with
        | nil => simp at hl
        | cons w0 ws =>
          cases ws with
          | nil => simp at hl
          | cons w1 ws =>
            have e0 := rel_int_inv (hr 0 _ _ rfl rfl)
            have e1 := rel_int_inv (hr 1 _ _ rfl rfl)
            subst e0; subst e1
            obtain ⟨w0', r', w, hw, hrun, hrel⟩ := ih (r.length + 1) (by simp) (_ :: r) (by simp) (.int k1 (if mx then (if x < y then y else x) else (if y < x then y else x)) :: ws) v h (by simp at hl ⊢; omega) (fun j x w hx hw => by
              cases j with
              | zero => simp at hx hw; subst hx; subst hw; exact .int
              | succ j => exact hr (j + 2) x w (by simpa using hx) (by simpa using hw))
            cases hw
            refine ⟨_, _, w, rfl, ?_, hrel⟩
            rw [List.foldlM_cons]
            cases mx
            · simp only [Bool.false_eq_true, if_false] at hrun ⊢
              simpa [Builtin.min2] using hrun
            · simp only [if_true] at hrun ⊢
              simpa [Builtin.max2] using hrun
      · cases h
    · cases h

/-- A pointer turned into an unsafe one, or back. -/
theorem run_convPV (hok : cfg.Ok P) (h : Sim B W I m st a.tmps) {src dst : TypeId} {x v : V} {vx : Value} (hv : convPV cfg st.hp src dst x = some v) (hx : Rel W I m x vx) : ∃ w, (convert src dst vx).run P W = .ok w W ∧ Rel W I m v w := by
  unfold convPV at hv
  split at hv
  · rename_i t id off hks hkd
    obtain ⟨ds, hus, hks⟩ := hok.kind hks
    obtain ⟨dd, hud, hkd⟩ := hok.kind hkd
    cases ds <;> simp [KOk] at hks
    cases dd <;> simp [KOk] at hkd
    subst hks
    split at hv
    · rename_i ti t' ow cs hti hb
      obtain ⟨i, d, z, T⟩ := hok.ty _ _ hti
      split at hv
      · rename_i hc
        cases hv
        cases hx with
        | @ptr _ _ _ g hg =>
          obtain ⟨arr, hw, hs, h1, hr⟩ := h.blkAt hb hg
          refine ⟨_, run_to_unsafe (w := W) (e := t') (cells := arr.size) ⟨g, off, none⟩ hus hud T.info (by rw [T.size]; exact hc.1) (by simp [World.shape?, hw]) (by rw [hs]; exact hc.2), .ptr hg⟩
      · cases hv
    · cases hv
  · rename_i t id off hks hkd
    obtain ⟨ds, hus, hks⟩ := hok.kind hks
    obtain ⟨dd, hud, hkd⟩ := hok.kind hkd
    cases ds <;> simp [KOk] at hks
    cases dd <;> simp [KOk] at hkd
    subst hkd
    split at hv
    · rename_i ti t' ow cs hti hb
      obtain ⟨i, d, z, T⟩ := hok.ty _ _ hti
      split at hv
      · rename_i hc
        obtain ⟨rfl, rfl, hc, hnz⟩ := hc
        cases hv
        cases hx with
        | @ptr _ _ _ g hg =>
          obtain ⟨arr, hw, hs, h1, hr⟩ := h.blkAt hb hg
          have hcells : P.cellsOf t' = ti.size := by simp [Program.cellsOf, T.info, T.size]
          refine ⟨_, run_from_unsafe (w := W) (e := t') (cells := arr.size) ⟨g, 0, none⟩ hus hud T.info (by simp [World.shape?, hw]) ?_, .ptr hg⟩
          have hd : P.depth = (2 * (P.types.size + Made.depth) + 1) + 1 := rfl
          have h1 : arr.size / P.cellsOf t' = 1 := by rw [hs, hc, hcells]; exact Nat.div_self (Nat.pos_of_ne_zero hnz)
          simp only [h1]
          rw [hd]
          simp only [liesAt, Bool.or_eq_true]
          left
          rw [hd]
          simp [rowAt, hcells, hnz, sameLayout]
      · cases hv
    · cases hv
  · cases hv

end Go.Abs
