/- Slices, conversions, lengths, literals: what the interpreter says of them is what the model does. -/
import Derived.Test.YtpjolollnhfciaaAbsOps2
import Derived.Laws.BytesArg
import Derived.Lib.Strings
set_option linter.all false
namespace Go.Abs
variable [BT] {F : Fence} {n : Nat} {P : Program} {cfg : Cfg} {B : Base} {W : World} {I : Nat → Nat → Prop} {m : List (Option Nat)} {st st' : St} {a : Act} {o : Oper}

/-- An optional operand stands for one. -/
inductive ORel (W : World) (I : Nat → Nat → Prop) (m : List (Option Nat)) : Option V → Option Value → Prop
  | none : ORel W I m none none
  | some {v : V} {w : Value} (h : Rel W I m v w) : ORel W I m (some v) (some w)

theorem orel_ev (h : Sim B W I m st a.tmps) (x : Option Operand) : ORel W I m (x.map (ev st.fr)) (x.map a.eval) := by
  cases x with
  | none => exact .none
  | some x => exact .some (rel_ev h x)

theorem run_bound {x : V} {vx : Value} {d most most' k : Nat} {c : BoundsCode} (hb : bound (some x) d most = some k) (hx : Rel W I m x vx) (hm : most ≤ most') : (Instr.sliceBound vx most' c).run P W = .ok k W ∧ k ≤ most := by
  unfold bound at hb
  split at hb
  · rename_i e; cases e
  · rename_i kk i e
    cases e
    rw [rel_int_inv hx]
    split at hb
    · rename_i h
      cases hb
      have h' : 0 ≤ i ∧ i ≤ (most' : Int) := by omega
      exact ⟨by simp [Instr.sliceBound, asIntOf, h'], by omega⟩
    · cases hb
  · cases hb

/-- The bounds of a slice expression without a third index. -/
theorem run_bounds2 {lo hi : Option V} {vlo vhi : Option Value} {isS : Bool} {len cap l h : Nat} (hh : bound hi len len = some h) (hl : bound lo 0 h = some l) (rl : ORel W I m lo vlo) (rh : ORel W I m hi vhi) (hc : len ≤ cap) :
    (Instr.sliceBounds isS len cap vlo vhi none).run P W = .ok (l, h, cap) W ∧ l ≤ h ∧ h ≤ len := by
  have e1 : ∀ c, ((match vhi with | some v => Instr.sliceBound v cap c | none => pure len : Sem Nat)).run P W = .ok h W ∧ h ≤ len := fun c => by
    cases rh with
    | none => simp only [bound, Option.some.injEq] at hh; subst hh; exact ⟨rfl, Nat.le_refl _⟩
    | some r => exact run_bound hh r hc
  have e2 : ∀ c, ((match vlo with | some v => Instr.sliceBound v h c | none => pure 0 : Sem Nat)).run P W = .ok l W ∧ l ≤ h := fun c => by
    cases rl with
    | none => simp only [bound, Option.some.injEq] at hl; subst hl; exact ⟨rfl, Nat.zero_le _⟩
    | some r => exact run_bound hl r (Nat.le_refl _)
  refine ⟨?_, (e2 .index).2, (e1 .index).2⟩
  have e2' := fun c => (e2 c).1
  have e1' := fun c => (e1 c).1
  cases rh with
  | none =>
    cases rl with
    | none => simp_all [Instr.sliceBounds]
    | some r => simp_all [Instr.sliceBounds]
  | some r' =>
    cases rl with
    | none => simp_all [Instr.sliceBounds]
    | some r => simp_all [Instr.sliceBounds]

/-- With a third index. -/
theorem run_bounds3 {mx h0 : V} {lo : Option V} {vlo : Option Value} {vmx vh : Value} {isS : Bool} {len cap most l h mm d1 d2 : Nat} (hm : bound (some mx) d1 most = some mm) (hh : bound (some h0) d2 mm = some h) (hl : bound lo 0 h = some l)
    (rl : ORel W I m lo vlo) (rh : Rel W I m h0 vh) (rm : Rel W I m mx vmx) (hc : most ≤ cap) : (Instr.sliceBounds isS len cap vlo (some vh) (some vmx)).run P W = .ok (l, h, mm) W ∧ l ≤ h ∧ h ≤ mm ∧ mm ≤ most := by
  have e0 := fun c => run_bound (P := P) (c := c) hm rm hc
  have e1 := fun c => run_bound (P := P) (c := c) hh rh (Nat.le_refl _)
  have e2 : ∀ c, ((match vlo with | some v => Instr.sliceBound v h c | none => pure 0 : Sem Nat)).run P W = .ok l W ∧ l ≤ h := fun c => by
    cases rl with
    | none => simp only [bound, Option.some.injEq] at hl; subst hl; exact ⟨rfl, Nat.zero_le _⟩
    | some r => exact run_bound hl r (Nat.le_refl _)
  refine ⟨?_, (e2 .index).2, (e1 .index).2, (e0 .index).2⟩
  have e0' := fun c => (e0 c).1
  have e1' := fun c => (e1 c).1
  have e2' := fun c => (e2 c).1
  cases rl with
  | none => simp_all [Instr.sliceBounds]
  | some r => simp_all [Instr.sliceBounds]

theorem rows_size {xs : List (List V)} {size sz : Nat} (hf : rowsFit size xs = true) (hs : ∀ (i : Nat) (row : List V), xs[i]? = some row → row.length = sz) (hne : xs ≠ []) : sz = size := by
  cases xs with
  | nil => exact absurd rfl hne
  | cons r xs => rw [← hs 0 r rfl]; simpa [rowsFit] using hf

theorem capZero_of {lo : Option V} {mx : V} {d1 most d2 h mm l : Nat} (hm : bound (some mx) d1 most = some mm) (hl : bound lo 0 h = some l) : capZero lo (some mx) = true → mm = l := by
  intro hc
  unfold capZero at hc
  cases mx <;> simp only [bound] at hm <;> try (cases hm; done)
  rename_i k i
  split at hm
  · cases hm
    cases lo with
    | none => simp [bound] at hl; subst hl; simp at hc; omega
    | some v =>
      cases v <;> simp only [bound] at hl <;> try (cases hl; done)
      split at hl
      · cases hl; simp at hc; omega
      · cases hl
  · cases hm

theorem run_sliceV (hok : cfg.Ok P) {t : TypeId} {x v : V} {lo hi mx : Option V} {vx : Value} {vlo vhi vmx : Option Value} (hv : sliceV cfg t x lo hi mx = some v) (hx : Rel W I m x vx) (rl : ORel W I m lo vlo) (rh : ORel W I m hi vhi) (rm : ORel W I m mx vmx) :
    ∃ w, (Instr.sliceAt t vx vlo vhi vmx).run P W = .ok w W ∧ Rel W I m v w ∧ (isSl v = true → capZero lo mx = true → ∃ a d, v = .sl d [] ∧ w = .slice a 0 0) := by
  unfold sliceV at hv
  split at hv
  · rename_i s hk
    obtain ⟨dd, hu, hkd⟩ := hok.kind hk
    have := kok_str hkd; subst this
    split at hv
    · cases hv
    · cases rm
      split at hv
      · cases hv
      · rename_i h hh
        split at hv
        · cases hv
        · rename_i l hl
          cases hv
          rw [rel_str_inv hx]
          have hs : (⟨s.toArray⟩ : ByteArray).size = s.length := by simp [ByteArray.size]
          obtain ⟨hrun, h1, h2⟩ := run_bounds2 (P := P) (isS := false) (cap := s.length) hh hl rl rh (Nat.le_refl _)
          refine ⟨.string ((⟨s.toArray⟩ : ByteArray).extract l h), ?_, .str ?_, fun h => by simp [isSl] at h⟩
          · simp [Instr.sliceAt, Instr.slice, run_und hu, hs, hrun]
          · have := Lib.extract_toList (⟨s.toArray⟩ : ByteArray) l h
            rw [ByteArray.toList_eq] at this
            simpa using this
  · rename_i e d xs hk
    obtain ⟨dd, hu, hkd⟩ := hok.kind hk
    have := kok_slice hkd; subst this
    split at hv
    · cases hv
    · rename_i ti hti
      obtain ⟨i', d', z', hT⟩ := hok.ty _ _ hti
      split at hv
      · cases hv
      · rename_i hfit
        have hfit : rowsFit ti.size xs = true := by simpa using hfit
        obtain ⟨aa, c, g, oo, sz, f, rfl, hc, ha, hs, hi', hr⟩ := rel_sl_inv hx
        have hsz : xs ≠ [] → sz = ti.size := rows_size hfit hs
        have haddr : ∀ (l h mm : Nat), l ≤ h → h ≤ mm → h ≤ xs.length → 0 < h - l → (if mm = l then aa else aa.map (·.add (l * ti.size))) = some ⟨g, oo + l * sz, none⟩ := fun l h mm h1 h2 h3 h4 => by
          have hne : xs ≠ [] := by intro he; subst he; simp at h3; omega
          rw [if_neg (by omega), ha hne, Option.map_some, add_none, hsz hne]
        split at hv
        · cases rm
          split at hv
          · cases hv
          · rename_i h hh
            split at hv
            · cases hv
            · rename_i l hl
              cases hv
              obtain ⟨hrun, h1, h2⟩ := run_bounds2 (P := P) (isS := true) (cap := c) hh hl rl rh hc
              refine ⟨.slice (if c = l then aa else aa.map (·.add (l * ti.size))) (h - l) (c - l), ?_, rel_slice_part hs hi' hr l (h - l) (c - l) (by omega) (by omega) (fun h0 => haddr l h c h1 (by omega) h2 h0), fun _ hz => by simp [capZero] at hz⟩
              simp [Instr.sliceAt, Instr.slice, run_und hu, hrun, sizeOf_run hT]
        · rename_i mx0
          cases rm with
          | some rm =>
            split at hv
            · cases hv
            · rename_i mm hm
              split at hv
              · cases hv
              · rename_i h0
                cases rh with
                | some rh =>
                  split at hv
                  · cases hv
                  · rename_i h hh
                    split at hv
                    · cases hv
                    · rename_i l hl
                      cases hv
                      obtain ⟨hrun, h1, h2, h3⟩ := run_bounds3 (P := P) (isS := true) (len := xs.length) (cap := c) hm hh hl rl rh rm hc
                      refine ⟨.slice (if mm = l then aa else aa.map (·.add (l * ti.size))) (h - l) (mm - l), ?_, rel_slice_part hs hi' hr l (h - l) (mm - l) (by omega) (by omega) (fun h0 => haddr l h mm h1 h2 (by omega) h0), fun _ hz => ?_⟩
                      · simp [Instr.sliceAt, Instr.slice, run_und hu, hrun, sizeOf_run hT]
                      · have e := capZero_of (d2 := 0) hm hl hz
                        subst e
                        have e0 : h - mm = 0 := by omega
                        exact ⟨_, d, by rw [e0]; simp, by rw [e0, Nat.sub_self]⟩
  · rename_i e id off len cap hk
    obtain ⟨dd, hu, hkd⟩ := hok.kind hk
    have := kok_slice hkd; subst this
    split at hv
    · cases hv
    · rename_i ti hti
      obtain ⟨i', d', z', hT⟩ := hok.ty _ _ hti
      cases hx with
      | @ms _ _ _ _ _ g hg hlc =>
        split at hv
        · cases hv
        · rename_i mm hm
          split at hv
          · cases hv
          · rename_i h hh
            split at hv
            · cases hv
            · rename_i l hl
              split at hv
              · cases hv
              · rename_i hno
                have key : (Instr.sliceBounds true len cap vlo vhi vmx).run P W = .ok (l, h, mm) W ∧ l ≤ h ∧ h ≤ mm ∧ mm ≤ cap := by
                  cases rm with
                  | none =>
                    simp only [bound, Option.some.injEq] at hm; subst hm
                    cases rh with
                    | none =>
                      simp only [bound, Option.some.injEq] at hh; subst hh
                      obtain ⟨hrun, h1, h2⟩ := run_bounds2 (P := P) (isS := true) (cap := cap) (len := len) (hi := none) (vhi := none) rfl hl rl .none hlc
                      exact ⟨hrun, h1, by omega, Nat.le_refl _⟩
                    | some rh =>
                      obtain ⟨e1, e2⟩ := run_bound (P := P) (c := .sliceAcap) (most' := cap) hh rh (Nat.le_refl _)
                      have e3 : ∀ c, ((match vlo with | some v => Instr.sliceBound v h c | none => pure 0 : Sem Nat)).run P W = .ok l W ∧ l ≤ h := fun c => by
                        cases rl with
                        | none => simp only [bound, Option.some.injEq] at hl; subst hl; exact ⟨rfl, Nat.zero_le _⟩
                        | some r => exact run_bound hl r (Nat.le_refl _)
                      refine ⟨?_, (e3 .index).2, e2, Nat.le_refl _⟩
                      have e3' := fun c => (e3 c).1
                      cases rl <;> simp_all [Instr.sliceBounds]
                  | some rm =>
                    cases rh with
                    | none => simp at hno
                    | some rh =>
                      obtain ⟨hrun, h1, h2, h3⟩ := run_bounds3 (P := P) (isS := true) (len := len) (cap := cap) hm hh hl rl rh rm (Nat.le_refl _)
                      exact ⟨hrun, h1, h2, h3⟩
                obtain ⟨hrun, h1, h2, h3⟩ := key
                have hrun' : (Instr.sliceAt t (.slice (some ⟨g, off, none⟩) len cap) vlo vhi vmx).run P W = .ok (.slice (if mm = l then some ⟨g, off, none⟩ else some ⟨g, off + l * ti.size, none⟩) (h - l) (mm - l)) W := by
                  simp [Instr.sliceAt, Instr.slice, run_und hu, hrun, sizeOf_run hT, add_none]
                split at hv
                · rename_i hml
                  subst hml
                  cases hv
                  have e0 : h - mm = 0 := by omega
                  rw [if_pos rfl, e0, Nat.sub_self] at hrun'
                  exact ⟨_, hrun', .sl (g := 0) (o := 0) (sz := 0) (f := fun _ _ => undef) rfl (Nat.le_refl _) (by simp) (by simp) (by simp) (by simp), fun _ _ => ⟨_, true, rfl, rfl⟩⟩
                · rename_i hml
                  cases hv
                  rw [if_neg hml] at hrun'
                  exact ⟨_, hrun', .ms hg (by omega), fun h => by simp [isSl] at h⟩
  · rename_i nn e id off hk
    obtain ⟨dd, hu, hkd⟩ := hok.kind hk
    have := kok_array hkd; subst this
    split at hv
    · cases hv
    · rename_i ti hti
      obtain ⟨i', d', z', hT⟩ := hok.ty _ _ hti
      cases hx with
      | @ptr _ _ _ g hg =>
        split at hv
        · cases hv
        · rename_i mm hm
          split at hv
          · cases hv
          · rename_i h hh
            split at hv
            · cases hv
            · rename_i l hl
              split at hv
              · cases hv
              · rename_i hno
                have key : (Instr.sliceBounds false nn nn vlo vhi vmx).run P W = .ok (l, h, mm) W ∧ l ≤ h ∧ h ≤ mm ∧ mm ≤ nn := by
                  cases rm with
                  | none =>
                    simp only [bound, Option.some.injEq] at hm; subst hm
                    obtain ⟨hrun, h1, h2⟩ := run_bounds2 (P := P) (isS := false) (cap := nn) hh hl rl rh (Nat.le_refl _)
                    exact ⟨hrun, h1, by omega, Nat.le_refl _⟩
                  | some rm =>
                    cases rh with
                    | none => simp at hno
                    | some rh =>
                      obtain ⟨hrun, h1, h2, h3⟩ := run_bounds3 (P := P) (isS := false) (len := nn) (cap := nn) hm hh hl rl rh rm (Nat.le_refl _)
                      exact ⟨hrun, h1, h2, h3⟩
                obtain ⟨hrun, h1, h2, h3⟩ := key
                have hrun' : (Instr.sliceAt t (.pointer (some ⟨g, off, none⟩)) vlo vhi vmx).run P W = .ok (.slice (some (if mm = l then ⟨g, off, none⟩ else ⟨g, off + l * ti.size, none⟩)) (h - l) (mm - l)) W := by
                  simp [Instr.sliceAt, run_und hu, Instr.sureAddr, hrun, sizeOf_run hT, add_none]
                split at hv
                · rename_i hml
                  subst hml
                  cases hv
                  have e0 : h - mm = 0 := by omega
                  rw [if_pos rfl, e0, Nat.sub_self] at hrun'
                  exact ⟨_, hrun', .sl (g := 0) (o := 0) (sz := 0) (f := fun _ _ => undef) rfl (Nat.le_refl _) (by simp) (by simp) (by simp) (by simp), fun _ _ => ⟨_, true, rfl, rfl⟩⟩
                · rename_i hml
                  cases hv
                  rw [if_neg hml] at hrun'
                  exact ⟨_, hrun', .ms hg (by omega), fun h => by simp [isSl] at h⟩
  · cases hv

/-! ### Lengths, least and greatest -/
theorem run_lenV (hok : cfg.Ok P) {t ty : TypeId} {ts : Array TypeId} {x v : V} {vx : Value} (hv : lenV cfg t x = some v) (hx : Rel W I m x vx) (ht : ts[0]? = some t) : ∃ w, (Builtin.len_ ts ty #[vx]).run P W = .ok w W ∧ Rel W I m v w := by
  unfold lenV at hv
  split at hv
  · rename_i s hk
    obtain ⟨dd, hu, hkd⟩ := hok.kind hk
    have := kok_str hkd; subst this
    cases hv
    rw [rel_str_inv hx]
    have hs : (⟨s.toArray⟩ : ByteArray).size = s.length := by simp [ByteArray.size]
    exact ⟨.int .i64 s.length, by unfold Builtin.len_; simp [ht, run_und hu, goInt, hs], .int⟩
  · rename_i e d xs hk
    obtain ⟨dd, hu, hkd⟩ := hok.kind hk
    have := kok_slice hkd; subst this
    cases hv
    obtain ⟨aa, c, g, oo, sz, f, rfl, hc, ha, hs, hi', hr⟩ := rel_sl_inv hx
    exact ⟨_, by unfold Builtin.len_; simp [ht, run_und hu, goInt], .int⟩
  · rename_i e id off nn cap hk
    obtain ⟨dd, hu, hkd⟩ := hok.kind hk
    have := kok_slice hkd; subst this
    cases hv
    cases hx
    exact ⟨_, by unfold Builtin.len_; simp [ht, run_und hu, goInt], .int⟩
  · rename_i nn e hk
    obtain ⟨dd, hu, hkd⟩ := hok.kind hk
    have := kok_array hkd; subst this
    cases hv
    exact ⟨_, by unfold Builtin.len_; simp [ht, run_und hu, goInt], .int⟩
  · rename_i k e hk
    obtain ⟨dd, hu, hkd⟩ := hok.kind hk
    cases dd <;> simp [KOk] at hkd
    cases hv
    cases hx
    exact ⟨_, by unfold Builtin.len_; simp [ht, run_und hu, goInt], .int⟩
  · cases hv

end Go.Abs
