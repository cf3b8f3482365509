/- Tables of what the interpreter knows of a program, and how they are checked. -/
import Derived.Test.YtpjolollnhfciaaAbsRow
set_option linter.all false
namespace Go.Abs

def Tree.All {α : Type} (p : Nat → α → Prop) : Tree α → Prop
  | .leaf => True
  | .node l k v r => l.All p ∧ p k v ∧ r.All p

def Tree.allB {α : Type} (p : Nat → α → Bool) : Tree α → Bool
  | .leaf => true
  | .node l k v r => l.allB p && p k v && r.allB p

theorem Tree.All.find {α : Type} {p : Nat → α → Prop} : ∀ {t : Tree α}, t.All p → ∀ {k : Nat} {v : α}, t.find k = some v → p k v
  | .leaf, _, k, v, h => by simp [Tree.find] at h
  | .node l k' v' r, ⟨h1, h2, h3⟩, k, v, h => by
    unfold Tree.find at h
    split at h
    · rename_i e
      have := Nat.eq_of_beq_eq_true e
      subst this
      cases h
      exact h2
    · split at h
      · exact All.find h1 h
      · exact All.find h3 h

theorem Tree.all_of_allB {α : Type} {p : Nat → α → Bool} : ∀ {t : Tree α}, t.allB p = true → t.All fun k v => p k v = true
  | .leaf, _ => trivial
  | .node l k v r, h => by
    simp only [Tree.allB, Bool.and_eq_true] at h
    exact ⟨all_of_allB h.1.1, h.1.2, all_of_allB h.2⟩

theorem Tree.All.mono {α : Type} {p q : Nat → α → Prop} (hpq : ∀ k v, p k v → q k v) : ∀ {t : Tree α}, t.All p → t.All q
  | .leaf, _ => trivial
  | .node l k v r, ⟨h1, h2, h3⟩ => ⟨All.mono hpq h1, hpq _ _ h2, All.mono hpq h3⟩

def kindB (P : Program) (t : TypeId) : K → TypeDesc → Bool
  | .bool, .bool => true
  | .int k, .int k' => decide (k = k')
  | .str, .string => true
  | .ptr e, .pointer e' => Nat.beq e e'
  | .rawp, .unsafePointer => true
  | .slice e, .slice e' => Nat.beq e e'
  | .struct eq fs, .struct fields => decide (fs = fields.toList.map fun f => (f.offset, f.type)) && (!eq || (fields.toList.all (fun f => !(f.name == "_")) && !(P.stoodInHeld t) && !(P.eqGuardType P.depth t)))
  | .array n e, .array n' e' => Nat.beq n n' && Nat.beq e e'
  | .map k e, .map k' e' => Nat.beq k k' && Nat.beq e e'
  | .func, .func _ _ _ => true
  | .other, d => (match d with | .struct _ | .array _ _ => false | _ => true)
  | _, _ => false

theorem kindB_ok {P : Program} {t : TypeId} {k : K} {d : TypeDesc} (h : kindB P t k d = true) : KOk P t k d := by
  unfold kindB at h
  split at h <;> first | (cases h; done) | trivial | skip
  · simpa [KOk] using h
  · exact Nat.eq_of_beq_eq_true h
  · exact Nat.eq_of_beq_eq_true h
  · simp only [Bool.and_eq_true, decide_eq_true_eq, Bool.or_eq_true, Bool.not_eq_true', List.all_eq_true] at h
    refine ⟨h.1, fun he => ?_⟩
    rcases h.2 with h2 | h2
    · rw [he] at h2; cases h2
    · exact ⟨h2.1.1, h2.1.2, h2.2⟩
  · simp only [Bool.and_eq_true] at h
    exact ⟨Nat.eq_of_beq_eq_true h.1, Nat.eq_of_beq_eq_true h.2⟩
  · simp only [Bool.and_eq_true] at h
    exact ⟨Nat.eq_of_beq_eq_true h.1, Nat.eq_of_beq_eq_true h.2⟩
  · simp only [KOk]
    split at h
    · cases h
    · cases h
    · split <;> simp_all

def checkTy (P : Program) (byte : TypeId) (t : TypeId) (ti : TI) : Bool :=
  match P.info? t, P.underlying t with
  | some i, some d => Nat.beq i.size ti.size && Nat.beq i.bytes ti.bytes && kindB P t ti.k d && (match ti.k with | .int .u8 => Nat.beq t byte | _ => true) && (match i.zero with
    | some z => Nat.beq z.cells.size ti.size && beqL ti.zero (z.cells.toList.map ofConst) && z.cells.toList.all (·.oneCell')
    | none => false)
  | _, _ => false

theorem checkTy_ok {P : Program} {byte : TypeId} {t : TypeId} {ti : TI} (h : checkTy P byte t ti = true) : (∃ i d z, TyOk P t ti i d z) ∧ (ti.k = .int .u8 → t = byte) := by
  unfold checkTy at h
  split at h
  · rename_i i d hi hd
    simp only [Bool.and_eq_true] at h
    obtain ⟨⟨⟨⟨h1, h2⟩, h3⟩, h0⟩, h4⟩ := h
    split at h4
    · rename_i z hz
      simp only [Bool.and_eq_true, List.all_eq_true] at h4
      obtain ⟨⟨h5, h6⟩, h7⟩ := h4
      exact ⟨⟨i, d, z, ⟨hi, hd, Nat.eq_of_beq_eq_true h1, Nat.eq_of_beq_eq_true h2, hz, Nat.eq_of_beq_eq_true h5, beqL_eq h6, h7, kindB_ok h3⟩⟩, fun hk => by rw [hk] at h0; exact Nat.eq_of_beq_eq_true h0⟩
    · cases h4
  · cases h

def FnOk (P : Program) (f : Nat) (fn : Func) : Prop := P.funcs[f]? = some fn ∧ (fn.name == "runtime.NumGoroutine") = false

def regsB (cfg : Cfg) (f : Nat) (fn : Func) : Bool :=
  match fn.body with
  | some c => regsOk cfg f c
  | none => true

/-- The entries of the model's own that stand for functions without a body. -/
def ExtOk (P : Program) (f : Nat) : Prop :=
  ∃ fn, P.funcs[f]? = some fn ∧ fn.name = "internal/abi.NoEscape" ∧ fn.body.isNone = true ∧ Extern.findNext fn = none ∧ ∃ e, Extern.find fn = some e ∧ e = Extern.AbiNoEscape.same

def ExtsOk (P : Program) : List Nat → Prop
  | [] => True
  | f :: r => ExtOk P f ∧ ExtsOk P r

theorem ExtsOk.get {P : Program} : ∀ {l : List Nat}, ExtsOk P l → ∀ {f : Nat}, l.contains f = true → ExtOk P f
  | [], _, f, h => by simp at h
  | g :: r, ⟨h1, h2⟩, f, h => by
    simp only [List.contains_cons, Bool.or_eq_true, beq_iff_eq] at h
    rcases h with rfl | h
    · exact h1
    · exact h2.get h

/-- A program's types of bytes. -/
@[reducible] def byteT (byte : TypeId) (cfg : Cfg) : BT := ⟨byte, fun f c => regsOk cfg f c = true⟩

theorem cfg_ok {P : Program} {fns : Tree Func} {tys : Tree TI} {kill : FuncId → Nat → List Nat} {draw : FuncId → Nat → List (Bool × List Nat)} {exts : List Nat} (hf : fns.All (FnOk P)) {byte : TypeId} (hby : P.underlying byte = some (.int .u8) ∧ P.cellsOf byte = 1) (ht : tys.allB (checkTy P byte) = true) (hm : P.follows .mixedOrders = true)
    (he : ExtsOk P exts) (hr : fns.allB (regsB { fn := fns.find, ty := tys.find, kill := kill, draw := draw, ext := exts.contains }) = true) : @Cfg.Ok (byteT byte { fn := fns.find, ty := tys.find, kill := kill, draw := draw, ext := exts.contains }) { fn := fns.find, ty := tys.find, kill := kill, draw := draw, ext := exts.contains } P :=
  letI := byteT byte { fn := fns.find, ty := tys.find, kill := kill, draw := draw, ext := exts.contains }
  { fn := fun f fn h => hf.find h
    ty := fun t ti h => (Tree.All.mono (fun _ _ h => (checkTy_ok h).1) (Tree.all_of_allB ht)).find h
    mixed := hm
    bt1 := fun t ti h hk => (checkTy_ok ((Tree.all_of_allB ht).find h)).2 hk
    bt2 := fun e h => by
      have h : e = byte := h
      rw [h]; exact hby
    bt3 := fun f c => Iff.rfl
    ext := fun f h => he.get h
    regs := fun f fn c h hb => by
      have := (Tree.all_of_allB hr).find h
      simp only [regsB, hb] at this
      exact this }

end Go.Abs
