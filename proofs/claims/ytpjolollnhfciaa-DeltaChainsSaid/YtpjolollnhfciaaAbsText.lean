/- The bytes of a builder: a slice's base, and the string that lies there. -/
import Derived.Test.YtpjolollnhfciaaAbsOps9
import Derived.Lib.UnsafeStr
set_option linter.all false
namespace Go.Abs
open Go.Lib
variable [BT] {F : Fence} {n : Nat} {P : Program} {cfg : Cfg} {B : Base} {W : World} {I : Nat → Nat → Prop} {m : List (Option Nat)} {st st' : St} {a : Act} {o : Oper} {tmps : Array Value} {orc : Orc}

theorem freeze_other {g g' k : Nat} (h : g' ≠ g) : (W.freeze ⟨g, 0, none⟩ k).heap[g']? = W.heap[g']? := by
  unfold World.freeze
  split
  · rfl
  · simp only [Array.getElem?_modify]; rw [if_neg (fun e => h e.symm)]

theorem freeze_at {g k : Nat} {arr : Array Value} {e : TypeId} {fz : Nat × Nat} (h : W.heap[g]? = some (.cells arr e fz)) : ∃ fz', (W.freeze ⟨g, 0, none⟩ k).heap[g]? = some (.cells arr e fz') ∧ fz'.2 ≤ max fz.2 k := by
  unfold World.freeze
  split
  · exact ⟨fz, h, by omega⟩
  · simp only [Array.getElem?_modify]
    obtain ⟨lo, hi⟩ := fz
    simp only [if_true, h, Option.map_some]
    refine ⟨_, rfl, ?_⟩
    split <;> simp <;> omega

theorem freeze_size {g k : Nat} : (W.freeze ⟨g, 0, none⟩ k).heap.size = W.heap.size := by
  unfold World.freeze; split <;> simp

theorem freeze_cell {g k g' q : Nat} {arr : Array Value} {e : TypeId} {fz : Nat × Nat} (h : W.heap[g]? = some (.cells arr e fz)) : (W.freeze ⟨g, 0, none⟩ k).cell? ⟨g', q, none⟩ = W.cell? ⟨g', q, none⟩ := by
  by_cases hg : g' = g
  · subst hg
    obtain ⟨fz', h1, _⟩ := freeze_at (k := k) h
    rw [cell_of_blk h1, cell_of_blk h]
  · exact cell_same (freeze_other hg)

theorem freeze_os {g k : Nat} : (W.freeze ⟨g, 0, none⟩ k).os = W.os := by unfold World.freeze; split <;> rfl
theorem freeze_tape {g k : Nat} : (W.freeze ⟨g, 0, none⟩ k).tape = W.tape := by unfold World.freeze; split <;> rfl
theorem freeze_output {g k : Nat} : (W.freeze ⟨g, 0, none⟩ k).output = W.output := by unfold World.freeze; split <;> rfl

theorem held_same {l : Owner} {xs xs' : List (List V)} {v v' : Value} (h : Held W m st tmps l xs v) (h' : Held W m st tmps l xs' v') : xs' = xs ∧ v' = v := by
  obtain ⟨l', hl'⟩ : ∃ l', l' = l := ⟨_, rfl⟩
  rw [← hl'] at h'
  cases h with
  | tmp a1 a2 =>
    cases h' with
    | tmp b1 b2 => cases hl'; rw [a2] at b2; cases b2; exact ⟨rfl, rfl⟩
    | cell b1 b2 b3 b4 b5 => cases hl'
  | cell a1 a2 a3 a4 a5 =>
    cases h' with
    | tmp b1 b2 => cases hl'
    | cell b1 b2 b3 b4 b5 =>
      cases hl'
      rw [a1] at b1; cases b1
      rw [a3] at b3; cases b3
      rw [a4] at b4; cases b4
      rw [a5] at b5; cases b5
      exact ⟨rfl, rfl⟩

/-- The head of an owned row is frozen. -/
theorem Sim.freeze (h : Sim B W I m st tmps) {l : Owner} {xs : List (List V)} {v : Value} {g k sz : Nat} {arr : Array Value} {e : TypeId} {fz : Nat × Nat} (hh : Held W m st tmps l xs v) (hc : claimOf v = some g) (hw : W.heap[g]? = some (.cells arr e fz))
    (hsz : ∀ row ∈ xs, row.length = sz) (hk : k ≤ xs.length * sz) : Sim B (W.freeze ⟨g, 0, none⟩ k) I m st tmps := by
  obtain ⟨hA, hm⟩ := h.ownA _ _ _ _ hh hc
  have hcell : ∀ g' q, (W.freeze ⟨g, 0, none⟩ k).cell? ⟨g', q, none⟩ = W.cell? ⟨g', q, none⟩ := fun g' q => freeze_cell hw
  have hkeep : KeepI I W (W.freeze ⟨g, 0, none⟩ k) := fun g' q _ => hcell g' q
  have hheld : ∀ {l xs v}, Held (W.freeze ⟨g, 0, none⟩ k) m st tmps l xs v → Held W m st tmps l xs v := fun hh => by
    cases hh with
    | tmp h1 h2 => exact .tmp h1 h2
    | cell h1 h2 h3 h4 h5 => exact .cell h1 h2 h3 h4 (by rw [← hcell]; exact h5)
  refine ⟨⟨freeze_os.trans h.grow.os, freeze_tape.trans h.grow.tape, freeze_output.trans h.grow.output, by rw [freeze_size]; exact h.grow.size, fun g' hg' ha => (freeze_other fun e => ?_).trans (h.grow.same g' hg' ha), h.grow.sub, h.grow.fresh,
      fun g' q hi => (hcell g' q).trans (h.grow.keep g' q hi), fun g' hg' => (freeze_other fun e => h.heldD hh hc (e ▸ h.grow.dfr g' hg')).trans (h.grow.dfr g' hg'), h.grow.dnd⟩, h.pre, fun g' q hi => ?_, h.len, fun t x hx => (h.fr t x hx).mono (fun _ _ h => h) hkeep (List.prefix_refl _), h.mlen, h.inj, fun id b hb => ?_, h.mA, h.notI,
    fun l' xs' v' k' => ?_, fun l' xs' v' g' k' => h.ownA l' xs' v' g' (hheld k'), fun l' l'' xs' xs'' v' v'' g' k' k'' => h.ownInj l' l'' xs' xs'' v' v'' g' (hheld k') (hheld k''), fun t o ho => ?_, h.nb⟩
  · subst e
    rcases hA with hA | hA
    · exact ha hA
    · omega
  · obtain ⟨u, hu⟩ := h.live g' q hi
    exact ⟨u, (hcell g' q).trans hu⟩
  · obtain ⟨x, hx, hb'⟩ := h.blk id b hb
    exact ⟨x, hx, hb'.mono (fun _ _ h => h) hkeep (MLe.refl _) fun g' e => freeze_other fun e2 => hm (by subst e2; subst e; exact List.mem_of_getElem? hx)⟩
  · have hk' := hheld k'
    have ho := h.own _ _ _ hk'
    by_cases hcl : claimOf v' = some g
    · have e := h.ownInj _ _ _ _ _ _ _ hh hk' hc hcl
      subst e
      rcases ho with ho | ⟨g1, c1, arr1, e1, sz1, fz1, rfl, p1, p2, p3, p4, p5, p6, p7, p8⟩
      · exact .inl ho
      · have : g1 = g := by simpa [claimOf] using hcl
        subst this
        rw [hw] at p3; cases p3
        obtain ⟨fz', q1, q2⟩ := freeze_at (k := k) hw
        refine .inr ⟨g1, c1, arr, e, sz1, fz', rfl, p1, p2, q1, ?_, p5, p6, p7, p8⟩
        have hx := (held_same hh hk').1
        subst hx
        have : sz1 = sz := by
          cases xs' with
          | nil => exact absurd rfl p1
          | cons r xs => rw [← p2 r (by simp), ← hsz r (by simp)]
        subst this
        omega
    · exact ho.mono (fun g' hg' => freeze_other fun e => hcl (e ▸ hg')) fun _ _ _ h => h
  · have := h.al t o ho
    cases o with
    | tmp u => exact this
    | cell id off =>
      intro hlt
      obtain ⟨g', hg', hc'⟩ := this hlt
      exact ⟨g', hg', (hcell _ _).trans hc'⟩
    | base id off =>
      intro hlt
      obtain ⟨g', a', n', c', p', hg', hc', hp'⟩ := this hlt
      exact ⟨g', a', n', c', p', hg', (hcell _ _).trans hc', hp'⟩

/-- What a cell owns. -/
theorem owned_cell (h : Sim B W I m st a.tmps) {id off : Nat} (ho : isOwner st (.cell id off) = true) {d : Bool} {xs : List (List V)} (hv : heldV st (.cell id off) = .sl d xs) {g : Nat} {v : Value} (hg : m[id]? = some (some g)) (hc : W.cell? ⟨g, off, none⟩ = some v) :
    Held W m st a.tmps (.cell id off) xs v ∧ Rel W I m (.sl d xs) v := by
  simp only [isOwner] at ho
  obtain ⟨ow', how'⟩ := Option.isSome_iff_exists.1 ho
  obtain ⟨id', off', ty, own, cs, e1, e2, hb, hmem⟩ := cellOwner_inv how'
  cases e1
  simp only [heldV, hb] at hv
  have hcs : cs[off]? = some (.sl d xs) := by
    rcases hq : cs[off]? with _ | y
    · rw [List.getD_eq_getElem?_getD, hq] at hv; cases hv
    · rw [getD_of_get hq] at hv; rw [hv]
  refine ⟨.cell hb hmem hcs hg hc, ?_⟩
  obtain ⟨arr, hw, hsz, h1, hr⟩ := h.blkAt hb hg
  have := hr off _ hcs
  rw [cell_of_blk hw] at hc
  rwa [getD_arr hc] at this

/-- The base of a slice that a cell owns. -/
theorem dataOp_sim (h : Sim B W I m st a.tmps) {dst : Option Tmp} {x : Operand} {ts : Array TypeId} {ty : TypeId} (hev : dataOp dst x st = some st') :
    ∃ w, (Builtin.unsafeSliceData_ ts ty #[a.eval x]).run P W = .ok w W ∧ Sim B W I m st' (aput a.tmps dst w) := by
  unfold dataOp at hev
  split at hev
  · rename_i u
    split at hev
    · rename_i id off hf
      split at hev
      · rename_i hc
        cases hev
        simp only [Bool.and_eq_true] at hc
        obtain ⟨⟨ho, hs⟩, hsl⟩ := hc
        have hal := h.al _ _ (findAlias_mem hf)
        have hxu : ∃ y, ev st.fr (.tmp u) = y ∧ y ≠ .any := ⟨_, rfl, fun e => by rw [e] at hsl; simp [isSl] at hsl⟩
        obtain ⟨y, hy, hyn⟩ := hxu
        have hfu := fr_get hyn hy
        have hlt : u < a.tmps.size := by rw [h.len]; exact (List.getElem?_eq_some_iff.1 hfu).1
        obtain ⟨g, hg, hcell⟩ := hal hlt
        cases hv : heldV st (.cell id off) <;> rw [hv] at hs <;> simp [heldSome] at hs
        rename_i d xs
        obtain ⟨hheld, hrelv⟩ := owned_cell h ho hv hg hcell
        have hne : xs ≠ [] := by intro e; subst e; simp [heldSome] at hs
        have hno : (st.put dst .any).alias dst (some (.base id off)) = (st.put dst .any).alias dst (some (.base id off)) := rfl
        -- what lies there
        have fin : ∀ p : Option Addr, (∀ (aa : Option Addr) (n c : Nat), a.eval (.tmp u) = .slice aa n c → c ≠ 0 → p = aa) → Sim B W I m ((st.put dst .any).alias dst (some (.base id off))) (aput a.tmps dst (.pointer p)) := fun p hp => by
          refine (h.put dst .any).aliasIn _ _ fun t o' ht ho' => ?_
          cases ho'
          subst ht
          intro htl
          have htl' : t < a.tmps.size := by simpa [aput] using htl
          have hval : (aput a.tmps (some t) (.pointer p)).getD t undef = .pointer p := by simp only [aput]; rw [getD_set htl', if_pos rfl]
          rcases h.own _ _ _ hheld with ⟨aa, e⟩ | ⟨g1, c1, arr1, e1, sz1, fz1, e2, _⟩
          · exact ⟨g, aa, _, _, p, hg, hcell.trans (congrArg some e), hval, fun hc => absurd rfl hc⟩
          · exact ⟨g, _, _, _, p, hg, hcell.trans (congrArg some e2), hval, fun hc => hp _ _ _ e2 hc⟩
        have hrel : Rel W I m (ev st.fr (.tmp u)) (a.eval (.tmp u)) := rel_ev h (.tmp u)
        rcases h.own _ _ _ hheld with ⟨aa, e⟩ | ⟨g1, c1, arr1, e1, sz1, fz1, e2, _⟩
        · exfalso
          rw [e] at hrelv
          obtain ⟨_, c1, _, _, _, _, e1, hc1, _⟩ := rel_sl_inv hrelv
          cases e1
          exact hne (List.eq_nil_of_length_eq_zero (by omega))
        · have e3 : a.eval (.tmp u) = .slice (some ⟨g1, 0, none⟩) xs.length (c1 + 1) := e2
          refine ⟨.pointer (some ⟨g1, 0, none⟩), ?_, fin _ fun aa n c he _ => ?_⟩
          · rw [e3]; exact run_unsafeSliceData_row _ _ _ _ _ _ (by omega)
          · rw [e3] at he; cases he; rfl
      · cases hev
    · cases hev
  · cases hev

theorem mapM_bytesS : ∀ (xs : List (List V)) (bs : List UInt8), xs.mapM rowByteS = some bs → xs = bs.map byteRow
  | [], bs, h => by simp at h; subst h; rfl
  | r :: xs, bs, h => by
    rw [List.mapM_cons] at h
    simp only [Option.bind_eq_bind, Option.bind_eq_some_iff, Option.pure_def, Option.some.injEq] at h
    obtain ⟨b, hb, bs', h2, rfl⟩ := h
    rw [mapM_bytesS xs bs' h2]
    unfold rowByteS at hb
    split at hb
    · rename_i n
      split at hb
      · rename_i hn
        cases hb
        simp only [List.map_cons, byteRow]
        rw [← hn]
      · cases hb
    · cases hb

/-- The bytes at a base. -/
theorem textOp_sim (hok : cfg.Ok P) (h : Sim B W I m st a.tmps) {dst : Option Tmp} {p n : Operand} {t it ty : TypeId} (hev : textOp cfg dst t p n st = some st') :
    ∃ w W', (Builtin.unsafeString_ #[t, it] ty #[a.eval p, a.eval n]).run P W = .ok w W' ∧ Sim B W' I m st' (aput a.tmps dst w) := by
  unfold textOp at hev
  split at hev
  · rename_i e u hte
    split at hev
    · rename_i id off hee hf
      split at hev
      · rename_i ho
        split at hev
        · rename_i d xs k hv hk
          split at hev
          · rename_i bs hbs
            split at hev
            · rename_i hlen
              cases hev
              obtain ⟨hk1, hk2⟩ := hlen
              obtain ⟨ti, hti, hke⟩ := Option.map_eq_some_iff.1 hee
              have hbyte := hok.bt1 e ti hti hke
              obtain ⟨hund, hcells⟩ := hok.bt2 e hbyte
              obtain ⟨tt, htt, hkt⟩ := Option.map_eq_some_iff.1 hte
              obtain ⟨i, dd, z, T⟩ := hok.ty t tt htt
              have hptr : P.underlying t = some (.pointer e) := by
                have hkd := T.kind
                rw [hkt] at hkd
                rw [T.und]
                cases dd <;> simp [KOk] at hkd
                rw [hkd]
              have hxs := mapM_bytesS xs bs hbs
              have hn : a.eval n = .int .i64 bs.length := by
                have := rel_ev h n
                rw [hk] at this
                rw [rel_int_inv this, hk1]
              have hal := h.al _ _ (findAlias_mem hf)
              simp only [Bool.and_eq_true, Nat.blt_eq] at ho
              obtain ⟨ho, hlt⟩ := ho
              rw [← h.len] at hlt
              obtain ⟨g, aa, n1, c1, p1, hg, hcell, hval, hpa⟩ := hal hlt
              obtain ⟨hheld, hrelv⟩ := owned_cell h ho hv hg hcell
              have hp : a.eval (.tmp u) = .pointer p1 := hval
              rw [hp, hn]
              have hb0 : bs.length = 0 → bs = [] := List.eq_nil_of_length_eq_zero
              have hnew : ∀ {W' : World} (_ : Sim B W' I m st a.tmps), Sim B W' I m (st.put dst (.str bs)) (aput a.tmps dst (.string ⟨bs.toArray⟩)) := fun hS => hS.put dst (.str (by simp))
              by_cases hbe : bs = []
              · subst hbe
                refine ⟨_, W, run_unsafeString_none _ t it ty p1, ?_⟩
                exact hnew h
              · have hne : xs ≠ [] := by rw [hxs]; simpa using hbe
                rcases h.own _ _ _ hheld with ⟨aa', e1⟩ | ⟨g1, c2, arr1, e1, sz1, fz1, e2, q1, q2, q3, q4, q5, q6, q7, q8⟩
                · exfalso
                  rw [e1] at hrelv
                  obtain ⟨_, c3, _, _, _, _, e3, hc3, _⟩ := rel_sl_inv hrelv
                  cases e3
                  exact hne (List.eq_nil_of_length_eq_zero (by omega))
                · have hhb : headByte xs = true := by
                    rw [hxs]
                    cases bs with
                    | nil => exact absurd rfl hbe
                    | cons b bs => rfl
                  have he1 : e1 = e := (q8 hhb).trans hbyte.symm
                  subst he1
                  cases e2
                  have hp1 := hpa (by omega)
                  subst hp1
                  have hsz : sz1 = 1 := by
                    rw [hxs] at q2
                    cases bs with
                    | nil => exact absurd rfl hbe
                    | cons b bs => exact (q2 (byteRow b) (by simp)).symm
                  subst hsz
                  have hxl : xs.length = bs.length := by rw [hxs]; simp
                  obtain ⟨aa3, c3, g3, o3, sz3, f3, e3, _, ha3, hs3, hi3, hr3⟩ := rel_sl_inv hrelv
                  cases e3
                  have := ha3 hne
                  cases this
                  have hsz3 : sz3 = 1 := by
                    obtain ⟨r, hr⟩ : ∃ r, xs[0]? = some r := by
                      rcases xs with _ | ⟨r, xs⟩
                      · exact absurd rfl hne
                      · exact ⟨r, rfl⟩
                    rw [← hs3 0 r hr]
                    exact q2 r (List.mem_of_getElem? hr)
                  subst hsz3
                  have hrun := run_unsafeString_row (P := P) (w := W) t it ty e1 hptr hcells g1 arr1.size (by unfold World.shape?; rw [q3]) bs hbe (by rw [q5]; omega) (by unfold strMax at hk2; omega) (fun j x hx => by
                    have hrow : xs[j]? = some (byteRow x) := by rw [hxs]; simp [hx]
                    obtain ⟨_, k2, _⟩ := hi3 j (byteRow x) 0 (.int .u8 x.toNat) hrow rfl
                    have k3 := hr3 j (byteRow x) 0 (.int .u8 x.toNat) hrow rfl
                    rw [rel_int_inv k3] at k2
                    have : (⟨g1, 0, none⟩ : Addr).add j = ⟨g1, j, none⟩ := by cases j <;> simp [Addr.add]
                    rw [this]
                    simpa using k2)
                  refine ⟨_, _, hrun, hnew ?_⟩
                  refine h.freeze hheld rfl q3 q2 (by rw [hxl]; omega)
            · cases hev
          · cases hev
        · cases hev
      · cases hev
    · cases hev
  · cases hev

end Go.Abs
