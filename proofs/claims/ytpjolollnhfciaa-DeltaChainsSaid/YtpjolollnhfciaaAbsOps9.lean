/- append, loads, slices, calls; every operation at once. -/
import Derived.Test.YtpjolollnhfciaaAbsOps8
import Derived.RangeFuncCalls
set_option linter.all false
namespace Go.Abs
open Go.Lib
variable [BT] {F : Fence} {n : Nat} {P : Program} {cfg : Cfg} {B : Base} {W : World} {I : Nat → Nat → Prop} {m : List (Option Nat)} {st st' : St} {a : Act} {o : Oper} {tmps : Array Value} {orc : Orc}

/-- A slot takes a slice whose spare cells are nobody else's. -/
theorem Sim.putOwn (h : Sim B W I m st tmps) (dst : Option Tmp) {d : Bool} {xs : List (List V)} {w : Value} (hr : Rel W I m (.sl d xs) w) (ho : OwnRow W I xs w)
    (hc : ∀ g, claimOf w = some g → some g ∉ m ∧ (B.A g ∨ B.W.heap.size ≤ g) ∧ ∀ l xs' v', Held W m st tmps l xs' v' → claimOf v' ≠ some g) : Sim B W I m (st.putOwn dst (.sl d xs) true) (aput tmps dst w) := by
  cases dst with
  | none => exact h
  | some t =>
    have hget : t < (st.put (some t) (.sl d xs)).fr.length → (aput tmps (some t) w).getD t undef = w := fun hd => by
      simp only [aput]; rw [getD_set (by rw [h.len]; simpa [St.put] using hd), if_pos rfl]
    refine Sim.owns (h.put (some t) hr) t (dd := d) (xs := xs) (fun hd => by simp only [St.put] at hd ⊢; rw [List.getElem?_set]; simp at hd; simp [hd]) (fun hd => by rw [hget hd]; exact ho)
      (fun g hd hcl => by rw [hget hd] at hcl; exact ⟨(hc g hcl).2.1, (hc g hcl).1⟩) fun l xs' v' g hh hcl hd hcl' => ?_
    rw [hget hd] at hcl'
    exact absurd hcl ((hc g hcl').2.2 l xs' v' (held_put hh).1)

theorem cellOwner_inv {hp : List Blk} {x : V} {ow : Owner} (h : cellOwner hp x = some ow) : ∃ id off ty own cs, x = .ptr id off ∧ ow = .cell id off ∧ hp[id]? = some (.cells ty own cs) ∧ off ∈ own := by
  unfold cellOwner at h
  split at h
  · rename_i id off
    split at h
    · rename_i ty own cs hb
      split at h
      · rename_i hc
        cases h
        exact ⟨id, off, ty, own, cs, rfl, rfl, hb, by simpa using hc⟩
      · cases h
    · cases h
  · cases h

theorem findAlias_mem {t : Tmp} {o : Owner} : ∀ {l : List (Tmp × Owner)}, findAlias t l = some o → (t, o) ∈ l
  | [], h => by simp [findAlias] at h
  | (u, p) :: r, h => by
    unfold findAlias at h
    split at h
    · rename_i e; subst e; cases h; exact List.mem_cons_self
    · exact List.mem_cons_of_mem _ (findAlias_mem h)

/-- The owner of what a slot holds, and what it holds. -/
theorem owner_sim (h : Sim B W I m st a.tmps) {u : Tmp} {ow : Owner} {d1 : Bool} {xs : List (List V)} {size : Nat} (hx : ev st.fr (.tmp u) = .sl d1 xs) (ho : ownerOf st u = some ow) (hf : heldFits size (heldV st ow) = true) (hb : headByte xs = false ∨ heldByte (heldV st ow) = true) (hfx : rowsFit size xs = true) :
    OwnRow W I xs (a.eval (.tmp u)) ∧ ∀ g, claimOf (a.eval (.tmp u)) = some g → some g ∉ m ∧ (B.A g ∨ B.W.heap.size ≤ g) ∧ ∀ l xs' v', Held W m (dropOwn st ow) a.tmps l xs' v' → claimOf v' ≠ some g := by
  have hxu := fr_get (by simp) hx
  have hlt : u < a.tmps.size := by rw [h.len]; exact (List.getElem?_eq_some_iff.1 hxu).1
  have hval : a.eval (.tmp u) = a.tmps.getD u undef := rfl
  have hrelu : Rel W I m (.sl d1 xs) (a.tmps.getD u undef) := h.fr u _ hxu
  -- the owner holds the same value
  have key : ∃ ys, Held W m st a.tmps ow ys (a.tmps.getD u undef) ∧ (∃ d2, Rel W I m (.sl d2 ys) (a.tmps.getD u undef)) ∧ rowsFit size ys = true ∧ heldByte (heldV st ow) = headByte ys := by
    unfold ownerOf at ho
    split at ho
    · rename_i hc
      cases ho
      refine ⟨xs, .tmp (by simpa using hc) hxu, ⟨d1, hrelu⟩, hfx, ?_⟩
      simp only [ev] at hx
      simp only [heldV, hx]; rfl
    · split at ho
      · rename_i o' hfind
        split at ho
        · rename_i hown
          cases ho
          have hal := h.al _ _ (findAlias_mem hfind)
          cases ow with
          | tmp t =>
            simp only [AliasOk] at hal
            simp only [isOwner, List.contains_iff_mem] at hown
            simp only [heldV] at hf
            cases hv : st.fr.getD t .any with
            | sl d2 ys =>
              rw [hv] at hf
              have ht := fr_get (u := t) (x := .sl d2 ys) (by simp) (by simp only [ev]; exact hv)
              refine ⟨ys, ?_, ⟨d2, ?_⟩, hf, by simp only [heldV, hv]; rfl⟩
              · rw [hal hlt]; exact .tmp hown ht
              · rw [hal hlt]; exact h.fr t _ ht
            | _ => rw [hv] at hf; simp [heldFits] at hf
          | cell id off =>
            simp only [isOwner] at hown
            obtain ⟨ow', how'⟩ := Option.isSome_iff_exists.1 hown
            obtain ⟨id', off', ty, own, cs, e1, e2, hb, hmem⟩ := cellOwner_inv how'
            cases e1
            obtain ⟨g, hg, hc⟩ := hal hlt
            simp only [heldV, hb] at hf
            cases hv : cs.getD off .any with
            | sl d2 ys =>
              rw [hv] at hf
              have hcs : cs[off]? = some (.sl d2 ys) := by
                rcases hq : cs[off]? with _ | y
                · rw [List.getD_eq_getElem?_getD, hq] at hv; cases hv
                · rw [getD_of_get hq] at hv; rw [hv]
              refine ⟨ys, .cell hb hmem hcs hg hc, ⟨d2, ?_⟩, hf, by simp only [heldV, hb, hv]; rfl⟩
              obtain ⟨arr, hw, hsz, h1, hr⟩ := h.blkAt hb hg
              have := hr off _ hcs
              rw [cell_of_blk hw] at hc
              rwa [getD_arr hc] at this
            | _ => rw [hv] at hf; simp [heldFits] at hf
          | base id off => simp [isOwner] at hown
        · cases ho
      · cases ho
  obtain ⟨ys, hheld, ⟨d2, hrely⟩, hfy, hby⟩ := key
  rw [hval]
  have hoy := h.own _ _ _ hheld
  have hlen : xs.length = ys.length := by
    obtain ⟨a1, c1, _, _, _, _, e1, _⟩ := rel_sl_inv hrelu
    obtain ⟨a2, c2, _, _, _, _, e2, _⟩ := rel_sl_inv hrely
    rw [e1] at e2; simp only [Value.slice.injEq] at e2; exact e2.2.1
  refine ⟨?_, fun g hg => ⟨(h.ownA _ _ _ _ hheld hg).2, (h.ownA _ _ _ _ hheld hg).1, fun l xs' v' hh hcl => ?_⟩⟩
  · rcases hoy with ⟨aa, e⟩ | ⟨g, c, arr, e, sz, fz, e1, hne, hrows, hh, hfz, hs, hle, hfree, htg⟩
    · exact .inl ⟨aa, by rw [hlen]; exact e⟩
    · obtain ⟨a1, c1, g1, o1, sz1, f1, e1', hc1, ha1, hs1, hi1, hr1⟩ := rel_sl_inv hrelu
      have hne' : xs ≠ [] := by
        intro hx; subst hx
        exact hne (List.eq_nil_of_length_eq_zero (by simpa using hlen.symm))
      have hsz : sz = size := by
        cases ys with
        | nil => exact absurd rfl hne
        | cons r ys => rw [← hrows r (by simp)]; simpa [rowsFit] using hfy
      have hszx : sz1 = size := rows_size hfx hs1 hne'
      exact .inr ⟨g, c, arr, e, sz, fz, by rw [hlen]; exact e1, hne', fun row hrow => by
        obtain ⟨q, hq⟩ := List.mem_iff_getElem?.1 hrow
        rw [hs1 q row hq, hszx, hsz], hh, by rw [hlen]; exact hfz, hs, by rw [hlen]; exact hle, by rw [hlen]; exact hfree, fun hbx => htg (hby ▸ hb.resolve_left (by rw [hbx]; simp))⟩
  · obtain ⟨hh', hne⟩ := (h.dropOwn ow).2 _ _ _ hh
    exact hne (h.ownInj _ _ _ _ _ _ _ hh' hheld hcl hg)

theorem appendTo_sim (hok : cfg.Ok P) {st1 : St} (h : Sim B W I m st1 tmps) {t tx ty e : TypeId} {ti : TI} (hk : (cfg.ty t).map TI.k = some (.slice e)) (hti : cfg.ty e = some ti) (hsz : ¬ (ti.size = 0 ∨ ti.bytes = 0)) {dst : Option Tmp} {d1 : Bool} {xs : List (List V)} {x : V} {v vx : Value}
    (hev : appendTo cfg ti dst t tx d1 xs x st1 = some st') (hv : Rel W I m (.sl d1 xs) v) (hx : Rel W I m x vx) (hown : rowsFit ti.size xs = true → OwnRow W I xs v ∧ ∀ g, claimOf v = some g → some g ∉ m ∧ (B.A g ∨ B.W.heap.size ≤ g) ∧ ∀ l xs' v', Held W m st1 tmps l xs' v' → claimOf v' ≠ some g) :
    ∃ w W' I', (Builtin.append_ #[t, tx] ty #[v, vx]).run P W = .ok w W' ∧ Sim B W' I' m st' (aput tmps dst w) := by
  obtain ⟨d, hu, hkd⟩ := hok.kind hk
  have := kok_slice hkd; subst this
  obtain ⟨i, d', z, T⟩ := hok.ty _ _ hti
  unfold appendTo at hev
  split at hev
  · rename_i d2 ys
    split at hev
    · rename_i hc
      obtain ⟨htx, hmost, hfy, hfx, htag⟩ := hc
      subst htx
      cases hev
      obtain ⟨news, S⟩ := src_sl (P := P) hx hfy
      obtain ⟨ho, hcl⟩ := hown hfx
      obtain ⟨w, W', I', hrun, hS, hrel, ho', hcl'⟩ := append_sim (ty := ty) h T hu hu (.inl rfl) (fun h => hsz (.inl h)) (fun h => hsz (.inr h)) hv ho hfx S hmost (fun hb => htag.elim (hok.bt1 _ _ hti) fun hn => by rw [hn] at hb; cases hb) hcl
      exact ⟨w, W', I', hrun, hS.putOwn dst hrel ho' hcl'⟩
    · cases hev
  · rename_i b
    split at hev
    · rename_i hc
      obtain ⟨hks, hku, h1, hmost, hfx⟩ := hc
      cases hev
      obtain ⟨dx, hux, hkx⟩ := hok.kind hks
      have := kok_str hkx; subst this
      obtain ⟨news, S⟩ := src_str (P := P) hx
      rw [← h1] at S
      obtain ⟨ho, hcl⟩ := hown hfx
      obtain ⟨w, W', I', hrun, hS, hrel, ho', hcl'⟩ := append_sim (ty := ty) h T hu hux (.inr rfl) (fun h => hsz (.inl h)) (fun h => hsz (.inr h)) hv ho hfx S (by simpa using hmost) (fun _ => hok.bt1 _ _ hti hku) hcl
      exact ⟨w, W', I', hrun, hS.putOwn dst hrel ho' hcl'⟩
    · cases hev
  · cases hev

theorem appendOp_sim (hok : cfg.Ok P) (h : Sim B W I m st a.tmps) {dst : Option Tmp} {t tx ty : TypeId} {s x : Operand} (hev : appendOp cfg dst t tx s x st = some st') :
    ∃ w W' I', (Builtin.append_ #[t, tx] ty #[a.eval s, a.eval x]).run P W = .ok w W' ∧ Sim B W' I' m st' (aput a.tmps dst w) := by
  unfold appendOp at hev
  split at hev
  · rename_i e hk
    split at hev
    · rename_i ti hti
      split at hev
      · cases hev
      · rename_i hsz
        split at hev
        · rename_i u
          split at hev
          · rename_i d1 xs hx
            split at hev
            · cases hev
            · rename_i ow ho
              split at hev
              · rename_i hf
                have h1 := (h.dropOwn ow).1
                have hrs := rel_ev h (.tmp u)
                rw [hx] at hrs
                simp only [Bool.and_eq_true] at hf
                exact appendTo_sim hok h1 hk hti hsz hev hrs (rel_ev h x) fun hfx => owner_sim h hx ho hf.1 (by simpa using hf.2) hfx
              · cases hev
          · cases hev
        · exact appendTo_sim hok h hk hti hsz hev (rel_const (.slice none 0 0)) (rel_ev h x) fun _ => ⟨.inl ⟨none, rfl⟩, fun g hg => by cases hg⟩
        · cases hev
    · cases hev
  · cases hev

/-- A load, and whose it is. -/
theorem load_sim (hok : cfg.Ok P) (h : Sim B W I m st a.tmps) {t : TypeId} {p : Operand} {lim : Bool} {dst : Option Tmp}
    (hev : ((loadV cfg st.hp t (ev st.fr p)).map fun v => if isSl v && !lim then (st.put dst v).alias dst (cellOwner st.hp (ev st.fr p)) else st.put dst v) = some st') :
    ∃ w, (Instr.loadAt t (a.eval p)).run P W = .ok w W ∧ Sim B W I m st' (aput a.tmps dst w) := by
  obtain ⟨v, hv, rfl⟩ := Option.map_eq_some_iff.1 hev
  obtain ⟨w, hrun, hrel⟩ := run_loadV hok h hv (rel_ev h p)
  refine ⟨w, hrun, ?_⟩
  have hput := h.put dst hrel
  split
  · rename_i hc
    simp only [Bool.and_eq_true] at hc
    refine hput.aliasIn _ _ fun d o' hd ho => ?_
    subst hd
    obtain ⟨id, off, ty, own, cs, e1, rfl, hb, hmem⟩ := cellOwner_inv ho
    simp only [AliasOk]
    intro hlt
    have hlt' : d < a.tmps.size := by simpa [aput] using hlt
    -- the cell that is loaded
    have hp := rel_ev h p
    rw [e1] at hp hv
    obtain ⟨g, hg, hpv⟩ : ∃ g, m[id]? = some (some g) ∧ a.eval p = .pointer (some ⟨g, off, none⟩) := by
      generalize a.eval p = vp at hp
      cases hp with
      | ptr hg => exact ⟨_, hg, rfl⟩
    obtain ⟨arr, hw, hsz, h1, hr⟩ := h.blkAt hb hg
    refine ⟨g, hg, ?_⟩
    simp only [loadV] at hv
    split at hv
    · cases hv
    · rename_i ti hti
      obtain ⟨i, dd, z, T⟩ := hok.ty _ _ hti
      simp only [hb] at hv
      split at hv
      · rename_i hle
        have hna : ti.k.isAgg = false := by
          cases hk : ti.k.isAgg with
          | false => rfl
          | true =>
            rw [hk] at hv
            simp only [mkV, if_true, Option.some.injEq] at hv
            subst hv
            simp [isSl] at hc
        rw [hpv] at hrun
        have hs1 : 0 < ti.size := by
          rw [hna] at hv
          simp only [mkV, Bool.false_eq_true, if_false] at hv
          split at hv
          · rename_i hq
            have := congrArg List.length hq
            simp at this
            omega
          · cases hv
        have hload : (Instr.loadAt t (.pointer (some ⟨g, off, none⟩))).run P W = .ok (arr.getD off undef) W := by
          have hcell : W.cell? ⟨g, off, none⟩ = some (arr.getD off undef) := by rw [cell_of_blk hw]; exact get_of_lt (by omega)
          simp [Instr.loadAt, Instr.sureAddr, loadVar, isAgg_run T, hna, run_load, hcell]
        rw [hload] at hrun
        have hw' : arr.getD off undef = w := (Result.ok.inj hrun).1
        simp only [aput]
        rw [getD_set hlt', if_pos rfl, cell_of_blk hw, ← hw']
        exact get_of_lt (by omega)
      · cases hv
  · exact hput

/-- A slice expression, and whose it is. -/
theorem slice_sim (hok : cfg.Ok P) (h : Sim B W I m st a.tmps) {t : TypeId} {x : Operand} {lo hi mx : Option Operand} {lim : Bool} {dst : Option Tmp}
    (hev : ((sliceV cfg t (ev st.fr x) (lo.map (ev st.fr)) (hi.map (ev st.fr)) (mx.map (ev st.fr))).map fun v =>
      if !lim && isSl v && capZero (lo.map (ev st.fr)) (mx.map (ev st.fr)) then st.putOwn dst v true else st.put dst v) = some st') :
    ∃ w, (Instr.sliceAt t (a.eval x) (lo.map a.eval) (hi.map a.eval) (mx.map a.eval)).run P W = .ok w W ∧ Sim B W I m st' (aput a.tmps dst w) := by
  obtain ⟨v, hv, rfl⟩ := Option.map_eq_some_iff.1 hev
  obtain ⟨w, hrun, hrel, hz⟩ := run_sliceV hok hv (rel_ev h x) (orel_ev h lo) (orel_ev h hi) (orel_ev h mx)
  refine ⟨w, hrun, ?_⟩
  split
  · rename_i hc
    simp only [Bool.and_eq_true] at hc
    obtain ⟨aa, d, rfl, rfl⟩ := hz hc.1.2 hc.2
    exact h.putOwn dst hrel (.inl ⟨aa, rfl⟩) fun g hg => by cases aa <;> cases hg
  · exact h.put dst hrel

end Go.Abs
