/- From the data of a law's arguments to abstract values, and from the interpreter's answer to the law's call. -/
import Derived.Test.YtpjolollnhfciaaAbsCall
import Derived.WideShapes
import Derived.DataReads
import Derived.ProofKit
set_option linter.all false
namespace Go.Abs
open Go.Lib Go.WideShapes Go.RowKit
variable [BT] {P : Program} {cfg : Cfg} {W : World}

/-- Cells of a type, as a call's argument may hold them. -/
inductive Typed (cfg : Cfg) : TypeId → List V → Prop
  | bool {t : TypeId} {b : Bool} (hk : (cfg.ty t).map TI.k = some .bool) : Typed cfg t [.bool b]
  | int {t : TypeId} {k : IntKind} {n : Int} (hk : (cfg.ty t).map TI.k = some (.int k)) (h1 : k.min ≤ n) (h2 : n ≤ k.max) : Typed cfg t [.int k n]
  | str {t : TypeId} {s : List UInt8} (hk : (cfg.ty t).map TI.k = some .str) (hl : s.length ≤ 140737488351232) : Typed cfg t [.str s]
  | slice {t e : TypeId} {te : TI} {xs : List (List V)} (hk : (cfg.ty t).map TI.k = some (.slice e)) (ht : cfg.ty e = some te) (hl : xs.length * te.bytes ≤ 140737488351232) (h : ∀ row ∈ xs, Typed cfg e row) : Typed cfg t [.sl true xs]
  | struct {t : TypeId} {ti : TI} {eq : Bool} {fs : List (Nat × TypeId)} {cs : List V} (ht : cfg.ty t = some ti) (hk : ti.k = .struct eq fs) (hl : cs.length = ti.size)
      (h : ∀ f ∈ fs, ∀ tf, cfg.ty f.2 = some tf → Typed cfg f.2 ((cs.drop f.1).take tf.size)) : Typed cfg t cs

def contig (cfg : Cfg) : Nat → List (Nat × TypeId) → Nat → Bool
  | at_, [], n => at_ == n
  | at_, (o, t) :: r, n => o == at_ && match cfg.ty t with
    | some ti => contig cfg (at_ + ti.size) r n
    | none => false

/-- A type of numbers, bools, strings, slices and structs of such. -/
def plainTy (cfg : Cfg) : Nat → TypeId → Bool
  | 0, _ => false
  | d + 1, t =>
    match cfg.ty t with
    | none => false
    | some ti => match ti.k with
      | .bool | .int _ | .str => ti.size == 1
      | .slice e => ti.size == 1 && plainTy cfg d e && (match cfg.ty e with | some te => te.size != 0 | none => false)
      | .struct _ fs => contig cfg 0 fs ti.size && fs.all fun f => plainTy cfg d f.2
      | _ => false

/-- Every cell that is there. -/
def here (W : World) : Nat → Nat → Prop := fun g o => ∃ v, W.cell? ⟨g, o, none⟩ = some v

def Reads (W : World) (vs : List V) (cs : List Value) : Prop :=
  vs.length = cs.length ∧ ∀ (j : Nat) (x : V), vs[j]? = some x → (cs.getD j undef).oneCell' = true ∧ Rel W (here W) [] x (cs.getD j undef)

theorem reads_one {v : V} {w : Value} (h1 : w.oneCell' = true) (h : Rel W (here W) [] v w) : Reads W [v] [w] :=
  ⟨rfl, fun j x hx => by
    cases j with
    | zero => simp at hx; subst hx; exact ⟨h1, h⟩
    | succ j => simp at hx⟩

theorem reads_append {a b : List V} {c d : List Value} (h1 : Reads W a c) (h2 : Reads W b d) : Reads W (a ++ b) (c ++ d) := by
  refine ⟨by simp [h1.1, h2.1], fun j x hx => ?_⟩
  by_cases hj : j < a.length
  · rw [List.getElem?_append_left hj] at hx
    have e : (c ++ d).getD j undef = c.getD j undef := by simp only [List.getD_eq_getElem?_getD]; rw [List.getElem?_append_left (by rw [← h1.1]; exact hj)]
    rw [e]; exact h1.2 j x hx
  · rw [List.getElem?_append_right (by omega)] at hx
    have e : (c ++ d).getD j undef = d.getD (j - a.length) undef := by simp only [List.getD_eq_getElem?_getD]; rw [List.getElem?_append_right (by rw [← h1.1]; omega), h1.1]
    rw [e]; exact h2.2 _ x hx

theorem mapM_get {α β : Type} {f : α → Option β} : ∀ {l : List α} {r : List β}, l.mapM f = some r → r.length = l.length ∧ ∀ (i : Nat) (y : β), r[i]? = some y → ∃ x, l[i]? = some x ∧ f x = some y
  | [], r, h => by simp at h; subst h; exact ⟨rfl, by simp⟩
  | a :: l, r, h => by
    rw [List.mapM_cons] at h
    simp only [Option.bind_eq_bind, Option.bind_eq_some_iff, Option.pure_def, Option.some.injEq] at h
    obtain ⟨b, hb, r', hr', rfl⟩ := h
    obtain ⟨h1, h2⟩ := mapM_get hr'
    refine ⟨by simp [h1], fun i y hy => ?_⟩
    cases i with
    | zero => simp at hy; subst hy; exact ⟨a, rfl, hb⟩
    | succ i => obtain ⟨x, h3, h4⟩ := h2 i y (by simpa using hy); exact ⟨x, by simpa using h3, h4⟩

theorem weightsAll_mem {H : Type} {P : Program} {e : TypeId} : ∀ {l : List (DataW H)} {d : DataW H}, d ∈ l → ∀ x ∈ d.weights P e, x ∈ DataW.weightsAll P e l
  | [], d, h => by cases h
  | a :: l, d, h => by
    intro x hx
    simp only [DataW.weightsAll, List.mem_append]
    rcases List.mem_cons.1 h with rfl | h
    · exact .inl hx
    · exact .inr (weightsAll_mem h x hx)

theorem weightsEach_get {H : Type} {P : Program} : ∀ {ts : List TypeId} {l : List (DataW H)} {i : Nat} {t : TypeId} {d : DataW H}, ts[i]? = some t → l[i]? = some d → ∀ x ∈ d.weights P t, x ∈ DataW.weightsEach P ts l
  | [], l, i, t, d, h, _ => by simp at h
  | t0 :: ts, [], i, t, d, _, h => by simp at h
  | t0 :: ts, a :: l, i, t, d, h1, h2 => by
    intro x hx
    simp only [DataW.weightsEach, List.mem_append]
    cases i with
    | zero => simp at h1 h2; subst h1; subst h2; exact .inl hx
    | succ i => exact .inr (weightsEach_get (by simpa using h1) (by simpa using h2) x hx)

theorem cells_get {base : Nat} {a : Addr} {n : Nat} {cs : List Value} (h : W.cells? base a n = some cs) (hn : n ≠ 0) : a = ⟨a.block, a.off, none⟩ ∧ cs.length = n ∧ ∀ (i : Nat) (v : Value), cs[i]? = some v → W.cell? ⟨a.block, a.off + i, none⟩ = some v := by
  unfold World.cells? at h
  split at h
  · obtain ⟨h1, h2⟩ := mapM_get h
    simp only [List.length_range] at h1
    have hspot : a.spot = none := by
      obtain ⟨x, h3, h4⟩ := h2 0 _ (List.getElem?_eq_getElem (show 0 < cs.length by omega))
      rw [List.getElem?_range (by omega)] at h3
      cases h3
      simp only [Addr.add, if_true, World.cell?] at h4
      split at h4
      · split at h4
        · cases h4
        · rename_i hs; simpa using hs
      · cases h4
    have ha : a = ⟨a.block, a.off, none⟩ := by cases a; simp_all
    refine ⟨ha, h1, fun i v hv => ?_⟩
    obtain ⟨x, h3, h4⟩ := h2 i v hv
    have hlt := (List.getElem?_eq_some_iff.1 hv).1
    rw [List.getElem?_range (by omega)] at h3
    cases h3
    rw [ha, add_none] at h4
    exact h4
  · cases h

theorem trod_typed {H : Type} {enc : TypeId × Value → H} (hok : cfg.Ok P) {base : Nat} {sp : Nat → Bool} {held : Bool} : ∀ (fuel : Nat) (dep : Nat) (t : TypeId) (cs : List Value) (d : DataW H) (p : List MemPlace),
    DataW.trod enc P W base sp held fuel t cs = some (d, p) → plainTy cfg dep t = true → (∀ x ∈ d.weights P t, x ≤ reachBytes) → ∃ vs, Reads W vs cs ∧ Typed cfg t vs
  | 0, _, _, _, _, _, h, _, _ => by simp [DataW.trod] at h
  | fuel + 1, dep, t, cs, d, p, h, hp, hw => by
    cases dep with
    | zero => simp [plainTy] at hp
    | succ dep =>
      unfold plainTy at hp
      split at hp
      · cases hp
      · rename_i ti hti
        obtain ⟨i, dd, z, T⟩ := hok.ty _ _ hti
        have hkd := T.kind
        have hmap : (cfg.ty t).map TI.k = some ti.k := by rw [hti]; rfl
        have hcells : P.cellsOf t = ti.size := by simp [Program.cellsOf, T.info, T.size]
        unfold DataW.trod at h
        rw [T.und] at h
        split at hp
        · -- bool
          rename_i hks
          rw [hks] at hkd hmap
          have : dd = .bool := by cases dd <;> simp [KOk] at hkd; rfl
          subst this
          simp only at h
          split at h <;> try (rename_i hd; cases hd; done)
          · rename_i b hd
            exact ⟨[.bool b], reads_one rfl .bool, .bool hmap⟩
          all_goals simp_all
        · -- int
          rename_i k hks
          rw [hks] at hkd hmap
          have := kok_int hkd; subst this
          simp only at h
          split at h <;> try (simp_all; done)
          rename_i k' n hd
          cases hd
          split at h
          · rename_i hc
            obtain ⟨rfl, hwf⟩ := hc
            simp only [Lit.wf, Bool.and_eq_true, decide_eq_true_eq] at hwf
            exact ⟨[.int k' n], reads_one rfl .int, .int hmap hwf.1 hwf.2⟩
          · cases h
        · -- string
          rename_i hks
          rw [hks] at hkd hmap
          have := kok_str hkd; subst this
          simp only at h
          split at h <;> try (simp_all; done)
          rename_i s hd
          split at h
          · simp only [Option.some.injEq, Prod.mk.injEq] at h
            obtain ⟨rfl, rfl⟩ := h
            refine ⟨[.str s.data.toList], reads_one rfl (.str rfl), .str hmap ?_⟩
            have := hw s.data.toList.length (by simp [DataW.weights])
            simpa [reachBytes] using this
          · cases h
        · -- slice
          rename_i e hks
          rw [hks] at hkd hmap
          have := kok_slice hkd; subst this
          simp only [Bool.and_eq_true] at hp
          obtain ⟨⟨_, hpe⟩, hse⟩ := hp
          rcases hte : cfg.ty e with _ | te
          · rw [hte] at hse; cases hse
          · rw [hte] at hse
            simp only [bne_iff_ne, ne_eq] at hse
            obtain ⟨ie, de, ze, Te⟩ := hok.ty _ _ hte
            have hce : P.cellsOf e = te.size := by simp [Program.cellsOf, Te.info, Te.size]
            have hbe : P.bytesOf e = te.bytes := by simp [Program.bytesOf, Te.info, Te.bytes]
            simp only at h
            split at h <;> try (simp_all; done)
            · exact ⟨[.sl true []], reads_one rfl (.sl (g := 0) (o := 0) (sz := 0) (f := fun _ _ => undef) rfl (by simp) (by simp) (by simp) (by simp) (by simp)), .slice hmap hte (by simp) (by simp)⟩
            · rename_i e' a len cap hd
              cases hd
              split at h
              · rename_i hc
                simp only [Option.bind_eq_some_iff, Option.map_eq_some_iff] at h
                obtain ⟨elems, hel, rest, hrest, he⟩ := h
                simp only [Prod.mk.injEq] at he
                obtain ⟨rfl, rfl⟩ := he
                obtain ⟨hl, hget⟩ := mapM_get hel
                simp only [List.length_range] at hl
                rw [hce] at hget
                -- each element
                have each : ∀ i, i < len → ∃ vs cs', W.cells? base (a.add (i * te.size)) te.size = some cs' ∧ Reads W vs cs' ∧ Typed cfg e vs := fun i hi => by
                  have hi' : i < elems.length := by omega
                  obtain ⟨x, h3, h4⟩ := hget i _ (List.getElem?_eq_getElem hi')
                  rw [List.getElem?_range (by omega)] at h3
                  cases h3
                  simp only [Option.bind_eq_some_iff] at h4
                  obtain ⟨cs', hcs', htr⟩ := h4
                  have hmem : elems[i].1 ∈ elems.map (·.1) := List.mem_map.2 ⟨_, List.getElem_mem hi', rfl⟩
                  obtain ⟨vs, h5, h6⟩ := trod_typed hok fuel dep e cs' elems[i].1 elems[i].2 htr hpe fun x hx => hw x (by
                    simp only [DataW.weights, T.und, List.mem_cons, List.mem_append]
                    exact .inr (.inl (weightsAll_mem hmem x hx)))
                  exact ⟨vs, cs', hcs', h5, h6⟩
                have hfun : ∃ vf : Nat → List V, ∃ cf : Nat → List Value, ∀ i, i < len → W.cells? base (a.add (i * te.size)) te.size = some (cf i) ∧ Reads W (vf i) (cf i) ∧ Typed cfg e (vf i) := by
                  refine ⟨fun i => if hi : i < len then (each i hi).choose else [], fun i => if hi : i < len then (each i hi).choose_spec.choose else [], fun i hi => ?_⟩
                  simp only [dif_pos hi]
                  exact (each i hi).choose_spec.choose_spec
                obtain ⟨vf, cf, hvf⟩ := hfun
                have hxs : ∀ {i : Nat} {row : List V}, ((List.range len).map vf)[i]? = some row → i < len ∧ row = vf i := fun {i row} hi => by
                  simp only [List.getElem?_map, Option.map_eq_some_iff] at hi
                  obtain ⟨q, hq, rfl⟩ := hi
                  obtain ⟨hlt, rfl⟩ := List.getElem?_eq_some_iff.1 hq
                  simp only [List.length_range] at hlt
                  rw [List.getElem_range]
                  exact ⟨hlt, rfl⟩
                -- the address is plain, where there is an element
                have hplain : 0 < len → a = ⟨a.block, a.off, none⟩ := fun h0 => by
                  have := (cells_get (hvf 0 h0).1 hse).1
                  have e0 : a.add (0 * te.size) = a := by rw [Nat.zero_mul]; rfl
                  rw [e0] at this
                  exact this
                have hcell : ∀ i, i < len → ∀ (j : Nat) (v : Value), (cf i)[j]? = some v → W.cell? ⟨a.block, a.off + (i * te.size + j), none⟩ = some v := fun i hi j v hv => by
                  have := (cells_get (hvf i hi).1 hse).2.2 j v hv
                  rw [hplain (by omega), add_none] at this
                  rw [← Nat.add_assoc]; exact this
                have hcl : ∀ i, i < len → (cf i).length = te.size := fun i hi => (cells_get (hvf i hi).1 hse).2.1
                refine ⟨[.sl true ((List.range len).map vf)], reads_one rfl (.sl (g := a.block) (o := a.off) (sz := te.size) (f := fun i j => (cf i).getD j undef) (by simp) hc.2.1 (fun hne => ?_) (fun i row hi => ?_) (fun i row j x h1 h2 => ?_) fun i row j x h1 h2 => ?_), .slice hmap hte ?_ fun row hrow => ?_⟩
                · rw [← hplain ?_]
                  rcases Nat.eq_zero_or_pos len with h0 | h0
                  · subst h0; simp at hne
                  · exact h0
                · obtain ⟨hlt, rfl⟩ := hxs hi
                  rw [(hvf i hlt).2.1.1, hcl i hlt]
                · obtain ⟨hlt, rfl⟩ := hxs h1
                  have hj : j < (cf i).length := by rw [← (hvf i hlt).2.1.1]; exact (List.getElem?_eq_some_iff.1 h2).1
                  have hc' := hcell i hlt j _ (List.getElem?_eq_getElem hj)
                  have e1 : (cf i).getD j undef = (cf i)[j] := by rw [List.getD_eq_getElem?_getD, List.getElem?_eq_getElem hj]; rfl
                  refine ⟨⟨_, hc'⟩, by rw [e1]; exact hc', ((hvf i hlt).2.1.2 j x h2).1⟩
                · obtain ⟨hlt, rfl⟩ := hxs h1
                  simpa using ((hvf i hlt).2.1.2 j x h2).2
                · have := hw (((elems.map (·.1)).length + (rest.map (·.1)).length) * P.bytesOf e) (by simp [DataW.weights, T.und])
                  rw [hbe] at this
                  simp only [reachBytes, List.length_map, List.length_range] at this ⊢
                  rw [hl, Nat.add_mul] at this
                  omega
                · obtain ⟨q, hq⟩ := List.mem_iff_getElem?.1 hrow
                  obtain ⟨hlt, rfl⟩ := hxs hq
                  exact (hvf q hlt).2.2
              · cases h
        · -- struct
          rename_i eq fs hks
          rw [hks] at hkd
          obtain ⟨fields, rfl, rfl⟩ := kok_struct hkd
          simp only [Bool.and_eq_true, List.all_eq_true] at hp
          obtain ⟨hcon, hall⟩ := hp
          simp only at h
          split at h
          · rename_i hlen
            rw [hcells] at hlen
            obtain ⟨xs, hxs, he⟩ := Option.map_eq_some_iff.1 h
            simp only [Prod.mk.injEq] at he
            obtain ⟨rfl, rfl⟩ := he
            -- the fields, one behind the other
            have key : ∀ (fl : List Field) (xl : List (DataW H × List MemPlace)) (at_ : Nat), fl.mapM (fun f => DataW.trod enc P W base sp held fuel f.type ((cs.drop f.offset).take (P.cellsOf f.type))) = some xl →
                contig cfg at_ (fl.map fun f => (f.offset, f.type)) ti.size = true → (∀ f ∈ fl, plainTy cfg dep f.type = true) → (∀ x ∈ DataW.weightsEach P (fl.map (·.type)) (xl.map (·.1)), x ≤ reachBytes) → at_ ≤ ti.size →
                ∃ vs, Reads W vs (cs.drop at_) ∧ ∀ f ∈ fl, ∀ tf, cfg.ty f.type = some tf → at_ ≤ f.offset ∧ Typed cfg f.type ((vs.drop (f.offset - at_)).take tf.size) := by
              intro fl
              induction fl with
              | nil =>
                intro xl at_ hm hc _ _ _
                simp only [List.map_nil, contig, beq_iff_eq] at hc
                subst hc
                refine ⟨[], ⟨by simp; omega, by simp⟩, by simp⟩
              | cons f fl ih =>
                intro xl at_ hm hc hpl hwl hat
                rw [List.mapM_cons] at hm
                simp only [Option.bind_eq_bind, Option.bind_eq_some_iff, Option.pure_def, Option.some.injEq] at hm
                obtain ⟨y, hy, ys, hys, rfl⟩ := hm
                simp only [List.map_cons, contig, Bool.and_eq_true, beq_iff_eq] at hc
                obtain ⟨rfl, hc⟩ := hc
                rcases htf : cfg.ty f.type with _ | tf
                · rw [htf] at hc; cases hc
                · rw [htf] at hc
                  simp only at hc
                  obtain ⟨i', d', z', Tf⟩ := hok.ty _ _ htf
                  have hcf : P.cellsOf f.type = tf.size := by simp [Program.cellsOf, Tf.info, Tf.size]
                  have hle : ∀ (l : List (Nat × TypeId)) (k n : Nat), contig cfg k l n = true → k ≤ n := by
                    intro l
                    induction l with
                    | nil => intro k n hh; simp [contig] at hh; omega
                    | cons q l ihl =>
                      intro k n hh
                      obtain ⟨o1, t1⟩ := q
                      simp only [contig, Bool.and_eq_true] at hh
                      obtain ⟨_, hh⟩ := hh
                      split at hh
                      · have := ihl _ _ hh; omega
                      · cases hh
                  have hle' := hle _ _ _ hc
                  rw [hcf] at hy
                  obtain ⟨vs1, r1, t1⟩ := trod_typed hok fuel dep f.type _ y.1 y.2 hy (hpl f (by simp)) fun x hx => hwl x (by simp only [List.map_cons, DataW.weightsEach, List.mem_append]; exact .inl hx)
                  obtain ⟨vs2, r2, t2⟩ := ih ys (f.offset + tf.size) hys hc (fun g hg => hpl g (by simp [hg])) (fun x hx => hwl x (by simp only [List.map_cons, DataW.weightsEach, List.mem_append]; exact .inr hx)) hle'
                  have hl1 : vs1.length = tf.size := by rw [r1.1]; simp; omega
                  have hsplit : cs.drop f.offset = (cs.drop f.offset).take tf.size ++ cs.drop (f.offset + tf.size) := by rw [← List.drop_drop, List.take_append_drop]
                  refine ⟨vs1 ++ vs2, by rw [hsplit]; exact reads_append r1 r2, fun g hg tg htg => ?_⟩
                  rcases List.mem_cons.1 hg with rfl | hg
                  · rw [htf] at htg; cases htg
                    refine ⟨Nat.le_refl _, ?_⟩
                    rw [Nat.sub_self, List.drop_zero, ← hl1, List.take_left]
                    exact t1
                  · obtain ⟨q1, q2⟩ := t2 g hg tg htg
                    refine ⟨by omega, ?_⟩
                    rw [List.drop_append, List.drop_eq_nil_of_le (by omega), List.nil_append, show g.offset - f.offset - vs1.length = g.offset - (f.offset + tf.size) by omega]
                    exact q2
            obtain ⟨vs, hr, ht⟩ := key fields.toList xs 0 hxs hcon (fun f hf => hall _ (List.mem_map.2 ⟨f, hf, rfl⟩)) (fun x hx => hw x (by simpa [DataW.weights, T.und] using hx)) (Nat.zero_le _)
            rw [List.drop_zero] at hr
            refine ⟨vs, hr, .struct hti hks (by rw [hr.1, hlen]) fun f hf tf htf => ?_⟩
            obtain ⟨g, hg, rfl⟩ := List.mem_map.1 hf
            have := (ht g hg tf htf).2
            simpa using this
          · cases h
        · cases hp

/-- An argument of a type. -/
def isStructT (cfg : Cfg) (t : TypeId) : Bool := match cfg.ty t with
  | some ti => match ti.k with
    | .struct _ _ => true
    | _ => false
  | none => false
def Arg (cfg : Cfg) (t : TypeId) (a : V) : Prop := (isStructT cfg t = true ∧ ∃ cs, a = .agg cs ∧ Typed cfg t cs) ∨ (isStructT cfg t = false ∧ Typed cfg t [a])

theorem arg_open {H : Type} {enc : TypeId × Value → H} (hok : cfg.Ok P) {r : Reach} {base base' : Nat} {sp : Nat → Bool} {held : Bool} {t : TypeId} {v : Value} {d : DataW H} {p : List MemPlace} (dep : Nat) (hp : plainTy cfg dep t = true)
    (hval : Value.okWide P W r base t v) (h : DataW.Trod enc P W base' sp held t v d p) (hw : ∀ x ∈ d.weights P t, x ≤ reachBytes) : ∃ a, Arg cfg t a ∧ Rel W (here W) [] a v := by
  obtain ⟨fuel, hf⟩ := h
  obtain ⟨vs, hr, ht⟩ := trod_typed hok fuel dep t _ d p hf hp hw
  cases dep with
  | zero => simp [plainTy] at hp
  | succ dep =>
    unfold plainTy at hp
    split at hp
    · cases hp
    · rename_i ti hti
      obtain ⟨i, dd, z, T⟩ := hok.ty _ _ hti
      have hkd := T.kind
      have hu := T.und
      have one : isStructT cfg t = false → v.oneCell' = true → ∃ a, Arg cfg t a ∧ Rel W (here W) [] a v := fun h0 h1 => by
        rw [cells_one h1] at hr
        have hl : vs.length = 1 := by simpa using hr.1
        obtain ⟨x, rfl⟩ := List.length_eq_one_iff.1 hl
        refine ⟨x, .inr ⟨h0, ht⟩, ?_⟩
        simpa using (hr.2 0 x rfl).2
      split at hp
      · rename_i hks
        rw [hks] at hkd
        have : dd = .bool := by cases dd <;> simp [KOk] at hkd; rfl
        subst this
        obtain ⟨b, rfl⟩ := okWide_bool hu hval
        exact one (by simp [isStructT, hti, hks]) rfl
      · rename_i k hks
        rw [hks] at hkd
        have := kok_int hkd; subst this
        obtain ⟨b, rfl⟩ := okWide_int hu hval
        exact one (by simp [isStructT, hti, hks]) rfl
      · rename_i hks
        rw [hks] at hkd
        have := kok_str hkd; subst this
        obtain ⟨b, rfl⟩ := okWide_string hu hval
        exact one (by simp [isStructT, hti, hks]) rfl
      · rename_i e hks
        rw [hks] at hkd
        have := kok_slice hkd; subst this
        obtain ⟨b, l, c, rfl⟩ := okWide_slice hu hval
        exact one (by simp [isStructT, hti, hks]) rfl
      · rename_i eq fs hks
        rw [hks] at hkd
        obtain ⟨fields, rfl, rfl⟩ := kok_struct hkd
        unfold Value.okWide at hval
        rw [hu] at hval
        obtain ⟨cs, rfl, _, _⟩ := hval
        have hg : ∀ j : Nat, cs.toList.getD j undef = cs.getD j undef := fun j => by simp [List.getD_eq_getElem?_getD, Array.getD_eq_getD_getElem?]
        refine ⟨.agg vs, .inl ⟨by simp [isStructT, hti, hks], vs, rfl, ht⟩, .agg (by simpa [Value.cells] using hr.1.symm) (fun j x hx => ?_) fun j x hx => ?_⟩
        · rw [← hg]; exact (hr.2 j x hx).1
        · rw [← hg]; exact (hr.2 j x hx).2
      · cases hp

/-- A law's call, out of what the interpreter answers. -/
theorem law_calls (hok : cfg.Ok P) {f : FuncId} {args : List V} {vargs : Array Value} (hev : Ev cfg f args (.bool true)) (hl : vargs.size = args.length) (hr : ∀ (j : Nat) (x : V), args[j]? = some x → Rel W (here W) [] x (vargs.getD j undef)) :
    Calls P f vargs W fun e w' => e = .returned (.bool true) ∧ Below W.heap.size W w' := by
  obtain ⟨k, own, hp, hev⟩ := hev
  obtain ⟨_, hc⟩ := (run_ok hok k).1.call f args [] _ own hp hev
  have h0 : Sim (pureBase W (here W)) W (here W) [] { fr := args, own := [], hp := [], al := [] } vargs := by
    have hh : ∀ {l xs v}, ¬ Held W [] { fr := args, own := [], hp := [], al := [] } vargs l xs v := fun hh => by
      cases hh with
      | tmp h1 h2 => cases h1
      | cell h1 h2 h3 h4 h5 => simp at h4
    exact ⟨Grow.refl _, List.prefix_refl _, fun g o hi => hi, hl, hr, rfl, fun i j g hi => by simp at hi, fun id b hb => by simp at hb, fun g hg => by simp at hg, fun g hg => by simp at hg,
      fun l xs v k => (hh k).elim, fun l xs v g k => (hh k).elim, fun l l' xs xs' v v' g k k' => (hh k).elim, fun t o k => (by cases k), Nat.le_refl _⟩
  refine (callsIn_wide (n := 0)).1 ((hc Fence.wide 0 (pureBase W (here W)) (here W) vargs ⟨fun _ => trivial, rfl⟩ rfl rfl h0).mono ?_)
  rintro e W' ⟨w, I', m', rfl, hS⟩
  have hw := rel_bool_inv (by simpa using hS.fr 0 (.bool true) rfl : Rel W' I' m' (.bool true) w)
  subst hw
  exact ⟨rfl, ⟨hS.grow.os, hS.grow.tape, hS.grow.output, hS.grow.size, fun i hi => hS.grow.same i hi (fun h => h)⟩⟩

end Go.Abs
