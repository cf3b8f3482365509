/- append: what the interpreter says of it is what the model does. -/
import Derived.Test.YtpjolollnhfciaaAbsOps3
set_option linter.all false
namespace Go.Abs
open Go.Lib
variable [BT] {F : Fence} {n : Nat} {P : Program} {cfg : Cfg} {B : Base} {W : World} {I : Nat → Nat → Prop} {m : List (Option Nat)} {st st' : St} {a : Act} {o : Oper} {tmps : Array Value}

/-- What is appended: rows of cells, read from a slice or a string. -/
structure Src (P : Program) (W : World) (I : Nat → Nat → Prop) (m : List (Option Nat)) (size : Nat) (x : Value) (d : Bool) (ys : List (List V)) (news : List Value) : Prop where
  len : ∀ W' : World, (Builtin.lenOf x).run P W' = .ok ys.length W'
  cells : ∀ W' : World, W'.heap = W.heap → (Builtin.firstCells size ys.length x).run P W' = .ok news.toArray W'
  nl : news.length = ys.length * size
  one : ∀ u ∈ news, u.oneCell' = true
  rows : ∀ (i : Nat) (row : List V), ys[i]? = some row → row.length = size
  rel : ∀ (i : Nat) (row : List V) (j : Nat) (x : V), ys[i]? = some row → row[j]? = some x → Rel W I (if d then [] else m) x (news.getD (i * size + j) undef)

theorem div_mod_row {q k size : Nat} (h : q < k * size) : q / size < k ∧ q % size < size ∧ q / size * size + q % size = q := by
  have hs : 0 < size := by
    rcases Nat.eq_zero_or_pos size with h0 | h0
    · subst h0; simp at h
    · exact h0
  exact ⟨by rw [Nat.div_lt_iff_lt_mul hs]; exact h, Nat.mod_lt _ hs, Nat.div_add_mod' q size⟩

theorem row_lt {i j k size : Nat} (hi : i < k) (hj : j < size) : i * size + j < k * size := by
  have : (i + 1) * size ≤ k * size := Nat.mul_le_mul_right _ hi
  rw [Nat.succ_mul] at this
  omega

theorem src_sl {d : Bool} {ys : List (List V)} {x : Value} {size : Nat} (hx : Rel W I m (.sl d ys) x) (hf : rowsFit size ys = true) : ∃ news, Src P W I m size x d ys news := by
  obtain ⟨aa, c, g, oo, sz, f, rfl, hc, ha, hs, hi, hr⟩ := rel_sl_inv hx
  rcases Nat.eq_zero_or_pos ys.length with h0 | h0
  · have : ys = [] := List.eq_nil_of_length_eq_zero h0
    subst this
    refine ⟨[], fun _ => rfl, fun W' _ => ?_, by simp, by simp, by simp, by simp⟩
    cases aa with
    | none => rfl
    | some aa => simp [Builtin.firstCells, loadCells, loadCellsFrom]
  · have hne : ys ≠ [] := by intro h; subst h; simp at h0
    have hsz : sz = size := rows_size hf hs hne
    subst hsz
    have haa := ha hne
    subst haa
    have hrow : ∀ q, q < ys.length * sz → ∃ row x, ys[q / sz]? = some row ∧ row[q % sz]? = some x := fun q hq => by
      obtain ⟨h1, h2, h3⟩ := div_mod_row hq
      have hl := hs _ _ (List.getElem?_eq_getElem h1)
      exact ⟨_, _, List.getElem?_eq_getElem h1, List.getElem?_eq_getElem (by omega)⟩
    have hcell : ∀ q, q < ys.length * sz → W.cell? ⟨g, oo + q, none⟩ = some (f (q / sz) (q % sz)) ∧ (f (q / sz) (q % sz)).oneCell' = true := fun q hq => by
      obtain ⟨row, x, h1, h2⟩ := hrow q hq
      have := hi _ _ _ _ h1 h2
      rw [(div_mod_row hq).2.2] at this
      exact this.2
    refine ⟨(List.range (ys.length * sz)).map fun q => f (q / sz) (q % sz), fun _ => rfl, fun W' hW => ?_, by simp, fun u hu => ?_, hs, fun i row j x h1 h2 => ?_⟩
    · refine run_firstCells_some (P := P) W' sz ys.length ⟨g, oo, none⟩ ys.length c _ (by simp) fun j v hj => ?_
      simp only [List.getElem?_map, Option.map_eq_some_iff] at hj
      obtain ⟨q, hq, rfl⟩ := hj
      obtain ⟨hlt, rfl⟩ := List.getElem?_eq_some_iff.1 hq
      simp only [List.length_range] at hlt
      rw [add_none, List.getElem_range]
      have := (hcell j hlt).1
      simpa [World.cell?, hW] using this
    · simp only [List.mem_map, List.mem_range] at hu
      obtain ⟨q, hq, rfl⟩ := hu
      exact (hcell q hq).2
    · have hi' : i < ys.length := (List.getElem?_eq_some_iff.1 h1).1
      have hj' : j < sz := by rw [← hs _ _ h1]; exact (List.getElem?_eq_some_iff.1 h2).1
      have hq := row_lt hi' hj'
      have e1 : (i * sz + j) / sz = i := by rw [Nat.mul_comm, Nat.mul_add_div (by omega), Nat.div_eq_of_lt hj', Nat.add_zero]
      have e2 : (i * sz + j) % sz = j := by rw [Nat.mul_comm, Nat.mul_add_mod, Nat.mod_eq_of_lt hj']
      have : ((List.range (ys.length * sz)).map fun q => f (q / sz) (q % sz)).getD (i * sz + j) undef = f i j := by
        rw [List.getD_eq_getElem?_getD]; simp [hq, e1, e2]
      rw [this]
      exact hr _ _ _ _ h1 h2

theorem src_str {s : List UInt8} {x : Value} (hx : Rel W I m (.str s) x) : ∃ news, Src P W I m 1 x true (s.map byteRow) news := by
  rw [rel_str_inv hx]
  have hs : (⟨s.toArray⟩ : ByteArray).size = s.length := by simp [ByteArray.size]
  refine ⟨strCells ⟨s.toArray⟩, fun _ => by simp [Builtin.lenOf, hs], fun W' _ => ?_, by simp [strCells_length, hs], fun u hu => strCells_oneCell _ u hu, fun i row h => ?_, fun i row j x h1 h2 => ?_⟩
  · have := run_firstCells_string (P := P) W' 1 ⟨s.toArray⟩
    rw [hs] at this
    simpa using this
  · simp only [List.getElem?_map, Option.map_eq_some_iff] at h
    obtain ⟨b, _, rfl⟩ := h
    rfl
  · simp only [List.getElem?_map, Option.map_eq_some_iff] at h1
    obtain ⟨b, hb, rfl⟩ := h1
    cases j with
    | succ j => simp [byteRow] at h2
    | zero =>
      simp [byteRow] at h2
      subst h2
      have : (strCells ⟨s.toArray⟩).getD (i * 1 + 0) undef = .int .u8 b.toNat := by
        rw [List.getD_eq_getElem?_getD]
        simp [strCells, hb]
      rw [this]
      exact .int

section
variable {t tx ty e : TypeId} {ti : TI} {i : TypeInfo} {dd dx : TypeDesc} {z : Value}

theorem run_append_grow_any (T : TyOk P e ti i dd z) (ht : P.underlying t = some (.slice e)) (htx : P.underlying tx = some dx) (hdx : dx = .slice e ∨ dx = .string) {base : Option Addr} {sLen sCap k : Nat} {x : Value} {olds news : List Value}
    (hlen : ∀ W' : World, (Builtin.lenOf x).run P W' = .ok k W') (hg : sCap < sLen + k) (hfit : (sLen + k) * ti.bytes ≤ strMax) (hb : ti.bytes ≠ 0)
    (hold : (Builtin.firstCells ti.size sLen (.slice base sLen sCap)).run P W.drew = .ok olds.toArray W.drew) (hnew : (Builtin.firstCells ti.size k x).run P W.drew = .ok news.toArray W.drew) :
    (Builtin.append_ #[t, tx] ty #[.slice base sLen sCap, x]).run P W =
      .ok (.slice (some ⟨W.heap.size, 0, none⟩) (sLen + k) (grownCap W (sLen + k) sCap e))
        (W.drew.alloc (.cells (olds.toArray ++ news.toArray ++ Builtin.zeroCells z.cells (grownCap W (sLen + k) sCap e - (sLen + k))) e)) := by
  have hn : ¬ (sLen + k ≤ sCap) := by omega
  have hcap : ¬ (281474976710656 < Builtin.nextslicecap (sLen + k) sCap * ti.bytes) := by
    have := growslice_fits hg (bytes := ti.bytes) (by simpa [strMax] using hfit)
    omega
  have hbb : i.bytes ≠ 0 := by rw [T.bytes]; exact hb
  have hfor : (Question.appendCap (sLen + k) sCap e).forced = false := rfl
  have h63 : ¬ (9223372036854775807 < ((sLen : Int) + (k : Int))) := by
    have : (sLen + k) * 1 ≤ (sLen + k) * ti.bytes := Nat.mul_le_mul_left _ (Nat.pos_of_ne_zero hb)
    simp only [strMax] at hfit
    omega
  rcases hdx with rfl | rfl
  all_goals
    simp [Builtin.append_, run_und ht, run_und htx, sizeOf, typeInfo, zeroValue, T.info, T.zero, T.size, T.bytes, hlen, hn, hcap, hb, h63, hfor, newRow, grownCap, hold, hnew]
    try (congr 2; apply Array.ext'; simp [List.append_assoc])

theorem run_append_room_any (T : TyOk P e ti i dd z) (ht : P.underlying t = some (.slice e)) (htx : P.underlying tx = some dx) (hdx : dx = .slice e ∨ dx = .string) {g sLen sCap k : Nat} {x : Value} {news : List Value} {cur : Array Value} {e' : TypeId}
    (hlen : ∀ W' : World, (Builtin.lenOf x).run P W' = .ok k W') (hg : sLen + k ≤ sCap) (hnew : (Builtin.firstCells ti.size k x).run P W = .ok news.toArray W) {fz : Nat × Nat} (hcur : W.heap[g]? = some (.cells cur e' fz)) (hfz : fz.2 ≤ sLen * ti.size)
    (hfits : sLen * ti.size + news.length ≤ cur.size) (h1 : ∀ u ∈ news, u.oneCell' = true) :
    (Builtin.append_ #[t, tx] ty #[.slice (some ⟨g, 0, none⟩) sLen sCap, x]).run P W =
      .ok (.slice (some ⟨g, 0, none⟩) (sLen + k) sCap) (W.setRow g (cur.toList.take (sLen * ti.size) ++ news ++ cur.toList.drop (sLen * ti.size + news.length)).toArray) := by
  have hst := run_storeCells_atF P g (sLen * ti.size) e' fz news 0 cur W hcur (by simpa using hfz) (by simpa using hfits) h1
  simp only [Nat.add_zero] at hst
  rcases hdx with rfl | rfl
  all_goals
    simp [Builtin.append_, run_und ht, run_und htx, sizeOf, typeInfo, T.info, T.size, hlen, hg, hnew, add_none, hst]

theorem run_append_none (T : TyOk P e ti i dd z) (ht : P.underlying t = some (.slice e)) (htx : P.underlying tx = some dx) (hdx : dx = .slice e ∨ dx = .string) {base : Option Addr} {sCap : Nat} {x : Value}
    (hlen : ∀ W' : World, (Builtin.lenOf x).run P W' = .ok 0 W') (hnew : (Builtin.firstCells ti.size 0 x).run P W = .ok #[] W) :
    (Builtin.append_ #[t, tx] ty #[.slice base 0 sCap, x]).run P W = .ok (.slice base 0 sCap) W := by
  rcases hdx with rfl | rfl <;> cases base <;> simp [Builtin.append_, run_und ht, run_und htx, sizeOf, typeInfo, T.info, T.size, hlen, hnew, storeCells]

theorem setRow_heap' {g : Nat} {cur cs : Array Value} {fr : Nat × Nat} {e' : TypeId} (h : W.heap[g]? = some (.cells cur e' fr)) : (W.setRow g cs).heap[g]? = some (.cells cs e' fr) := setRow_heap W g cur cs e' fr h

theorem setRow_other' {g g' : Nat} {cs : Array Value} (h : g' ≠ g) : (W.setRow g cs).heap[g']? = W.heap[g']? := setRow_other W g g' cs h

/-- The rows of what is appended to, and what is appended, in a block that holds their cells one behind the other. -/
theorem rel_append {W' : World} {I' : Nat → Nat → Prop} {d1 d2 : Bool} {xs ys : List (List V)} {g c size : Nat} {olds news : List Value} {arr : Array Value} {e' : TypeId}
    (hI : ∀ g o, I g o → I' g o) (hk : KeepI I W W') (hsz : 0 < size)
    (hxs : ∀ (i : Nat) (row : List V), xs[i]? = some row → row.length = size) (hys : ∀ (i : Nat) (row : List V), ys[i]? = some row → row.length = size)
    (hol : olds.length = xs.length * size) (hnl : news.length = ys.length * size)
    (ho1 : ∀ u ∈ olds, u.oneCell' = true) (hn1 : ∀ u ∈ news, u.oneCell' = true)
    (hor : ∀ (i : Nat) (row : List V) (j : Nat) (x : V), xs[i]? = some row → row[j]? = some x → Rel W I (if d1 then [] else m) x (olds.getD (i * size + j) undef))
    (hnr : ∀ (i : Nat) (row : List V) (j : Nat) (x : V), ys[i]? = some row → row[j]? = some x → Rel W I (if d2 then [] else m) x (news.getD (i * size + j) undef))
    {fz : Nat × Nat} (hw : W'.heap[g]? = some (.cells arr e' fz)) (hpre : ∀ (q : Nat) (u : Value), (olds ++ news)[q]? = some u → arr[q]? = some u) (hIn : ∀ q : Nat, q < (xs.length + ys.length) * size → I' g q) (hc : xs.length + ys.length ≤ c) :
    Rel W' I' m (appendV d1 d2 xs ys) (.slice (some ⟨g, 0, none⟩) (xs.length + ys.length) c) := by
  have hlen : (olds ++ news).length = (xs.length + ys.length) * size := by rw [List.length_append, hol, hnl, Nat.add_mul]
  have hrow : ∀ (i : Nat) (row : List V), (xs ++ ys)[i]? = some row → row.length = size := fun i row h => by
    by_cases hi : i < xs.length
    · rw [List.getElem?_append_left hi] at h; exact hxs i row h
    · rw [List.getElem?_append_right (by omega)] at h; exact hys _ row h
  have hq : ∀ {i j : Nat} {row : List V} {x : V}, (xs ++ ys)[i]? = some row → row[j]? = some x → i * size + j < (xs.length + ys.length) * size := fun {i j row x} h1 h2 => by
    have hi : i < xs.length + ys.length := by have := (List.getElem?_eq_some_iff.1 h1).1; simpa using this
    have hj : j < size := by rw [← hrow _ _ h1]; exact (List.getElem?_eq_some_iff.1 h2).1
    exact row_lt hi hj
  refine .sl (g := g) (o := 0) (sz := size) (f := fun i j => (olds ++ news).getD (i * size + j) undef) (by simp) hc (fun _ => rfl) hrow (fun i row j x h1 h2 => ?_) fun i row j x h1 h2 => ?_
  · have hlt := hq h1 h2
    have hu : (olds ++ news)[i * size + j]? = some ((olds ++ news).getD (i * size + j) undef) := by
      rw [List.getD_eq_getElem?_getD, List.getElem?_eq_getElem (by rw [hlen]; exact hlt)]; rfl
    refine ⟨by rw [Nat.zero_add]; exact hIn _ hlt, by rw [Nat.zero_add, cell_of_blk hw]; exact hpre _ _ hu, ?_⟩
    have hmem := List.mem_of_getElem? hu
    rcases List.mem_append.1 hmem with h | h
    · exact ho1 _ h
    · exact hn1 _ h
  · by_cases hi : i < xs.length
    · rw [List.getElem?_append_left hi] at h1
      have hj : j < size := by rw [← hxs _ _ h1]; exact (List.getElem?_eq_some_iff.1 h2).1
      have hlt : i * size + j < olds.length := by rw [hol]; exact row_lt hi hj
      have e : (olds ++ news).getD (i * size + j) undef = olds.getD (i * size + j) undef := by
        simp only [List.getD_eq_getElem?_getD]; rw [List.getElem?_append_left hlt]
      rw [e]
      have := (hor i row j x h1 h2).mono hI hk (List.prefix_refl _)
      have hne : xs.isEmpty = false := by cases xs <;> simp_all
      cases d1 with
      | true => exact this.mono (fun _ _ h => h) (fun _ _ _ => rfl) (List.nil_prefix)
      | false => simpa [hne] using this
    · rw [List.getElem?_append_right (by omega)] at h1
      have hj : j < size := by rw [← hys _ _ h1]; exact (List.getElem?_eq_some_iff.1 h2).1
      have hi' : i - xs.length < ys.length := (List.getElem?_eq_some_iff.1 h1).1
      have e0 : i * size + j = olds.length + ((i - xs.length) * size + j) := by
        rw [hol]
        have : i * size = xs.length * size + (i - xs.length) * size := by rw [← Nat.add_mul]; congr 1; omega
        omega
      have e : (olds ++ news).getD (i * size + j) undef = news.getD ((i - xs.length) * size + j) undef := by
        simp only [List.getD_eq_getElem?_getD]; rw [e0, List.getElem?_append_right (by omega)]; simp
      rw [e]
      have := (hnr _ row j x h1 h2).mono hI hk (List.prefix_refl _)
      have hne : ys.isEmpty = false := by cases ys <;> simp_all
      cases d2 with
      | true => exact this.mono (fun _ _ h => h) (fun _ _ _ => rfl) (List.nil_prefix)
      | false => simpa [hne] using this

theorem headByte_append {xs ys : List (List V)} (h : xs ≠ []) : headByte (xs ++ ys) = headByte xs := by
  cases xs with
  | nil => exact absurd rfl h
  | cons r xs =>
    rcases r with _ | ⟨v, _ | ⟨v2, r⟩⟩
    · rfl
    · cases v <;> try rfl
      rename_i k n; cases k <;> rfl
    · simp [headByte]

/-- What append does: the slice that it gives, whose spare cells are its own, in a world in which nothing else has changed. -/
theorem append_sim (h : Sim B W I m st tmps) (T : TyOk P e ti i dd z) (ht : P.underlying t = some (.slice e)) (htx : P.underlying tx = some dx) (hdx : dx = .slice e ∨ dx = .string) (hsz : ti.size ≠ 0) (hbz : ti.bytes ≠ 0)
    {d1 d2 : Bool} {xs ys : List (List V)} {v x : Value} {news : List Value} (hv : Rel W I m (.sl d1 xs) v) (hrow : OwnRow W I xs v) (hfit : rowsFit ti.size xs = true) (S : Src P W I m ti.size x d2 ys news)
    (hmost : (xs.length + ys.length) * ti.bytes ≤ strMax) (htag : headByte (xs ++ ys) = true → BT.is e)
    (hfree : ∀ g, claimOf v = some g → some g ∉ m ∧ (B.A g ∨ B.W.heap.size ≤ g) ∧ ∀ l xs' v', Held W m st tmps l xs' v' → claimOf v' ≠ some g) :
    ∃ w W' I', (Builtin.append_ #[t, tx] ty #[v, x]).run P W = .ok w W' ∧ Sim B W' I' m st tmps ∧ Rel W' I' m (appendV d1 d2 xs ys) w ∧ OwnRow W' I' (xs ++ ys) w ∧
      ∀ g, claimOf w = some g → some g ∉ m ∧ (B.A g ∨ B.W.heap.size ≤ g) ∧ ∀ l xs' v', Held W' m st tmps l xs' v' → claimOf v' ≠ some g := by
  have hpos : 0 < ti.size := Nat.pos_of_ne_zero hsz
  obtain ⟨aa, c, g0, o0, sz, f, rfl, hc, ha, hs, hi, hr⟩ := rel_sl_inv hv
  have hxs : ∀ (i : Nat) (row : List V), xs[i]? = some row → row.length = ti.size := fun i row hx => by
    have hne : xs ≠ [] := by intro he; subst he; simp at hx
    rw [hs i row hx]; exact rows_size hfit hs hne
  -- the old cells
  have holds : ∃ olds : List Value, olds.length = xs.length * ti.size ∧ (∀ u ∈ olds, u.oneCell' = true) ∧ (∀ (i : Nat) (row : List V) (j : Nat) (x : V), xs[i]? = some row → row[j]? = some x → Rel W I (if d1 then [] else m) x (olds.getD (i * ti.size + j) undef)) ∧
      (∀ W' : World, W'.heap = W.heap → (Builtin.firstCells ti.size xs.length (.slice aa xs.length c)).run P W' = .ok olds.toArray W') ∧ (∀ g, aa = some ⟨g, 0, none⟩ → ∀ q u, olds[q]? = some u → W.cell? ⟨g, q, none⟩ = some u) := by
    obtain ⟨olds, So⟩ := src_sl (P := P) hv hfit
    refine ⟨olds, So.nl, So.one, So.rel, So.cells, fun g hg q u hq => ?_⟩
    have hrun := So.cells W rfl
    subst hg
    have hlt : q < xs.length * ti.size := by rw [← So.nl]; exact (List.getElem?_eq_some_iff.1 hq).1
    have hne : xs ≠ [] := by intro he; subst he; simp at hlt
    have haa := ha hne
    cases haa
    have hsz' : sz = ti.size := rows_size hfit hs hne
    subst hsz'
    obtain ⟨k1, k2, k3⟩ := div_mod_row hlt
    have hrow' := List.getElem?_eq_getElem k1
    have hl := hs _ _ hrow'
    have hcell := (hi _ _ _ _ hrow' (List.getElem?_eq_getElem (show q % ti.size < xs[q / ti.size].length by omega))).2.1
    rw [k3, Nat.zero_add] at hcell
    -- both are what firstCells reads
    have hall : ∀ q', q' < xs.length * ti.size → ∃ u, W.cell? ⟨g0, q', none⟩ = some u := fun q' hq' => by
      obtain ⟨p1, p2, p3⟩ := div_mod_row hq'
      have hr' := List.getElem?_eq_getElem p1
      have hl' := hs _ _ hr'
      have := (hi _ _ _ _ hr' (List.getElem?_eq_getElem (show q' % ti.size < xs[q' / ti.size].length by omega))).2.1
      rw [p3, Nat.zero_add] at this
      exact ⟨_, this⟩
    have h2 := run_firstCells_some (P := P) W ti.size xs.length ⟨g0, 0, none⟩ xs.length c ((List.range (xs.length * ti.size)).map fun q => (W.cell? ⟨g0, q, none⟩).getD undef) (by simp) fun j v hj => by
      simp only [List.getElem?_map, Option.map_eq_some_iff] at hj
      obtain ⟨q', hq', rfl⟩ := hj
      obtain ⟨hlt', rfl⟩ := List.getElem?_eq_some_iff.1 hq'
      simp only [List.length_range] at hlt'
      rw [add_none, List.getElem_range, Nat.zero_add]
      obtain ⟨u, hu⟩ := hall j hlt'
      rw [hu]; rfl
    rw [hrun] at h2
    have e : olds = (List.range (xs.length * ti.size)).map fun q => (W.cell? ⟨g0, q, none⟩).getD undef := by
      have h3 := Result.ok.inj h2
      simpa using h3.1
    rw [e] at hq
    simp [hlt] at hq
    obtain ⟨u', hu'⟩ := hall q hlt
    rw [hu'] at hq ⊢
    simpa using hq
  obtain ⟨olds, hol, ho1, hor, hofc, hocell⟩ := holds
  have hn1 := S.one
  by_cases hroom : xs.length + ys.length ≤ c
  · -- there is room
    rcases hrow with ⟨a0, he⟩ | ⟨g, c', arr, e', sz', fz, he, hne, hsr, hheap, hfz, harr, hle, hspare, htg⟩
    · -- of none in none
      cases he
      have h0 : xs.length = 0 := by omega
      have hx0 : xs = [] := List.eq_nil_of_length_eq_zero h0
      have hy0 : ys = [] := List.eq_nil_of_length_eq_zero (by omega)
      subst hx0; subst hy0
      have hnil : news = [] := List.eq_nil_of_length_eq_zero (by rw [S.nl]; simp)
      subst hnil
      have hrun := run_append_none (W := W) (ty := ty) T ht htx hdx (base := aa) (sCap := 0) S.len (by simpa using S.cells W rfl)
      have hz0 : claimOf (.slice aa 0 0) = none := by cases aa <;> rfl
      exact ⟨_, W, I, hrun, h, .sl (g := 0) (o := 0) (sz := 0) (f := fun _ _ => undef) rfl (by simp) (by simp) (by simp) (by simp) (by simp), .inl ⟨_, rfl⟩, fun g hg => by rw [show claimOf _ = none from hz0] at hg; cases hg⟩
    · cases he
      have hszr : sz' = ti.size := by
        cases xs with
        | nil => exact absurd rfl hne
        | cons r xs => rw [← hsr r (by simp)]; exact hxs 0 r rfl
      subst hszr
      have hcl : claimOf (.slice (some ⟨g, 0, none⟩) xs.length (c' + 1)) = some g := rfl
      obtain ⟨hgm, hgA, hgh⟩ := hfree g hcl
      have hbound : (xs.length + ys.length) * ti.size ≤ (c' + 1) * ti.size := Nat.mul_le_mul_right _ hroom
      have hfits : xs.length * ti.size + news.length ≤ arr.size := by rw [S.nl, harr, ← Nat.add_mul]; exact hbound
      have hrun := run_append_room_any (W := W) (ty := ty) T ht htx hdx S.len hroom (S.cells W rfl) hheap hfz hfits hn1
      obtain ⟨arr', harr'⟩ : ∃ arr', arr' = (arr.toList.take (xs.length * ti.size) ++ news ++ arr.toList.drop (xs.length * ti.size + news.length)).toArray := ⟨_, rfl⟩
      rw [← harr'] at hrun
      have hoeq : arr.toList.take (xs.length * ti.size) = olds := by
        refine List.ext_getElem? fun q => ?_
        by_cases hq : q < xs.length * ti.size
        · rw [List.getElem?_take, if_pos hq, Array.getElem?_toList]
          have hu := List.getElem?_eq_getElem (show q < olds.length by omega)
          rw [hu]
          have := hocell g rfl q _ hu
          rwa [cell_of_blk hheap] at this
        · rw [List.getElem?_eq_none (by simp; omega), List.getElem?_eq_none (by omega)]
      have hget : ∀ q u, (olds ++ news)[q]? = some u → arr'[q]? = some u := fun q u hq => by
        rw [harr', hoeq, ← Array.getElem?_toList]
        simp only [List.append_assoc]
        have hlt := (List.getElem?_eq_some_iff.1 hq).1
        rw [← List.append_assoc, List.getElem?_append_left hlt]
        exact hq
      have hW' : (W.setRow g arr').heap[g]? = some (.cells arr' e' fz) := setRow_heap' hheap
      have hsize' : arr'.size = (c' + 1) * ti.size := by
        rw [harr', ← harr]
        simp only [List.size_toArray, List.length_append, List.length_take, List.length_drop, Array.length_toList]
        omega
      have hkeep : KeepI I W (W.setRow g arr') := fun g' q hiq => by
        by_cases hg' : g' = g
        · subst hg'
          have hlt : q < xs.length * ti.size := by
            rcases Nat.lt_or_ge q (xs.length * ti.size) with hh | hh
            · exact hh
            · exact absurd hiq (hspare q hh)
          rw [cell_of_blk hW', cell_of_blk hheap]
          have hu := List.getElem?_eq_getElem (show q < olds.length by omega)
          have e1 := hget q _ (by rw [List.getElem?_append_left (by omega)]; exact hu)
          rw [e1]
          have := hocell g' rfl q _ hu
          rw [cell_of_blk hheap] at this
          exact this.symm
        · exact cell_same (setRow_other' hg')
      let I' : Nat → Nat → Prop := fun g' q => I g' q ∨ (g' = g ∧ q < (xs.length + ys.length) * ti.size)
      have hS : Sim B (W.setRow g arr') I' m st tmps := by
        refine h.worldX (fun g' => g' = g) rfl rfl rfl (by simp) (fun g' _ hne => setRow_other' hne) (fun g' hg' => hg' ▸ hgm) (fun g' l xs' v' hg' hh => hg' ▸ hgh l xs' v' hh) (fun g' hg' => hg' ▸ hgA) hkeep
          (fun _ _ hi => .inl hi) (fun g' q hi => hi.imp id fun hi => .inr hi.1) (fun g' q hi => ?_) fun g' hg' x => (by rw [hg', hheap]; simp)
        rcases hi with hi | ⟨rfl, hlt⟩
        · obtain ⟨v, hv⟩ := h.live g' q hi
          exact ⟨v, (hkeep g' q hi).trans hv⟩
        · rw [cell_of_blk hW']
          exact ⟨_, Array.getElem?_eq_getElem (by rw [hsize']; omega)⟩
      refine ⟨_, _, I', hrun, hS, rel_append (fun _ _ hi => .inl hi) hkeep hpos hxs S.rows hol S.nl ho1 hn1 hor S.rel hW' hget (fun q hq => .inr ⟨rfl, hq⟩) hroom, .inr ⟨g, c', arr', e', ti.size, fz, by simp, by simp [hne], fun row hrow => ?_, hW', Nat.le_trans hfz (by rw [List.length_append]; exact Nat.mul_le_mul_right _ (Nat.le_add_right _ _)), hsize', by simpa using hroom, fun q hq hi => ?_, fun hb => htg (by rwa [headByte_append hne] at hb)⟩, fun g' hg' => ?_⟩
      · rcases List.mem_append.1 hrow with hr1 | hr1
        · obtain ⟨q, hq⟩ := List.mem_iff_getElem?.1 hr1; exact hxs q row hq
        · obtain ⟨q, hq⟩ := List.mem_iff_getElem?.1 hr1; exact S.rows q row hq
      · rw [List.length_append] at hq
        rcases hi with hi | ⟨_, hlt⟩
        · exact hspare q (by have : xs.length * ti.size ≤ (xs.length + ys.length) * ti.size := Nat.mul_le_mul_right _ (by omega); omega) hi
        · omega
      · have hg'' : g = g' := by simpa [claimOf] using hg'
        subst hg''
        refine ⟨hgm, hgA, fun l xs' v' hh => hgh l xs' v' (hh.world fun g'' hg'' => setRow_other' fun e => hgm (e ▸ hg''))⟩
  · -- a new row
    have hgrow : c < xs.length + ys.length := by omega
    have hrun := run_append_grow_any (W := W) (ty := ty) T ht htx hdx (base := aa) S.len hgrow hmost hbz (hofc W.drew rfl) (S.cells W.drew rfl)
    have hcap := grownCap_ge W (xs.length + ys.length) c e
    obtain ⟨rest, hrest⟩ : ∃ rest, rest = Builtin.zeroCells z.cells (grownCap W (xs.length + ys.length) c e - (xs.length + ys.length)) := ⟨_, rfl⟩
    obtain ⟨arr', harr'⟩ : ∃ arr', arr' = olds.toArray ++ news.toArray ++ rest := ⟨_, rfl⟩
    have hrl : rest.size = (grownCap W (xs.length + ys.length) c e - (xs.length + ys.length)) * ti.size := by
      rw [hrest]; simp [Builtin.zeroCells, T.zsize]
    rw [← hrest, ← harr'] at hrun
    have hW' : (W.drew.alloc (.cells arr' e)).heap[W.heap.size]? = some (.cells arr' e (0, 0)) := heap_alloc_new W.drew _
    have hold' : ∀ g, g < W.heap.size → (W.drew.alloc (.cells arr' e)).heap[g]? = W.heap[g]? := fun g hg => by
      simp only [World.alloc, World.drew, Array.getElem?_push]; rw [if_neg (by omega)]
    have hsize' : arr'.size = grownCap W (xs.length + ys.length) c e * ti.size := by
      rw [harr']
      simp only [Array.size_append, List.size_toArray, hol, S.nl, hrl]
      rw [← Nat.add_mul, ← Nat.add_mul]
      congr 1; omega
    have hget : ∀ q u, (olds ++ news)[q]? = some u → arr'[q]? = some u := fun q u hq => by
      rw [harr', ← Array.getElem?_toList]
      simp only [Array.toList_append]
      rw [List.getElem?_append_left (List.getElem?_eq_some_iff.1 hq).1]
      exact hq
    have hkeep : KeepI I W (W.drew.alloc (.cells arr' e)) := fun g q hi => cell_same (hold' g (h.ilt hi))
    let I' : Nat → Nat → Prop := fun g' q => I g' q ∨ (g' = W.heap.size ∧ q < (xs.length + ys.length) * ti.size)
    have hbound : (xs.length + ys.length) * ti.size ≤ grownCap W (xs.length + ys.length) c e * ti.size := Nat.mul_le_mul_right _ hcap
    have hS : Sim B (W.drew.alloc (.cells arr' e)) I' m st tmps := by
      refine h.world rfl rfl rfl (by simp) hold' (fun _ _ hi => .inl hi) (fun g' q hi => hi.imp id fun hi => by omega) fun g' q hi => ?_
      rcases hi with hi | ⟨rfl, hlt⟩
      · obtain ⟨v, hv⟩ := h.live g' q hi
        exact ⟨v, (hkeep g' q hi).trans hv⟩
      · rw [cell_of_blk hW']
        exact ⟨_, Array.getElem?_eq_getElem (by rw [hsize']; omega)⟩
    have hne : xs ++ ys ≠ [] := by
      intro he
      have : (xs ++ ys).length = 0 := by rw [he]; rfl
      rw [List.length_append] at this
      omega
    obtain ⟨c', hc'⟩ : ∃ c', grownCap W (xs.length + ys.length) c e = c' + 1 := ⟨_, (Nat.succ_pred_eq_of_pos (by omega)).symm⟩
    rw [hc'] at hrun hsize' hcap
    refine ⟨_, _, I', hrun, hS, rel_append (fun _ _ hi => .inl hi) hkeep hpos hxs S.rows hol S.nl ho1 hn1 hor S.rel hW' hget (fun q hq => .inr ⟨rfl, hq⟩) hcap, .inr ⟨W.heap.size, c', arr', e, ti.size, (0, 0), by simp, hne, fun row hrow => ?_, hW', Nat.zero_le _, hsize', by simpa using hcap, fun q hq hi => ?_, htag⟩, fun g' hg' => ?_⟩
    · rcases List.mem_append.1 hrow with hr1 | hr1
      · obtain ⟨q, hq⟩ := List.mem_iff_getElem?.1 hr1; exact hxs q row hq
      · obtain ⟨q, hq⟩ := List.mem_iff_getElem?.1 hr1; exact S.rows q row hq
    · rw [List.length_append] at hq
      rcases hi with hi | ⟨_, hlt⟩
      · exact absurd (h.ilt hi) (by omega)
      · omega
    · have hg'' : W.heap.size = g' := by simpa [claimOf] using hg'
      subst hg''
      refine ⟨fun hg => absurd (h.mlt hg) (by omega), .inr h.grow.size, fun l xs' v' hh hcl => ?_⟩
      have hh' := hh.world (W := W) fun g'' hg'' => hold' g'' (h.mlt hg'')
      exact absurd (claim_lt (h.own _ _ _ hh') hcl) (by omega)

end
end Go.Abs
