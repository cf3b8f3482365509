/- The sorts' laws, out of the contract of slices.SortFunc. -/
import Derived.Shelf.SlSortCmp.WholeK
import Derived.Shelf.SlSortCmp.NoneTotal
import Derived.Test.YtlfjmmcodkdlfaaSrt0
set_option linter.all false
set_option maxRecDepth 100000
namespace Go.Proofs.Ytlfjmmcodkdlfaa
open Go Go.Abs

def sortPair_ren : Go.Shelf.Ren := ⟨fun | 6 => 59 | 15 => 73 | 14 => 72 | 28 => 90 | 29 => 91 | 20 => 82 | 21 => 83 | 22 => 84 | 23 => 85 | 24 => 86 | 25 => 87 | 26 => 88 | 27 => 89 | 46 => 96 | 47 => 97 | 48 => 98 | 49 => 99 | 50 => 100 | 57 => 102 | n => n, fun | 22 => 22 | 24 => 56 | 25 => 114 | 3 => 3 | 39 => 124 | 0 => 0 | 53 => 136 | 55 => 138 | 4 => 4 | 46 => 130 | 45 => 129 | 50 => 91 | 5 => 5 | 9 => 9 | 66 => 143 | 70 => 147 | 76 => 149 | 77 => 150 | n => n, fun | n => n⟩
theorem sortPair : Go.Proofs.SlLaysF0.n6 Try.prog sortPair_ren := {
  mixed := by kernel_rfl
  f6 := ⟨Try.f59.name, by decide, Try.func59.trans (congrArg some (by kernel_rfl))⟩
  f14 := ⟨Try.f72.name, by decide, Try.func72.trans (congrArg some (by kernel_rfl))⟩
  f15 := Try.func73.trans (congrArg some (by kernel_rfl))
  f20 := ⟨Try.f82.name, by decide, Try.func82.trans (congrArg some (by kernel_rfl))⟩
  f21 := ⟨Try.f83.name, by decide, Try.func83.trans (congrArg some (by kernel_rfl))⟩
  f22 := ⟨Try.f84.name, by decide, Try.func84.trans (congrArg some (by kernel_rfl))⟩
  f23 := ⟨Try.f85.name, by decide, Try.func85.trans (congrArg some (by kernel_rfl))⟩
  f24 := ⟨Try.f86.name, by decide, Try.func86.trans (congrArg some (by kernel_rfl))⟩
  f25 := ⟨Try.f87.name, by decide, Try.func87.trans (congrArg some (by kernel_rfl))⟩
  f26 := ⟨Try.f88.name, by decide, Try.func88.trans (congrArg some (by kernel_rfl))⟩
  f27 := ⟨Try.f89.name, by decide, Try.func89.trans (congrArg some (by kernel_rfl))⟩
  f28 := Try.func90.trans (congrArg some (by kernel_rfl))
  f29 := Try.func91.trans (congrArg some (by kernel_rfl))
  f46 := ⟨Try.f96.name, by decide, Try.func96.trans (congrArg some (by kernel_rfl))⟩
  f47 := Try.func97.trans (congrArg some (by kernel_rfl))
  f48 := Try.func98.trans (congrArg some (by kernel_rfl))
  f49 := ⟨Try.f99.name, by decide, Try.func99.trans (congrArg some (by kernel_rfl))⟩
  f50 := ⟨Try.f100.name, by decide, Try.func100.trans (congrArg some (by kernel_rfl))⟩
  f57 := ⟨Try.f102.name, by decide, Try.func102.trans (congrArg some (by kernel_rfl))⟩
  t0 := Try.underlying0
  a0 := Try.isAgg0
  z0 := Try.sizeOf0
  v0 := Try.zeroValue0
  t3 := Try.underlying3
  a3 := Try.isAgg3
  z3 := Try.sizeOf3
  v3 := Try.zeroValue3
  t4 := Try.underlying4
  a4 := Try.isAgg4
  z4 := Try.sizeOf4
  v4 := Try.zeroValue4
  t5 := Try.underlying5
  a5 := Try.isAgg5
  z5 := Try.sizeOf5
  v5 := Try.zeroValue5
  t9 := Try.underlying9
  a9 := Try.isAgg9
  z9 := Try.sizeOf9
  v9 := Try.zeroValue9
  t22 := Try.underlying22
  a22 := Try.isAgg22
  z22 := Try.sizeOf22
  v22 := Try.zeroValue22
  t25 := Try.underlying114
  a25 := Try.isAgg114
  z25 := Try.sizeOf114
  v25 := Try.zeroValue114
  t39 := Try.underlying124
  a39 := Try.isAgg124
  z39 := Try.sizeOf124
  v39 := Try.zeroValue124
  t45 := Try.underlying129
  a45 := Try.isAgg129
  z45 := Try.sizeOf129
  v45 := Try.zeroValue129
  t46 := Try.underlying130
  a46 := Try.isAgg130
  z46 := Try.sizeOf130
  v46 := Try.zeroValue130
  t50 := Try.underlying91
  a50 := Try.isAgg91
  z50 := Try.sizeOf91
  v50 := Try.zeroValue91
  t53 := Try.underlying136
  a53 := Try.isAgg136
  z53 := Try.sizeOf136
  v53 := Try.zeroValue136
  t55 := Try.underlying138
  a55 := Try.isAgg138
  z55 := Try.sizeOf138
  v55 := Try.zeroValue138
  t66 := Try.underlying143
  a66 := Try.isAgg143
  z66 := Try.sizeOf143
  v66 := Try.zeroValue143
  t70 := Try.underlying147
  a70 := Try.isAgg147
  z70 := Try.sizeOf147
  v70 := Try.zeroValue147
  t76 := Try.underlying149
  a76 := Try.isAgg149
  z76 := Try.sizeOf149
  v76 := Try.zeroValue149
  t77 := Try.underlying150
  a77 := Try.isAgg150
  z77 := Try.sizeOf150
  v77 := Try.zeroValue150 }

section
open Go.Shelf Go.RowKit Go.Lib Go.Sort
def encP (x : Int × Int) : List Value := [.int .i64 x.1, .int .i64 x.2]
theorem cf_zero {code : Nat} {x y z : Int × Int} (h1 : cfOf code x y = 0) (h2 : cfOf code y z = 0) : cfOf code x z = 0 := by
  unfold cfOf at *
  have a1 := @cmpZ_zero x.1 y.1
  have a2 := @cmpZ_zero y.1 z.1
  have a3 := @cmpZ_zero x.1 z.1
  have c1 := @cmpZ_zero y.2 x.2
  have c2 := @cmpZ_zero z.2 y.2
  have c3 := @cmpZ_zero z.2 x.2
  split at h1
  · rename_i h0
    rw [if_pos h0] at h2 ⊢
    rw [a3]; rw [a1] at h1; rw [a2] at h2; omega
  · rename_i h0
    rw [if_neg h0] at h2 ⊢
    by_cases e1 : cmpZ y.2 x.2 = 0 <;> by_cases e2 : cmpZ z.2 y.2 = 0 <;> by_cases e3 : cmpZ z.2 x.2 = 0 <;> simp only [e1, e2, e3, if_true, if_false] at h1 h2 ⊢ <;> omega
theorem swo_cf (code : Nat) : SWO (ltOf (cfOf code)) where
  irrefl x := by
    have := cf_rev code x x
    simp only [ltOf, decide_eq_false_iff_not]; omega
  trans x y z h1 h2 := by
    simp only [ltOf, decide_eq_true_eq] at *
    exact cf_trans h1 h2
  ntrans x y z h1 h2 := by
    simp only [ltOf, decide_eq_false_iff_not] at *
    intro h3
    have r1 := cf_rev code x y
    have r2 := cf_rev code y z
    by_cases h4 : cfOf code y x < 0
    · have := cf_trans h4 h3
      exact h2 this
    · by_cases h5 : cfOf code z y < 0
      · have := cf_trans h3 h5
        exact h1 this
      · have e1 : cfOf code x y = 0 := by omega
        have e2 : cfOf code y z = 0 := by omega
        have := cf_zero e1 e2
        omega
theorem eq_grow {W w' : World} (hb : Go.RowKit.Below W.heap.size W w') (ht : TapeLe W w') : ∃ q os', w' = Sort.grow (W.drewN q) os' := by
  refine ⟨w'.drawn - W.drawn, w'.heap.extract W.heap.size w'.heap.size, ?_⟩
  have hle := ht.le
  have hh : w'.heap = W.heap ++ w'.heap.extract W.heap.size w'.heap.size := by
    apply Array.ext_getElem?
    intro i
    by_cases hi : i < W.heap.size
    · rw [Array.getElem?_append_left hi]; exact hb.block i hi
    · rw [Array.getElem?_append_right (by omega), Array.getElem?_extract]
      have := hb.size
      split
      · congr 1; omega
      · exact Array.getElem?_eq_none (by omega)
  cases W; cases w'
  simp only [Sort.grow, World.drewN, World.mk.injEq] at *
  exact ⟨hh, hb.tape, by omega, hb.os, hb.output⟩
theorem encZ_get : ∀ (l : List (Int × Int)) (t : Nat), t < 2 * l.length → (encZ l)[t]? = some (encP (l.toArray[t / 2]!))[t % 2]!
  | [], t, h => by simp at h
  | p :: l, 0, h => by simp [encZ, encP]
  | p :: l, 1, h => by simp [encZ, encP]
  | p :: l, t + 2, h => by
    have ih := encZ_get l t (by simp only [List.length_cons] at h; omega)
    simp only [encZ, List.getElem?_cons_succ, ih]
    rw [show (t + 2) / 2 = t / 2 + 1 by omega, show (t + 2) % 2 = t % 2 by omega]
    simp
theorem flat_enc (l : List (Int × Int)) : (flatK encP 2 l.toArray).toList = encZ l := by
  apply List.ext_getElem?
  intro t
  have hs : (flatK encP 2 l.toArray).size = l.length * 2 := by simp
  by_cases ht : t < 2 * l.length
  · rw [encZ_get l t ht, Array.getElem?_toList, Array.getElem?_eq_getElem (by omega), ← get_flatK encP 2 l.toArray t (by simp; omega), getElem!_pos _ _ (by omega)]
  · rw [List.getElem?_eq_none (by rw [Array.length_toList]; omega), List.getElem?_eq_none (by rw [encZ_len]; omega)]
theorem flat_arr (d : Array (Int × Int)) : (flatK encP 2 d).toList = encZ d.toList := flat_enc d.toList
theorem agg_T (w : World) : (isAgg 56).run Try.prog w = .ok true w := by
  letI := byteT 5 cfg0
  obtain ⟨d, hu, hkd⟩ := cfg0Ok.kind (t := 56) rfl
  obtain ⟨fields, rfl, _⟩ := kok_struct hkd
  simp [isAgg, run_und hu]
theorem size_T (w : World) : (Go.sizeOf 56).run Try.prog w = .ok 2 w := by
  letI := byteT 5 cfg0
  obtain ⟨i, d, z, T⟩ := cfg0Ok.ty 56 _ rfl
  exact sizeOf_run T
theorem srt_of {g code : Nat} (hcl : ∀ (x y : Int × Int) (W : World), Calls Try.prog g #[.agg #[.int .i64 x.1, .int .i64 x.2], .agg #[.int .i64 y.1, .int .i64 y.2]] W fun e w' => e = .returned (.int .i64 (cfOf code x y)) ∧ ∃ q os', w' = Sort.grow (W.drewN q) os')
    (eg : ∀ args w, (callFunc g args).run Try.prog w = .ok (.enter g args) w) : SrtOk Try.prog 59 g 56 code := by
  refine ⟨⟨_, Try.func59, by kernel_rfl, by kernel_rfl⟩, fun blk c l arr W hw henc hlen => ?_, fun p c W => AnyF.slices_SortFunc_none sortPair p c (.func (.func g) #[] #[]) W⟩
  have hblk : blk < W.heap.size := (Array.getElem?_eq_some_iff.1 hw).1
  have hfl := flat_enc l
  have hfs : (flatK encP 2 l.toArray).size = l.length * 2 := by simp
  have hle : 2 * l.length ≤ arr.size := by
    have h1 := congrArg List.length henc
    have h2 : arr.toList.length = arr.size := Array.length_toList
    rw [List.length_take, encZ_len, h2] at h1
    omega
  have hH : HoldsK encP 2 W blk 0 l.toArray := fun j hj => by
    rw [hfs] at hj
    refine ⟨?_, by simp [World.frozen?, hw]⟩
    have h1 : (arr.toList.take (2 * l.length))[j]? = some (flatK encP 2 l.toArray)[j]! := by
      rw [henc, ← hfl, Array.getElem?_toList, Array.getElem?_eq_getElem (by omega), getElem!_pos _ _ (by omega)]
    rw [List.getElem?_take, if_pos (by omega), Array.getElem?_toList] at h1
    simp only [World.cell?, hw, Nat.zero_add, h1]
    rfl
  have h := AnyQ.slices_SortFunc sortPair 2 agg_T size_T encP (fun _ => rfl) (fun x v hv => by simp [encP] at hv; rcases hv with rfl | rfl <;> rfl) (cfOf code) (swo_cf code) g #[] blk 0 c l.toArray W eg (fun _ _ _ _ x y => hcl x y _) hH hblk (by simp; omega)
  have hsz : l.toArray.size = l.length := by simp
  rw [hsz] at h
  refine Calls.mono (show Calls Try.prog 59 _ _ _ from h) ?_
  rintro e w' ⟨rfl, d', n, os, ⟨hp1, _, hp3⟩, hs, rfl⟩
  have hd : d'.size = l.length := by rw [hp1, hsz]
  have hds : (flatK encP 2 d').size = l.length * 2 := by simp [hd]
  have hheap : ∀ g', g' < W.heap.size → (sortWorldK encP 2 W blk 0 n d' os).heap[g']? = if g' = blk then some (.cells (putCells id 0 (flatK encP 2 d') arr) 56 (0, 0)) else W.heap[g']? := fun g' hg => by
    simp only [sortWorldK, Sort.grow, putRowK, putRow, mapBlock, Sort.ahead]
    rw [Array.getElem?_append_left (by simpa using hg), Array.getElem?_modify]
    by_cases hgb : blk = g'
    · subst hgb; rw [if_pos rfl, if_pos rfl, hw]; rfl
    · rw [if_neg hgb, if_neg (Ne.symm hgb)]
  refine ⟨rfl, d'.toList, putCells id 0 (flatK encP 2 d') arr, ?_, ?_, by simp [putCells], ?_, ?_, fun g' hne hg => ?_, ?_, rfl, ⟨rfl, Nat.le_add_right _ _⟩, rfl⟩
  · have e1 : (d'.extract 0 l.length).toList = d'.toList := by rw [← hd]; simp
    have e2 : (l.toArray.extract 0 l.length).toList = l := by simp
    rw [e1, e2] at hp3
    exact hp3
  · rw [List.pairwise_iff_getElem]
    intro i j hi hj hij
    have hj' : j < d'.size := by simpa using hj
    have := hs i j (Nat.zero_le _) hij (by omega)
    rw [getElem!_pos d' j hj', getElem!_pos d' i (by omega)] at this
    simpa [ltOf] using this
  · apply List.ext_getElem?
    intro t
    rw [← flat_arr, Array.getElem?_toList]
    simp only [putCells, Array.getElem?_mapIdx, Nat.zero_le, true_and, Nat.zero_add, Nat.sub_zero, id]
    by_cases ht : t < l.length * 2
    · rw [List.getElem?_append_left (by rw [Array.length_toList]; omega), Array.getElem?_toList, Array.getElem?_eq_getElem (by omega), Array.getElem?_eq_getElem (xs := flatK encP 2 d') (by omega), Option.map_some, if_pos (by omega), getElem!_pos _ _ (by omega)]
    · have hfk : (flatK encP 2 d').toList.length = l.length * 2 := by rw [Array.length_toList, hds]
      rw [List.getElem?_append_right (by rw [hfk]; omega), List.getElem?_drop, hfk, show 2 * l.length + (t - l.length * 2) = t by omega, Array.getElem?_toList]
      rcases arr[t]? with _ | x
      · rfl
      · rw [Option.map_some, if_neg (by omega)]
  · rw [hheap blk hblk, if_pos rfl]
  · rw [hheap g' hg, if_neg hne]
  · simp [sortWorldK, Sort.grow, putRowK, putRow, mapBlock, Sort.ahead]
end
theorem rel_pair [BT] {W : World} {I : Nat → Nat → Prop} {m : List (Option Nat)} (x : Int × Int) : Rel W I m (.agg [.int .i64 x.1, .int .i64 x.2]) (.agg #[.int .i64 x.1, .int .i64 x.2]) :=
  .agg rfl (fun j v h => by
    match j, h with
    | 0, _ => rfl
    | 1, _ => rfl) fun j v h => by
    match j, h with
    | 0, h => simp at h; subst h; exact .int
    | 1, h => simp at h; subst h; exact .int

theorem srt_60 : SrtOk Try.prog 59 60 56 0 := by
  letI := byteT 5 cfg0
  refine srt_of (fun x y W => ?_) (Go.Proofs.enters_of Try.func60 (by kernel_rfl) rfl)
  refine Calls.mono (int_calls cfg0Ok (args := [.agg [.int .i64 x.1, .int .i64 x.2], .agg [.int .i64 y.1, .int .i64 y.2]]) (ev_of_lim (cmp_60 x y)) rfl fun j v h => ?_) fun e w' h => ⟨h.1, eq_grow h.2.1 h.2.2⟩
  match j, h with
  | 0, h => simp at h; subst h; exact rel_pair x
  | 1, h => simp at h; subst h; exact rel_pair y

theorem srts_ok : SrtsOk Try.prog srts := ⟨srt_60, trivial⟩
theorem cfgOk : cfg.Ok Try.prog := cfg_ok fns_ok (byte := 5) ⟨by kernel_rfl, by kernel_rfl⟩ tys_ok (by kernel_rfl) exts_ok clns_ok srts_ok regs_ok
end Go.Proofs.Ytlfjmmcodkdlfaa
