/- The number of a leaf, and of a node: the program's answers. -/
import Derived.Test.YthikboobkmfgfaaM1
import Derived.Test.YthikboobkmfgfaaM2
set_option linter.all false
set_option maxRecDepth 100000
namespace Go.Proofs.Ythikboobkmfgfaa
open Go Go.Abs

theorem ret1h {t : Tmp} {n : Nat} {e : Ex} {s : St} {R : V → Bool → List Blk → Prop} {v : V} (he : ∀ i, e ≠ .exit i) (hv : s.fr.getD t .any = v) (hl : V.lt n v = true) (hs : isSl v = false)
    (ha : (s.hp.take n).all (Blk.all fun i => Nat.blt i n) = true) (h : R v false (s.hp.take n)) : Ret cfg [.tmp t] n R e s := by
  refine ⟨he, v, s.own.contains t, by simp only [resultsV, resOf, resOwn, hv, Option.map_some], ?_⟩
  rw [hs, Bool.and_false]
  simp only [hl, ha, Bool.and_self, if_true]
  exact h
/-- A loop's head where all blocks are the caller's. -/
theorem head_keep {s : St} {K : List Nat} {fr : List V} {own : List Nat} {n : Nat} (hlen : s.hp.length = n) (hnb : s.nb = n) (hfr : killAll s.fr K = fr) (hown : s.own.filter (fun t => !K.contains t) = own) (hn : topIds fr ≤ n) :
    s.head K = { fr := fr, own := own, hp := s.hp, al := [], nb := n } := by
  subst hfr hown hnb
  obtain ⟨f, o, h, a, n⟩ := s
  simp only at hlen hn
  have e1 : max n (topIds (killAll f K)) = n := Nat.max_eq_left hn
  simp only [St.head, St.kill, St.gc, e1, hlen, Nat.sub_self, upTo]
  split
  · rw [List.take_of_length_le (Nat.le_of_eq hlen)]
  · rfl
/-- A loop's head with one block of this function's own. -/
theorem head_one {s : St} {K : List Nat} {A : Blk} {fr : List V} {own : List Nat} (hh : s.hp = [A]) (hA : ∀ p, Blk.all p A = true) (hnb : s.nb = 0) (hfr : killAll s.fr K = fr)
    (hown : s.own.filter (fun t => !K.contains t) = own) (hn : topIds fr = 1) (hl : V.ltl 1 fr = true) : s.head K = { fr := fr, own := own, hp := [A], al := [], nb := 0 } := by
  subst hfr hown
  obtain ⟨f, o, h, a, n⟩ := s
  simp only at hh hnb hn hl
  subst hh hnb
  simp only [St.head, St.kill, St.gc, hn, hl, List.length_cons, List.length_nil]
  simp [upTo, hA, hl]
def be4 (n : Nat) : List UInt8 := [UInt8.ofNat (n / 16777216), UInt8.ofNat (n / 65536), UInt8.ofNat (n / 256), UInt8.ofNat n]
def overN (K : List Nat) : Nat := sumN (K.flatMap be4)
theorem be4_step {K : List Nat} {i : Nat} (h : i < K.length) : (K.take (i + 1)).flatMap be4 = (K.take i).flatMap be4 ++ be4 K[i] := by
  rw [List.take_succ_eq_append_getElem h, List.flatMap_append]; simp
theorem be4_len : ∀ K : List Nat, (K.flatMap be4).length = 4 * K.length
  | [] => rfl
  | n :: K => by rw [List.flatMap_cons, List.length_append, be4_len K]; show 4 + _ = _; rw [List.length_cons]; omega
theorem wrap8 {n : Nat} : IntKind.u8.wrap (n : Int) = ((n % 256 : Nat) : Int) := by
  show (n : Int) % 256 = _
  norm_cast
theorem shr_u32k {n : Nat} {k : Nat} (hk : k ≤ 32) : shiftOp .shr .u32 (n : Int) (k : Int) = some (.int .u32 ((n / 2 ^ k : Nat) : Int)) := by
  have e : min (Int.toNat (k : Int)) IntKind.u32.bits = k := by rw [Int.toNat_natCast]; show min k 32 = k; omega
  have e2 : (2 : Int) ^ k = ((2 ^ k : Nat) : Int) := by norm_cast
  simp only [shiftOp, e, e2]
  rw [if_neg (by omega), Int.fdiv_eq_ediv_of_nonneg _ (Int.natCast_nonneg _), Int.natCast_ediv]
theorem shr_24 (n : Nat) : shiftOp .shr .u32 (n : Int) 24 = some (.int .u32 ((n / 16777216 : Nat) : Int)) := shr_u32k (k := 24) (by omega)
theorem shr_16 (n : Nat) : shiftOp .shr .u32 (n : Int) 16 = some (.int .u32 ((n / 65536 : Nat) : Int)) := shr_u32k (k := 16) (by omega)
theorem shr_8 (n : Nat) : shiftOp .shr .u32 (n : Int) 8 = some (.int .u32 ((n / 256 : Nat) : Int)) := shr_u32k (k := 8) (by omega)
theorem row_of (n : Nat) : byteRow (UInt8.ofNat n) = [.int .u8 ((n % 256 : Nat) : Int)] := by
  rw [byteRow, UInt8.toNat_ofNat']
def S70o (b : Blk) (off n cap : Nat) (x : Nat × List UInt8) : St := { fr := mkF 30 [(3, .sl true (x.2.map byteRow)), (6, .ms 0 off n cap), (7, .int .i64 n), (8, .int .i64 x.1)], own := [3], hp := [b], al := [], nb := 1 }
set_option maxHeartbeats 4000000 in
theorem call_67 {t : TypeId} {ow : List Nat} {cs : List V} (K : List Nat) (off cap : Nat) (hcs : ∀ p, V.alll p cs = true) (hl : off + K.length ≤ cs.length) (hK : ∀ i (h : i < K.length), cs[off + i]? = some (u32 K[i])) (hlen : K.length ≤ 100000) :
    (Lim cfg).call 67 [.ms 0 off K.length cap] [.cells t ow cs] = some (.int .u32 (overN K : Nat), false, [.cells t ow cs]) := by
  refine call_eq fn_67 rfl ?_
  rw [k_start]
  simp only [Try.f67, st0, Nat.zero_add]
  repeat' (first | simp (maxSteps := 10000000) (disch := omega) only [go_sem, Nat.reduceAdd, Nat.reduceSub, Nat.reduceMul, Nat.reduceLT, Nat.reduceLeDiff, Nat.reduceEqDiff, Nat.reduceBEq, Nat.reduceBNe, reduceCtorEq, Int.reduceBNe, Int.reduceBEq, au, lst, if_pos, if_neg] | simp (disch := (simp only [lens]; omega)) only [str_add, if_pos, if_neg] | ((with_reducible first | refine WC_split ?_ ?_ | refine WS_split ?_ ?_ | refine WD_split ?_ ?_) <;> intro hc <;> (try simp only [hc]) <;> (try simp only [bools] at hc) <;> (try (have hb : @Eq Bool _ _ := hc; simp only [hb]; clear hb))))
  refine k_loop (S70o (.cells t ow cs) off K.length cap) (fun x => x.1 ≤ K.length ∧ x.2 = (K.take x.1).flatMap be4) (fun x => K.length - x.1) (0, []) (K := cfg.kill 67 3) rfl ⟨Nat.zero_le _, rfl⟩ (head_keep rfl rfl (by kernel_rfl) (by kernel_rfl) (Nat.le_of_eq (by kernel_rfl))) ?_
  rintro ⟨i, O⟩ ⟨hi, hO⟩ k' Q' hnorm hexit hret
  simp only at hi hO
  have eS : ∀ i O, S70o (.cells t ow cs) off K.length cap (i, O) = { fr := mkF 30 [(3, .sl true (O.map byteRow)), (6, .ms 0 off K.length cap), (7, .int .i64 K.length), (8, .int .i64 i)], own := [3], hp := [.cells t ow cs], al := [], nb := 1 } := fun _ _ => rfl
  have hOl : O.length = 4 * i := by rw [hO, be4_len, List.length_take]; omega
  rw [eS]
  simp only [eS, mkF, List.foldl, st0, List.set]
  by_cases hlt : i < K.length
  · have h1 : List.take 1 (List.drop (off + i * 1) cs) = [.int .u32 (K[i] : Int)] := by rw [Nat.mul_one]; exact take_one (hK i hlt)
    have hb : (O.length + 4) * 1 ≤ strMax := by unfold strMax; omega
    have er : O.map byteRow ++ [[.int .u8 ((K[i] / 16777216 % 256 : Nat) : Int)], [.int .u8 ((K[i] / 65536 % 256 : Nat) : Int)], [.int .u8 ((K[i] / 256 % 256 : Nat) : Int)], [.int .u8 ((K[i] % 256 : Nat) : Int)]] = (O ++ be4 K[i]).map byteRow := by
      rw [List.map_append, be4]; simp only [List.map_cons, List.map_nil, row_of]
    repeat' (first | simp (maxSteps := 10000000) (disch := omega) only [go_sem, Nat.reduceAdd, Nat.reduceSub, Nat.reduceMul, Nat.reduceLT, Nat.reduceLeDiff, Nat.reduceEqDiff, Nat.reduceBEq, Nat.reduceBNe, reduceCtorEq, Int.reduceBNe, Int.reduceBEq, au, lst, if_pos, if_neg, h1, shr_24, shr_16, shr_8, wrap8, hb, fit_byte, Bool.not_or_self, er] | simp (disch := (simp only [lens]; omega)) only [str_add, if_pos, if_neg] | ((with_reducible first | refine WC_split ?_ ?_ | refine WS_split ?_ ?_ | refine WD_split ?_ ?_) <;> intro hc <;> (try simp only [hc]) <;> (try simp only [bools] at hc) <;> (try (have hb : @Eq Bool _ _ := hc; simp only [hb]; clear hb))))
    refine hnorm (i + 1, O ++ be4 K[i]) _ ⟨by simp only; omega, by simp only; rw [be4_step hlt, hO]⟩ (by simp only; omega) ?_
    rw [eS]
    exact head_keep rfl rfl (by kernel_rfl) (by kernel_rfl) (Nat.le_of_eq (by kernel_rfl))
  · have c1 := call_89 O (by omega)
    clear hnorm hret
    repeat' (first | simp (maxSteps := 10000000) (disch := omega) only [go_sem, Nat.reduceAdd, Nat.reduceSub, Nat.reduceMul, Nat.reduceLT, Nat.reduceLeDiff, Nat.reduceEqDiff, Nat.reduceBEq, Nat.reduceBNe, reduceCtorEq, Int.reduceBNe, Int.reduceBEq, au, lst, if_pos, if_neg] | simp (disch := (simp only [lens]; omega)) only [str_add, if_pos, if_neg] | ((with_reducible first | refine WC_split ?_ ?_ | refine WS_split ?_ ?_ | refine WD_split ?_ ?_) <;> intro hc <;> (try simp only [hc]) <;> (try simp only [bools] at hc) <;> (try (have hb : @Eq Bool _ _ := hc; simp only [hb]; clear hb))))
    refine hexit _ _ ?_
    repeat' (first | simp (maxSteps := 10000000) (disch := omega) only [go_sem, Nat.reduceAdd, Nat.reduceSub, Nat.reduceMul, Nat.reduceLT, Nat.reduceLeDiff, Nat.reduceEqDiff, Nat.reduceBEq, Nat.reduceBNe, reduceCtorEq, Int.reduceBNe, Int.reduceBEq, au, lst, if_pos, if_neg, mapM_byte, c1] | simp (disch := (simp only [lens]; omega)) only [str_add, if_pos, if_neg] | ((with_reducible first | refine WC_split ?_ ?_ | refine WS_split ?_ ?_ | refine WD_split ?_ ?_) <;> intro hc <;> (try simp only [hc]) <;> (try simp only [bools] at hc) <;> (try (have hb : @Eq Bool _ _ := hc; simp only [hb]; clear hb))))
    refine ret1h (fun _ => ex_ret) rfl rfl rfl (by show (Blk.all _ _ && true) = true; rw [show Blk.all _ (.cells t ow cs) = V.alll _ cs from rfl, hcs]; rfl) ⟨?_, rfl, rfl⟩
    rw [hO, List.take_of_length_le (by omega)]
    rfl
/-- A cell's value, as eight bytes. -/
def valU (v : Int) : Nat := (v % 18446744073709551616).toNat
def numBytes (u : Nat) : List UInt8 := (List.range 8).map fun i => UInt8.ofNat (u / 2 ^ (8 * (7 - i)))
def numberN (c : CR) : Nat := if c.2 = true then sumN (1 :: numBytes (valU c.1)) else 0
theorem wrap_u64 (v : Int) : IntKind.u64.wrap v = (valU v : Nat) := by
  show v % 18446744073709551616 = _
  unfold valU; omega
theorem shr_u64 {u i : Nat} (hi : i ≤ 7) : shiftOp .shr .u64 (u : Int) (8 * (7 - (i : Int))) = some (.int .u64 ((u / 2 ^ (8 * (7 - i)) : Nat) : Int)) := by
  have e0 : (8 * (7 - (i : Int))) = ((8 * (7 - i) : Nat) : Int) := by omega
  have e : min (Int.toNat ((8 * (7 - i) : Nat) : Int)) IntKind.u64.bits = 8 * (7 - i) := by rw [Int.toNat_natCast]; show min _ 64 = _; omega
  have e2 : (2 : Int) ^ (8 * (7 - i)) = ((2 ^ (8 * (7 - i)) : Nat) : Int) := by norm_cast
  rw [e0]
  simp only [shiftOp, e, e2]
  rw [if_neg (by omega), Int.fdiv_eq_ediv_of_nonneg _ (Int.natCast_nonneg _), Int.natCast_ediv]
def S71 (v : Int) (x : Nat × List UInt8) : St := { fr := mkF 27 [(1, .ptr 0 0), (3, .sl true (x.2.map byteRow)), (9, .int .i64 x.1)], own := [3], hp := [.cells 74 [] [.int .i64 v, .bool true]], al := [], nb := 0 }
set_option maxHeartbeats 4000000 in
theorem call_68 (c : CR) : (Lim cfg).call 68 [.agg (crow c)] [] = some (.int .u32 (numberN c : Nat), false, []) := by
  obtain ⟨v, s⟩ := c
  cases s with
  | false =>
    refine call_eq fn_68 rfl ?_
    rw [k_start]
    simp only [Try.f68, st0, Nat.zero_add]
    repeat' (first | simp (maxSteps := 10000000) (disch := omega) only [go_sem, Nat.reduceAdd, Nat.reduceSub, Nat.reduceMul, Nat.reduceLT, Nat.reduceLeDiff, Nat.reduceEqDiff, Nat.reduceBEq, Nat.reduceBNe, reduceCtorEq, Int.reduceBNe, Int.reduceBEq, au, lst, if_pos, if_neg, crow] | simp (disch := (simp only [lens]; omega)) only [str_add, if_pos, if_neg] | ((with_reducible first | refine WC_split ?_ ?_ | refine WS_split ?_ ?_ | refine WD_split ?_ ?_) <;> intro hc <;> (try simp only [hc]) <;> (try simp only [bools] at hc) <;> (try (have hb : @Eq Bool _ _ := hc; simp only [hb]; clear hb))))
    exact ret1n (fun _ => ex_ret) rfl rfl rfl ⟨rfl, rfl, rfl⟩
  | true =>
    have e1 : [V.int .u8 1] = byteRow 1 := rfl
    refine call_eq fn_68 rfl ?_
    rw [k_start]
    simp only [Try.f68, st0, Nat.zero_add]
    repeat' (first | simp (maxSteps := 10000000) (disch := omega) only [go_sem, Nat.reduceAdd, Nat.reduceSub, Nat.reduceMul, Nat.reduceLT, Nat.reduceLeDiff, Nat.reduceEqDiff, Nat.reduceBEq, Nat.reduceBNe, reduceCtorEq, Int.reduceBNe, Int.reduceBEq, au, lst, if_pos, if_neg, crow] | simp (disch := (simp only [lens]; omega)) only [str_add, if_pos, if_neg] | ((with_reducible first | refine WC_split ?_ ?_ | refine WS_split ?_ ?_ | refine WD_split ?_ ?_) <;> intro hc <;> (try simp only [hc]) <;> (try simp only [bools] at hc) <;> (try (have hb : @Eq Bool _ _ := hc; simp only [hb]; clear hb))))
    refine k_loop (S71 v) (fun x => x.1 ≤ 8 ∧ x.2 = 1 :: (List.range x.1).map fun i => UInt8.ofNat (valU v / 2 ^ (8 * (7 - i)))) (fun x => 8 - x.1) (0, [1]) (K := cfg.kill 68 5) rfl ⟨Nat.zero_le _, rfl⟩ (by kernel_rfl) ?_
    rintro ⟨i, O⟩ ⟨hi, hO⟩ k' Q' hnorm hexit hret
    simp only at hi hO
    have eS : ∀ i O, S71 v (i, O) = { fr := mkF 27 [(1, .ptr 0 0), (3, .sl true (O.map byteRow)), (9, .int .i64 i)], own := [3], hp := [.cells 74 [] [.int .i64 v, .bool true]], al := [], nb := 0 } := fun _ _ => rfl
    have hOl : O.length = i + 1 := by rw [hO]; simp
    rw [eS]
    simp only [eS, mkF, List.foldl, st0, List.set]
    by_cases hlt : i < 8
    · have hb : (O.length + 1) * 1 ≤ strMax := by unfold strMax; omega
      have h1 := shr_u64 (u := valU v) (show i ≤ 7 by omega)
      have er : O.map byteRow ++ [[.int .u8 ((valU v / 2 ^ (8 * (7 - i)) % 256 : Nat) : Int)]] = (O ++ [UInt8.ofNat (valU v / 2 ^ (8 * (7 - i)))]).map byteRow := by
        rw [List.map_append, List.map_cons, List.map_nil, row_of]
      have he : emptyV (.sl true (O.map byteRow)) = false := by rw [hO]; rfl
      repeat' (first | simp (maxSteps := 10000000) (disch := omega) only [go_sem, Nat.reduceAdd, Nat.reduceSub, Nat.reduceMul, Nat.reduceLT, Nat.reduceLeDiff, Nat.reduceEqDiff, Nat.reduceBEq, Nat.reduceBNe, reduceCtorEq, Int.reduceBNe, Int.reduceBEq, au, lst, if_pos, if_neg, wrap_u64, h1, wrap8, appendM, emptyM, he, hb, fit_byte, Bool.not_or_self, er] | simp (disch := (simp only [lens]; omega)) only [str_add, if_pos, if_neg] | ((with_reducible first | refine WC_split ?_ ?_ | refine WS_split ?_ ?_ | refine WD_split ?_ ?_) <;> intro hc <;> (try simp only [hc]) <;> (try simp only [bools] at hc) <;> (try (have hb : @Eq Bool _ _ := hc; simp only [hb]; clear hb))))
      refine hnorm (i + 1, O ++ [UInt8.ofNat (valU v / 2 ^ (8 * (7 - i)))]) _ ⟨by simp only; omega, by simp only; rw [hO, List.range_succ, List.map_append]; rfl⟩ (by simp only; omega) ?_
      rw [eS]
      kernel_rfl
    · have c1 := call_89 O (by omega)
      clear hnorm hret
      repeat' (first | simp (maxSteps := 10000000) (disch := omega) only [go_sem, Nat.reduceAdd, Nat.reduceSub, Nat.reduceMul, Nat.reduceLT, Nat.reduceLeDiff, Nat.reduceEqDiff, Nat.reduceBEq, Nat.reduceBNe, reduceCtorEq, Int.reduceBNe, Int.reduceBEq, au, lst, if_pos, if_neg] | simp (disch := (simp only [lens]; omega)) only [str_add, if_pos, if_neg] | ((with_reducible first | refine WC_split ?_ ?_ | refine WS_split ?_ ?_ | refine WD_split ?_ ?_) <;> intro hc <;> (try simp only [hc]) <;> (try simp only [bools] at hc) <;> (try (have hb : @Eq Bool _ _ := hc; simp only [hb]; clear hb))))
      refine hexit _ _ ?_
      repeat' (first | simp (maxSteps := 10000000) (disch := omega) only [go_sem, Nat.reduceAdd, Nat.reduceSub, Nat.reduceMul, Nat.reduceLT, Nat.reduceLeDiff, Nat.reduceEqDiff, Nat.reduceBEq, Nat.reduceBNe, reduceCtorEq, Int.reduceBNe, Int.reduceBEq, au, lst, if_pos, if_neg, mapM_byte, c1] | simp (disch := (simp only [lens]; omega)) only [str_add, if_pos, if_neg] | ((with_reducible first | refine WC_split ?_ ?_ | refine WS_split ?_ ?_ | refine WD_split ?_ ?_) <;> intro hc <;> (try simp only [hc]) <;> (try simp only [bools] at hc) <;> (try (have hb : @Eq Bool _ _ := hc; simp only [hb]; clear hb))))
      refine ret1n (fun _ => ex_ret) rfl rfl rfl ⟨?_, rfl, rfl⟩
      rw [hO, show i = 8 by omega]
      rfl
end Go.Proofs.Ythikboobkmfgfaa
