/- What a mender hears: the program's answer. -/
import Derived.Test.YthikboobkmfgfaaM11
set_option linter.all false
set_option maxRecDepth 100000
namespace Go.Proofs.Ythikboobkmfgfaa
open Go Go.Abs

theorem head_two {s : St} {K : List Nat} {T : TV} {lv : Int} {L : List Int} {l : List TR} {ov : Bool} {r : List Blk} {fr : List V} {own : List Nat} (hh : s.hp = treeB T :: menB lv L l ov :: r) (hnb : s.nb = 2) (hfr : killAll s.fr K = fr)
    (hown : s.own.filter (fun t => !K.contains t) = own) (hn : topIds fr = 2) (hl : V.ltl 2 fr = true) : s.head K = { fr := fr, own := own, hp := [treeB T, menB lv L l ov], al := [], nb := 2 } := by
  subst hfr hown
  obtain ⟨f, o, h, a, n⟩ := s
  simp only at hh hnb hn hl
  subst hh hnb
  have hall : ((treeB T :: menB lv L l ov :: r).take 2).all (Blk.all fun i => Nat.blt i 2) = true := m_keep
  have hu : upTo (treeB T :: menB lv L l ov :: r) r.length 2 = 2 := by
    cases r with
    | nil => rfl
    | cons b r => rw [List.length_cons, upTo, hall]; rfl
  simp only [St.head, St.kill, St.gc, hn, hl, List.length_cons, Nat.max_self, show r.length + 1 + 1 - 2 = r.length by omega, hu, hall]
  rfl
/-- A mender's turns, when the cells are told. -/
def turnsT (T : TV) : List Int → List CR → List TR → List TR
  | k :: L, c :: C, l => turnsT T L C (if getT T k = c then l else l ++ [(k, getT T k, c)])
  | _, _, l => l
def S47 (T : TV) (lv : Int) (L : List Int) (C : List CR) (x : Nat × List TR) : St := { fr := mkF 50 [(0, .ptr 1 0), (1, .sl true (C.map crow)), (14, .sl true (L.map irow)), (15, .int .i64 L.length), (16, .int .i64 x.1)], own := [], hp := [treeB T, menB lv L x.2 true], al := [], nb := 2 }
set_option maxHeartbeats 16000000 in
theorem call_64 {T : TV} (h : T.Ok) {lv : Int} {L : List Int} {l : List TR} {ov : Bool} {C : List CR} (hC : C.length = L.length) (hlen : L.length ≤ 10000) (hl : l.length ≤ 10000) :
    (Lim cfg).call 64 [.ptr 1 0, .sl true (C.map crow)] [treeB T, menB lv L l ov] = some (.tup [], false, [treeB T, menB lv L (turnsT T L C l) true]) := by
  refine call_eq fn_64 rfl ?_
  rw [k_start]
  simp only [Try.f64, st0, Nat.zero_add]
  repeat' (first | simp (maxSteps := 10000000) (disch := omega) only [go_sem, Nat.reduceAdd, Nat.reduceSub, Nat.reduceMul, Nat.reduceLT, Nat.reduceLeDiff, Nat.reduceEqDiff, Nat.reduceBEq, Nat.reduceBNe, reduceCtorEq, Int.reduceBNe, Int.reduceBEq, au, lst, if_pos, if_neg] | simp (disch := (simp only [lens]; omega)) only [str_add, if_pos, if_neg] | ((with_reducible first | refine WC_split ?_ ?_ | refine WS_split ?_ ?_ | refine WD_split ?_ ?_) <;> intro hc <;> (try simp only [hc]) <;> (try simp only [bools] at hc) <;> (try (have hb : @Eq Bool _ _ := hc; simp only [hb]; clear hb))))
  refine k_loop (S47 T lv L C) (fun x => x.1 ≤ L.length ∧ x.2.length ≤ 10000 + x.1 ∧ turnsT T (L.drop x.1) (C.drop x.1) x.2 = turnsT T L C l) (fun x => L.length - x.1) (0, l) (K := cfg.kill 64 2) rfl ⟨Nat.zero_le _, by simp only; omega, rfl⟩
    (head_two rfl rfl (by kernel_rfl) (by kernel_rfl) (by kernel_rfl) (by kernel_rfl)) ?_
  rintro ⟨i, O⟩ ⟨hi, hOl, hO⟩ k' Q' hnorm hexit hret
  simp only at hi hOl hO
  have eS : ∀ i O, S47 T lv L C (i, O) = { fr := mkF 50 [(0, .ptr 1 0), (1, .sl true (C.map crow)), (14, .sl true (L.map irow)), (15, .int .i64 L.length), (16, .int .i64 i)], own := [], hp := [treeB T, menB lv L O true], al := [], nb := 2 } := fun _ _ => rfl
  rw [eS]
  simp only [eS, mkF, List.foldl, st0, List.set]
  by_cases hlt : i < L.length
  · have hltC : i < C.length := by omega
    rw [List.drop_eq_getElem_cons hlt, List.drop_eq_getElem_cons hltC, turnsT] at hO
    have c1 := call_72 h L[i]
    generalize getT T L[i] = c at c1 hO
    have hb : (O.length + 1) * 40 ≤ strMax := by unfold strMax; omega
    have ef : crow c = [.int .i64 c.1, .bool c.2] := rfl
    by_cases he : c = C[i]
    · rw [if_pos he] at hO
      have e1 : c.1 = C[i].1 := by rw [he]
      have e2 : c.2 = C[i].2 := by rw [he]
      have e3 : (C[i].1 == C[i].1 && C[i].2 == C[i].2) = true := by simp
      repeat' (first | simp (maxSteps := 10000000) (disch := omega) only [go_sem, Nat.reduceAdd, Nat.reduceSub, Nat.reduceMul, Nat.reduceLT, Nat.reduceLeDiff, Nat.reduceEqDiff, Nat.reduceBEq, Nat.reduceBNe, reduceCtorEq, Int.reduceBNe, Int.reduceBEq, au, lst, if_pos, if_neg, irow] | simp (disch := (simp only [lens]; omega)) only [str_add, if_pos, if_neg] | ((with_reducible first | refine WC_split ?_ ?_ | refine WS_split ?_ ?_ | refine WD_split ?_ ?_) <;> intro hc <;> (try simp only [hc]) <;> (try simp only [bools] at hc) <;> (try (have hb : @Eq Bool _ _ := hc; simp only [hb]; clear hb))))
      rw [callHeap_at (R := [0]) c1 (hR := t_reach2) (hc := t_closed2) (hs := t_sub2)]
      repeat' (first | simp (maxSteps := 10000000) (disch := omega) only [go_sem, Nat.reduceAdd, Nat.reduceSub, Nat.reduceMul, Nat.reduceLT, Nat.reduceLeDiff, Nat.reduceEqDiff, Nat.reduceBEq, Nat.reduceBNe, reduceCtorEq, Int.reduceBNe, Int.reduceBEq, au, lst, if_pos, if_neg, treeC_ren, ef, crow, e1, e2, e3] | simp (disch := (simp only [lens]; omega)) only [str_add, if_pos, if_neg] | ((with_reducible first | refine WC_split ?_ ?_ | refine WS_split ?_ ?_ | refine WD_split ?_ ?_) <;> intro hc <;> (try simp only [hc]) <;> (try simp only [bools] at hc) <;> (try (have hb : @Eq Bool _ _ := hc; simp only [hb]; clear hb))))
      refine hnorm (i + 1, O) _ ⟨by simp only; omega, by simp only; omega, hO⟩ (by simp only; omega) ?_
      rw [eS]
      exact head_two rfl rfl (by kernel_rfl) (by kernel_rfl) (by kernel_rfl) (by kernel_rfl)
    · rw [if_neg he] at hO
      have e3 : (c.1 == C[i].1 && c.2 == C[i].2) = false := by rw [eq_cell, decide_eq_false he]
      have er : O.map trow ++ [[.int .i64 L[i], .int .i64 c.1, .bool c.2, .int .i64 C[i].1, .bool C[i].2]] = (O ++ [(L[i], c, C[i])]).map trow := by rw [List.map_append]; rfl
      repeat' (first | simp (maxSteps := 10000000) (disch := omega) only [go_sem, Nat.reduceAdd, Nat.reduceSub, Nat.reduceMul, Nat.reduceLT, Nat.reduceLeDiff, Nat.reduceEqDiff, Nat.reduceBEq, Nat.reduceBNe, reduceCtorEq, Int.reduceBNe, Int.reduceBEq, au, lst, if_pos, if_neg, irow] | simp (disch := (simp only [lens]; omega)) only [str_add, if_pos, if_neg] | ((with_reducible first | refine WC_split ?_ ?_ | refine WS_split ?_ ?_ | refine WD_split ?_ ?_) <;> intro hc <;> (try simp only [hc]) <;> (try simp only [bools] at hc) <;> (try (have hb : @Eq Bool _ _ := hc; simp only [hb]; clear hb))))
      rw [callHeap_at (R := [0]) c1 (hR := t_reach2) (hc := t_closed2) (hs := t_sub2)]
      repeat' (first | simp (maxSteps := 10000000) (disch := omega) only [go_sem, Nat.reduceAdd, Nat.reduceSub, Nat.reduceMul, Nat.reduceLT, Nat.reduceLeDiff, Nat.reduceEqDiff, Nat.reduceBEq, Nat.reduceBNe, reduceCtorEq, Int.reduceBNe, Int.reduceBEq, au, lst, if_pos, if_neg, treeC_ren, ef, crow, e3, hb, fit_trow, head_trow, head_trow', er] | simp (disch := (simp only [lens]; omega)) only [str_add, if_pos, if_neg] | ((with_reducible first | refine WC_split ?_ ?_ | refine WS_split ?_ ?_ | refine WD_split ?_ ?_) <;> intro hc <;> (try simp only [hc]) <;> (try simp only [bools] at hc) <;> (try (have hb : @Eq Bool _ _ := hc; simp only [hb]; clear hb))))
      refine hnorm (i + 1, O ++ [(L[i], c, C[i])]) _ ⟨by simp only; omega, by simp only [List.length_append, List.length_singleton]; omega, hO⟩ (by simp only; omega) ?_
      rw [eS]
      exact head_two rfl rfl (by kernel_rfl) (by kernel_rfl) (by kernel_rfl) (by kernel_rfl)
  · have hO' : O = turnsT T L C l := by rw [← hO, List.drop_of_length_le (by omega), List.drop_of_length_le (by omega)]; rfl
    clear hnorm hret
    repeat' (first | simp (maxSteps := 10000000) (disch := omega) only [go_sem, Nat.reduceAdd, Nat.reduceSub, Nat.reduceMul, Nat.reduceLT, Nat.reduceLeDiff, Nat.reduceEqDiff, Nat.reduceBEq, Nat.reduceBNe, reduceCtorEq, Int.reduceBNe, Int.reduceBEq, au, lst, if_pos, if_neg] | simp (disch := (simp only [lens]; omega)) only [str_add, if_pos, if_neg] | ((with_reducible first | refine WC_split ?_ ?_ | refine WS_split ?_ ?_ | refine WD_split ?_ ?_) <;> intro hc <;> (try simp only [hc]) <;> (try simp only [bools] at hc) <;> (try (have hb : @Eq Bool _ _ := hc; simp only [hb]; clear hb))))
    refine hexit _ _ ?_
    repeat' (first | simp (maxSteps := 10000000) (disch := omega) only [go_sem, Nat.reduceAdd, Nat.reduceSub, Nat.reduceMul, Nat.reduceLT, Nat.reduceLeDiff, Nat.reduceEqDiff, Nat.reduceBEq, Nat.reduceBNe, reduceCtorEq, Int.reduceBNe, Int.reduceBEq, au, lst, if_pos, if_neg] | simp (disch := (simp only [lens]; omega)) only [str_add, if_pos, if_neg] | ((with_reducible first | refine WC_split ?_ ?_ | refine WS_split ?_ ?_ | refine WD_split ?_ ?_) <;> intro hc <;> (try simp only [hc]) <;> (try simp only [bools] at hc) <;> (try (have hb : @Eq Bool _ _ := hc; simp only [hb]; clear hb))))
    refine ret0 (hp' := [treeB T, menB lv L (turnsT T L C l) true]) (fun _ => ex_normal) ?_ ⟨rfl, rfl, rfl⟩
    rw [← hO']
    show (if (V.alll (fun i => Nat.blt i 2) (treeC T) && (true && true)) = true then _ else _) = _
    rw [treeC_all]; rfl
theorem kids_len {T : TV} (h : T.Ok) {lv : Int} (h1 : 0 ≤ lv) (h2 : lv ≤ 2) : ∀ {L : List Int}, (∀ n ∈ L, 0 ≤ n ∧ n < sizeZ lv) → (kidsT T lv L).length = 16 * L.length
  | [], _ => rfl
  | x :: L, hL => by
    have hll := lvl_len h h1 h2
    obtain ⟨a, b⟩ := hL x (by simp)
    have ih := kids_len h h1 h2 (L := L) fun n hn => hL n (by simp [hn])
    rw [kidsT, List.flatMap_cons, List.length_append, row16_len (by omega)]
    rw [kidsT] at ih
    rw [ih, List.length_cons]; omega
/-- What a mender asks for next. -/
def nextF (L : List Int) (mine K : List Nat) : Nat → List Int
  | 0 => []
  | i + 1 => if K[i]? = mine[i]? then nextF L mine K i else nextF L mine K i ++ [16 * L.getD (i / 16) 0 + ((i % 16 : Nat) : Int)]
def nextT (L : List Int) (mine K : List Nat) : List Int := nextF L mine K K.length
theorem nextF_len (L : List Int) (mine K : List Nat) : ∀ i, (nextF L mine K i).length ≤ i
  | 0 => Nat.le_refl _
  | i + 1 => by
    have := nextF_len L mine K i
    rw [nextF]
    split
    · omega
    · rw [List.length_append, List.length_singleton]; omega
end Go.Proofs.Ythikboobkmfgfaa
