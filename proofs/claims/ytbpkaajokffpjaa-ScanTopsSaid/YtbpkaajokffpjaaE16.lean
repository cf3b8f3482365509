/- The program's groups. -/
import Derived.Test.YtbpkaajokffpjaaE15
set_option linter.all false
set_option maxRecDepth 100000
namespace Go.Proofs.Ytbpkaajokffpjaa
open Go Go.Abs

theorem consRow_flat (w : Int) (p : PR) : ∀ (r : List PR) (S : List (List PR)), (r = [] ↔ S = []) → (consRow w p r S).flatten = p :: S.flatten
  | [], [], _ => rfl
  | [], _ :: _, h => by simp at h
  | _ :: _, [], h => by simp at h
  | q :: r, R :: Rs, _ => by simp only [consRow]; split <;> simp
theorem rowsG_flat (w : Int) : ∀ M : List PR, (rowsG w M).flatten = M
  | [] => rfl
  | p :: r => by
    have ih := rowsG_flat w r
    show (consRow w p r (rowsG w r)).flatten = _
    rw [consRow_flat, ih]
    constructor
    · intro h; subst h; rfl
    · intro h; rw [h] at ih; exact ih.symm
theorem rowsG_nonempty (w : Int) : ∀ (M R : List PR), R ∈ rowsG w M → R ≠ []
  | [], R, h => by simp [rowsG] at h
  | p :: r, R, h => by
    have ih := rowsG_nonempty w r
    have h : R ∈ consRow w p r (rowsG w r) := h
    unfold consRow at h
    split at h
    · rename_i q r' R' Rs e
      rw [e] at ih
      split at h
      · rcases List.mem_cons.1 h with rfl | h
        · simp
        · exact ih R (List.mem_cons_of_mem _ h)
      · rcases List.mem_cons.1 h with rfl | h
        · simp
        · exact ih R h
    · simp at h; subst h; simp
theorem rowsG_mem {w : Int} {M R : List PR} (h : R ∈ rowsG w M) : ∀ p ∈ R, p ∈ M := fun p hp => by
  have : p ∈ (rowsG w M).flatten := List.mem_flatten.2 ⟨R, h, hp⟩
  rwa [rowsG_flat] at this
theorem rowsG_len {w : Int} {M R : List PR} (h : R ∈ rowsG w M) : R.length ≤ M.length := by
  have : R.length ≤ (rowsG w M).flatten.length := by
    obtain ⟨a, b, hab⟩ := List.append_of_mem h
    rw [hab]; simp; omega
  rwa [rowsG_flat] at this
theorem rowsG_count (w : Int) (M : List PR) : (rowsG w M).length ≤ M.length := by
  have key : ∀ S : List (List PR), (∀ R ∈ S, R ≠ []) → S.length ≤ S.flatten.length := fun S => by
    induction S with
    | nil => intro _; simp
    | cons R S ih =>
      intro h
      have h1 := ih fun R hR => h R (by simp [hR])
      have h2 : 0 < R.length := List.length_pos_iff.2 (h R (by simp))
      simp only [List.length_cons, List.flatten_cons, List.length_append]
      omega
  have := key (rowsG w M) (rowsG_nonempty w M)
  rwa [rowsG_flat] at this
def growR (w : Int) : List PR → List V
  | [] => []
  | p :: r => grow (p.1 / w * w) (p :: r) p.2
theorem fit_growR (w : Int) (l : List (List PR)) (h : ∀ R ∈ l, R ≠ []) : rowsFit 5 (l.map (growR w)) = true := by
  match l with
  | [] => rfl
  | [] :: _ => exact absurd rfl (h [] (by simp))
  | (_ :: _) :: _ => rfl
theorem head_growR (w : Int) (l : List (List PR)) (r : List (List V)) (h : headByte r = false) : headByte (l.map (growR w) ++ r) = false := by
  match l with
  | [] => exact h
  | [] :: _ => rfl
  | (_ :: _) :: _ => rfl
def groupsV (l : List PR) (on : List SR) (w : Int) : V := if (chk l && setS on && decide (1 ≤ w ∧ w ≤ 4096)) = true then .tup [.sl true ((rowsG w (clip l on)).map (growR w)), .int .i64 0] else .tup [.sl true [], .int .i64 1]
def T64 (w : Int) (S : List (List PR)) (i : Nat) : St := { fr := mkF 57 [(5, .ptr 0 0), (9, .sl true ((S.take i).map (growR w))), (36, .sl true (S.map rrow)), (37, .int .i64 S.length), (38, .int .i64 i)], own := [9], hp := [widC w], al := [], nb := 0 }
set_option maxHeartbeats 4000000 in
theorem call_64 (l : List PR) (on : List SR) (w : Int) (hlen : l.length ≤ 100000) (hon : on.length ≤ 100000) :
    (Lim cfg).call 64 [.sl true (l.map prow), .sl true (on.map srow), .int .i64 w] [] = some (groupsV l on w, false, []) := by
  have c1 := call_106 l hlen
  have c2 := call_143 on hon
  have bad : ∀ b1 b2 : Bool, chk l = b1 → setS on = b2 → (b1 && b2 && decide (1 ≤ w ∧ w ≤ 4096)) = false → groupsV l on w = .tup [.sl true [], .int .i64 1] := fun b1 b2 e1 e2 h => by
    rw [groupsV, e1, e2, h]; rfl
  by_cases h1 : chk l = true
  · by_cases h2 : setS on = true
    · rw [h1] at c1
      rw [h2] at c2
      by_cases h3 : w < 1
      · rw [bad _ _ h1 h2 (by simp; omega)]
        refine call_eq fn_64 rfl ?_
        rw [k_start]
        simp only [Try.f64, List.length_cons, List.length_nil, Nat.zero_add, Nat.reduceSub, Nat.reduceAdd, List.replicate, List.cons_append, List.nil_append]
        simp only [go_sem, Nat.reduceAdd, Nat.reduceSub, Nat.reduceMul, Nat.reduceLT, Nat.reduceLeDiff, Nat.reduceEqDiff, Nat.reduceBEq, Nat.reduceBNe, reduceCtorEq, Int.reduceBNe, Int.reduceBEq, blt0, c1, c2, h3]
        exact ret2 (fun _ => ex_ret) rfl rfl rfl rfl ⟨rfl, rfl, rfl⟩
      · by_cases h4 : w > 4096
        · rw [bad _ _ h1 h2 (by simp; omega)]
          refine call_eq fn_64 rfl ?_
          rw [k_start]
          simp only [Try.f64, List.length_cons, List.length_nil, Nat.zero_add, Nat.reduceSub, Nat.reduceAdd, List.replicate, List.cons_append, List.nil_append]
          simp only [go_sem, Nat.reduceAdd, Nat.reduceSub, Nat.reduceMul, Nat.reduceLT, Nat.reduceLeDiff, Nat.reduceEqDiff, Nat.reduceBEq, Nat.reduceBNe, reduceCtorEq, Int.reduceBNe, Int.reduceBEq, blt0, c1, c2, h3, h4]
          exact ret2 (fun _ => ex_ret) rfl rfl rfl rfl ⟨rfl, rfl, rfl⟩
        · have c3 := call_74 l on hlen hon
          obtain ⟨_, hv, hml⟩ := clip_rise l on
          rw [groupsV, if_pos (by simp [h1, h2]; omega)]
          rw [h1, h2] at c3
          cases hO : clip l on with
          | nil =>
            rw [hO] at c3
            simp only [clipV, clipB] at c3
            have h6 : (((0 : Nat) : Int) == 0) = true := rfl
            refine call_eq fn_64 rfl ?_
            rw [k_start]
            simp only [Try.f64, List.length_cons, List.length_nil, Nat.zero_add, Nat.reduceSub, Nat.reduceAdd, List.replicate, List.cons_append, List.nil_append]
            simp only [go_sem, Nat.reduceAdd, Nat.reduceSub, Nat.reduceMul, Nat.reduceLT, Nat.reduceLeDiff, Nat.reduceEqDiff, Nat.reduceBEq, Nat.reduceBNe, reduceCtorEq, Int.reduceBNe, Int.reduceBEq, blt0, c1, c2, h3, h4, c3, fz_cons, freezeT, h6]
            exact ret2 (fun _ => ex_ret) rfl rfl rfl rfl ⟨rfl, rfl, rfl⟩
          | cons o r =>
            rw [hO] at c3 hv hml
            simp only [clipV, clipB, prow] at c3
            have f1 : (flatP (o :: r)).length = (r.length + 1) * 2 := flatP_len _
            have f6 : (flatP (o :: r)).take ((r.length + 1) * 2) = flatP (o :: r) := flatP_take (o :: r)
            have q5 : aloneIn 2 [.cells 3 [] [.int .i64 w], Blk.cells 125 [] [V.int IntKind.i64 o.fst, V.int IntKind.i64 o.snd], Blk.cells 125 [] (flatP (o :: r))] = true := rfl
            have hcons : [V.int .i64 o.1, V.int .i64 o.2] :: List.map prow r = List.map prow (o :: r) := rfl
            have hml0 : 0 < (o :: r).length := by simp
            generalize hM : o :: r = M at hcons hml0 hv hml ⊢
            have h6 : (((M.length : Nat) : Int) == 0) = false := beq_eq_false_iff_ne.2 (by omega)
            have c4 := call_144 w M (by omega) (by omega) (by omega) (fun p hp => by have := hv p hp; omega)
            refine call_eq fn_64 rfl ?_
            rw [k_start]
            simp only [Try.f64, List.length_cons, List.length_nil, Nat.zero_add, Nat.reduceSub, Nat.reduceAdd, List.replicate, List.cons_append, List.nil_append]
            simp only [go_sem, Nat.reduceAdd, Nat.reduceSub, Nat.reduceMul, Nat.reduceLT, Nat.reduceLeDiff, Nat.reduceEqDiff, Nat.reduceBEq, Nat.reduceBNe, reduceCtorEq, Int.reduceBNe, Int.reduceBEq, blt0, c1, c2, h3, h4, c3, fz_cons, freezeT, f1, f6, flatP_rows, flatP_take2, flatP_drop2, Nat.le_refl, flatP_all, flatP_ren, flatP_lt, q5, St.lose, List.map_nil, List.map_cons (f := V.drop1 _), dl_any, dl_sl, dl_ms, dl_ptr, dl_int, dl_bool, dl_pc, hcons, h6]
            rw [callHeap_at (R := [0]) c4]
            simp only [widC]
            have hne := rowsG_nonempty w M
            have hmem : ∀ R ∈ rowsG w M, ∀ p ∈ R, p ∈ M := fun R hR => rowsG_mem hR
            have hln : ∀ R ∈ rowsG w M, R.length ≤ M.length := fun R hR => rowsG_len hR
            have hct := rowsG_count w M
            generalize rowsG w M = S at hne hmem hln hct ⊢
            simp only [go_sem, Nat.reduceAdd, Nat.reduceSub, Nat.reduceMul, Nat.reduceLT, Nat.reduceLeDiff, Nat.reduceEqDiff, Nat.reduceBEq, Nat.reduceBNe, reduceCtorEq, Int.reduceBNe, Int.reduceBEq, blt0]
            refine k_loop (T64 w S) (fun i => i ≤ S.length) (fun i => S.length - i) 0 (K := cfg.kill 64 8) rfl (Nat.zero_le _) (by kernel_rfl) ?_
            intro i hi k' Q' hnorm hexit hret
            simp only [T64, mkF, List.foldl, List.replicate, List.set, List.cons_append, List.nil_append]
            simp only [go_sem, Nat.reduceAdd, Nat.reduceSub, Nat.reduceMul, Nat.reduceLT, Nat.reduceLeDiff, Nat.reduceEqDiff, Nat.reduceBEq, Nat.reduceBNe, reduceCtorEq, Int.reduceBNe, Int.reduceBEq, blt0]
            by_cases hlt : i < S.length
            · have g1 : (i : Int) < (S.length : Int) := by omega
              have g2 : ¬ ((i : Int) < 0) := by omega
              have hRi := List.getElem_mem hlt
              obtain ⟨p, q, hR⟩ : ∃ p q, S[i] = p :: q := by
                cases h : S[i] with
                | nil => exact absurd h (hne _ hRi)
                | cons p q => exact ⟨p, q, rfl⟩
              have hx : (S.map rrow)[i]? = some [.sl true ((p :: q).map prow)] := by simp [hlt, hR, rrow]
              have hpv : ∀ x ∈ p :: q, x ∈ M := fun x hx => hmem _ hRi x (by rw [hR]; exact hx)
              have hpl : (p :: q).length ≤ M.length := by rw [← hR]; exact hln _ hRi
              have hp := hv p (hpv p (by simp))
              have c5 := call_146 (p.1 / w * w) p q (by omega) (fun x hx => ⟨(hv x (hpv x hx)).2.2.1, (hv x (hpv x hx)).2.2.2⟩)
              have hw0 : ¬ w = 0 := by omega
              have e1 : p.1.tdiv w = p.1 / w := Int.tdiv_eq_ediv_of_nonneg (by omega)
              have b1 := Int.ediv_le_self w (a := p.1) (by omega)
              have b3 := Int.ediv_nonneg (a := p.1) (b := w) (by omega) (by omega)
              have b5 : p.1 / w * w ≤ p.1 := Int.ediv_mul_le p.1 (by omega)
              have b6 : 0 ≤ p.1 / w * w := Int.mul_nonneg b3 (by omega)
              have e3 : IntKind.i64.wrap (p.1 / w) = p.1 / w := wrap_i64 (by omega) (by omega)
              have e4 : IntKind.i64.wrap (p.1 / w * w) = p.1 / w * w := wrap_i64 (by omega) (by omega)
              have hz : ¬ ((0 : Int) < 0) := by omega
              have hx0 : ((p :: q).map prow)[0]? = some [.int .i64 p.1, .int .i64 p.2] := rfl
              have hb : ((S.take i).length + 1) * 40 ≤ strMax := by unfold strMax; rw [List.length_take]; omega
              have hfit : rowsFit 5 ((S.take i).map (growR w)) = true := fit_growR w _ fun R hR => hne R (List.mem_of_mem_take hR)
              have hhd : ∀ r, headByte r = false → headByte ((S.take i).map (growR w) ++ r) = false := fun r h => head_growR w _ r h
              generalize hX : p :: q = X at hx hx0 c5 hpl
              simp only [grow] at c5
              have hh : headByte ((S.take i).map (growR w) ++ [[.int .i64 (p.1 / w * w), .int .i64 X.length, .int .i64 (vsum X), .int .i64 (vlo p.2 X), .int .i64 (vhi p.2 X)]]) = false := hhd _ rfl
              have hh0 : headByte ((S.take i).map (growR w)) = false := by have := hhd [] rfl; rwa [List.append_nil] at this
              simp only [go_sem, Nat.reduceAdd, Nat.reduceSub, Nat.reduceMul, Nat.reduceLT, Nat.reduceLeDiff, Nat.reduceEqDiff, Nat.reduceBEq, Nat.reduceBNe, reduceCtorEq, Int.reduceBNe, Int.reduceBEq, blt0, g1, g2, hx, Int.toNat_natCast, hz, Int.toNat_zero, hx0, hw0, e1, e3, e4, c5, hb, hfit, widC, hh, hh0]
              rw [wrap_i64 (by omega) (by omega)]
              refine hnorm (i + 1) _ (by omega) (by omega) ?_
              have eT : T64 w S (i + 1) = { fr := mkF 57 [(5, .ptr 0 0), (9, .sl true ((S.take i).map (growR w) ++ [[.int .i64 (p.1 / w * w), .int .i64 X.length, .int .i64 (vsum X), .int .i64 (vlo p.2 X), .int .i64 (vhi p.2 X)]])), (36, .sl true (S.map rrow)), (37, .int .i64 S.length), (38, .int .i64 ((i + 1 : Nat) : Int))], own := [9], hp := [widC w], al := [], nb := 0 } := by
                rw [T64, List.take_succ_eq_append_getElem hlt, List.map_append, hR, ← hX]; rfl
              exact Eq.trans (by kernel_rfl) eT.symm
            · have g1 : ¬ (i : Int) < (S.length : Int) := by omega
              simp only [go_sem, Nat.reduceAdd, Nat.reduceSub, Nat.reduceMul, Nat.reduceLT, Nat.reduceLeDiff, Nat.reduceEqDiff, Nat.reduceBEq, Nat.reduceBNe, reduceCtorEq, Int.reduceBNe, Int.reduceBEq, blt0, g1]
              refine hexit 0 _ ?_
              simp only [go_sem, Nat.reduceAdd, Nat.reduceSub, Nat.reduceMul, Nat.reduceLT, Nat.reduceLeDiff, Nat.reduceEqDiff, Nat.reduceBEq, Nat.reduceBNe, reduceCtorEq, Int.reduceBNe, Int.reduceBEq, blt0]
              refine ret2 (fun _ => ex_ret) rfl rfl rfl rfl ⟨?_, rfl, rfl⟩
              show V.tup [V.sl true _, _] = _
              rw [List.take_of_length_le (by omega)]
              rfl
    · rw [Bool.not_eq_true] at h2
      rw [bad _ _ h1 h2 rfl]
      rw [h1] at c1
      rw [h2] at c2
      refine call_eq fn_64 rfl ?_
      rw [k_start]
      simp only [Try.f64, List.length_cons, List.length_nil, Nat.zero_add, Nat.reduceSub, Nat.reduceAdd, List.replicate, List.cons_append, List.nil_append]
      simp only [go_sem, Nat.reduceAdd, Nat.reduceSub, Nat.reduceMul, Nat.reduceLT, Nat.reduceLeDiff, Nat.reduceEqDiff, Nat.reduceBEq, Nat.reduceBNe, reduceCtorEq, Int.reduceBNe, Int.reduceBEq, blt0, c1, c2]
      exact ret2 (fun _ => ex_ret) rfl rfl rfl rfl ⟨rfl, rfl, rfl⟩
  · rw [Bool.not_eq_true] at h1
    rw [bad _ _ h1 rfl rfl]
    rw [h1] at c1
    refine call_eq fn_64 rfl ?_
    rw [k_start]
    simp only [Try.f64, List.length_cons, List.length_nil, Nat.zero_add, Nat.reduceSub, Nat.reduceAdd, List.replicate, List.cons_append, List.nil_append]
    simp only [go_sem, Nat.reduceAdd, Nat.reduceSub, Nat.reduceMul, Nat.reduceLT, Nat.reduceLeDiff, Nat.reduceEqDiff, Nat.reduceBEq, Nat.reduceBNe, reduceCtorEq, Int.reduceBNe, Int.reduceBEq, blt0, c1]
    exact ret2 (fun _ => ex_ret) rfl rfl rfl rfl ⟨rfl, rfl, rfl⟩
end Go.Proofs.Ytbpkaajokffpjaa
