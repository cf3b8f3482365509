/- Arguments of the laws of views, opened. -/
import Derived.Test.YtlfjmmcodkdlfaaE1
import Derived.Test.YtlfjmmcodkdlfaaSrt
import Derived.Test.YtlfjmmcodkdlfaaL5
set_option linter.all false
namespace Go.Proofs.Ytlfjmmcodkdlfaa
open Go Go.Abs Go.ChangeShapes Go.WideShapes Go.RowKit

/-- A type of structs, numbers, bools, strings and slices. -/
def flatTy (cfg : Cfg) : Nat → TypeId → Bool
  | 0, _ => false
  | d + 1, t =>
    match cfg.ty t with
    | none => false
    | some ti => match ti.k with
      | .struct _ fs => contig cfg 0 fs ti.size && fs.all fun f => flatTy cfg d f.2
      | .array _ _ => false
      | _ => true
theorem alll_split {p : Nat → Bool} {n : Nat} {cs : List V} (h1 : V.alll p (cs.take n) = true) (h2 : V.alll p (cs.drop n) = true) : V.alll p cs = true := by
  rw [alll_iff] at h1 h2 ⊢
  intro x hx
  rw [← List.take_append_drop n cs] at hx
  rcases List.mem_append.1 hx with h | h
  · exact h1 x h
  · exact h2 x h
theorem contig_all {p : Nat → Bool} {n : Nat} {cs : List V} (hl : cs.length = n) : ∀ {fs : List (Nat × TypeId)} {i : Nat}, contig cfg i fs n = true → (∀ f ∈ fs, ∀ tf, cfg.ty f.2 = some tf → V.alll p ((cs.drop f.1).take tf.size) = true) → V.alll p (cs.drop i) = true
  | [], i, hc, _ => by
    simp only [contig, beq_iff_eq] at hc
    rw [List.drop_of_length_le (by omega)]; rfl
  | (o, t) :: r, i, hc, h => by
    simp only [contig, Bool.and_eq_true, beq_iff_eq] at hc
    obtain ⟨rfl, hc⟩ := hc
    cases ht : cfg.ty t with
    | none => rw [ht] at hc; simp at hc
    | some ti =>
      rw [ht] at hc
      refine alll_split (n := ti.size) (h (o, t) (by simp) ti ht) ?_
      rw [List.drop_drop]
      exact contig_all hl hc fun f hf tf e => h f (List.mem_cons_of_mem _ hf) tf e
theorem flat_all {p : Nat → Bool} : ∀ (d : Nat) {t : TypeId} {cs : List V}, flatTy cfg d t = true → Typed cfg t cs → V.alll p cs = true
  | 0, _, _, h, _ => by simp [flatTy] at h
  | d + 1, t, cs, h, k => by
    cases k with
    | bool _ => rfl
    | int _ _ _ => rfl
    | str _ _ => rfl
    | slice _ _ _ _ => rfl
    | struct ht hk hl hf =>
      simp only [flatTy, ht, hk, Bool.and_eq_true, List.all_eq_true] at h
      have := contig_all (p := p) hl h.1 fun f hm tf e => flat_all d (h.2 f hm) (hf f hm tf e)
      simpa using this
    | array ht hk _ _ _ => simp [flatTy, ht, hk] at h
theorem row_span {row : List V} (h : Typed cfg 24 row) : ∃ p : SR, row = srow p ∧ True := by
  obtain ⟨hl, hf⟩ := h.st_inv ty_24 rfl
  match row, hl with
  | [a, b], _ =>
    obtain ⟨n, h1, _⟩ := (hf (0, 3) (by simp) _ ty_3).int_inv ty_3 rfl
    obtain ⟨m, h2, _⟩ := (hf (1, 3) (by simp) _ ty_3).int_inv ty_3 rfl
    simp at h1 h2
    subst h1; subst h2
    exact ⟨(n, m), rfl, trivial⟩
theorem arg_spans {a : V} (h : Arg cfg 35 a) : ∃ l : List SR, a = .sl true (l.map srow) ∧ l.length * 16 ≤ 140737488351232 := by
  obtain ⟨xs, te, rfl, e, hb, hr⟩ := (h.plain rfl).sl_inv ty_35 rfl
  obtain ⟨l, rfl, _⟩ := rows_map fun row hm => row_span (hr row hm)
  rw [ty_24] at e
  cases e
  exact ⟨l, rfl, by simpa using hb⟩
theorem arg_note {a : V} (h : Arg cfg 34 a) : ∃ nc : List V, a = .agg nc ∧ nc.length = 23 ∧ V.alll (fun i => Nat.blt i 0) nc = true := by
  obtain ⟨row, rfl, hh⟩ := h.agg rfl
  exact ⟨row, rfl, (hh.st_inv ty_34 rfl).1, flat_all 6 (by kernel_rfl) hh⟩
theorem arg_chart {a : V} (h : Arg cfg 32 a) : ∃ (x y : Int) (rows : List (List V)), a = .agg [.int .i64 x, .int .i64 y, .sl true rows] := by
  obtain ⟨row, rfl, hh⟩ := h.agg rfl
  obtain ⟨hl, hf⟩ := hh.st_inv ty_32 rfl
  match row, hl with
  | [a, b, c], _ =>
    obtain ⟨n, h1, _⟩ := (hf (0, 3) (by simp) _ ty_3).int_inv ty_3 rfl
    obtain ⟨m, h2, _⟩ := (hf (1, 3) (by simp) _ ty_3).int_inv ty_3 rfl
    obtain ⟨xs, te, h3, _⟩ := Typed.sl_inv ty_30 rfl (show Typed cfg 30 [c] from hf (2, 30) (by simp) _ ty_30)
    simp at h1 h2
    subst h1; subst h2; subst h3
    exact ⟨n, m, xs, rfl⟩
theorem facts_and {a b : Bool} (h : a = true) (k : b = true) : (a && b) = true := by rw [h, k]; rfl
end Go.Proofs.Ytlfjmmcodkdlfaa
