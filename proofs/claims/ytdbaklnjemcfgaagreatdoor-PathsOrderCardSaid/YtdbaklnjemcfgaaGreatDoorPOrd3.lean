/- A row's text, and the law, on plain data. Conditions: edges are numbers of a machine word. -/
import Derived.Test.YtdbaklnjemcfgaaGreatDoorPOrd2
namespace Go.Proofs.YtdbaklnjemcfgaaGreatDoor.D
open Go.RowKit Go.Proofs.YtdbaklnjemcfgaaGreatDoor.Mem
set_option linter.unusedVariables false
set_option linter.unusedSimpArgs false
attribute [local irreducible] wpD wpL
attribute [local go_sem] szH beq_decide bne_decide natCast_inj' ne_eq not_true_eq_false not_false_eq_true List.getD_cons_zero rowsH List.length_map rowH Int.lt_irrefl bs_mk str List.length_append List.length_cons List.length_nil
def rowT (h : Hop) : List DV := [sv (txtH h)]
theorem szT (l : List Hop) : szOk 1 (l.map rowT) = True := by
  apply eq_true
  intro r hr
  obtain ⟨x, _, rfl⟩ := List.mem_map.1 hr
  rfl
attribute [local go_sem] szT
theorem print_fn (l : List Hop) (hl : l.length ≤ 8) (hr : ∀ h ∈ l, inR h.1) : FnD Tryz.prog 7 [HS l] (sv (textL l)) := by
  have hj := join_fn (l.map txtH) [32] (by simp; omega) (by have := textL_len l hr l.length (Nat.le_refl _); rw [List.take_length] at this; unfold textL at this; omega)
  rw [show ((l.map txtH).map fun x => [sv x]) = l.map rowT by simp [List.map_map, Function.comp_def, rowT]] at hj
  refine fn1 mixed Tryz.func7 (by kernel_rfl) rfl Tryz.ntmps7 (by decide) fun s e0 => ?_
  unfold HS at e0
  repeat (first
    | refine d_assoc ?_
    | refine d_sskip ?_
    | (refine d_sreg (by kernel_rfl) fun K hK => ?_; simp only [go_sem, Nat.reduceEqDiff, reduceCtorEq, ↓reduceIte, Nat.reduceMul, Nat.reduceAdd, Nat.reduceLT, Nat.reduceLeDiff, Int.reduceLT, Int.reduceLE, Int.reduceToNat, Nat.reduceBEq, String.reduceNe, String.reduceEq, *]; (first | refine hK.go _ ?_ | refine ⟨by omega, hK.go _ ?_⟩ | refine ⟨by omega, by omega, hK.go _ ?_⟩ | refine ⟨by omega, by omega, by omega, hK.go _ ?_⟩); clear hK K)
    | (refine d_reg (by kernel_rfl) fun K hK => ?_; simp only [go_sem, Nat.reduceEqDiff, reduceCtorEq, ↓reduceIte, Nat.reduceMul, Nat.reduceAdd, Nat.reduceLT, Nat.reduceLeDiff, Int.reduceLT, Int.reduceLE, Int.reduceToNat, Nat.reduceBEq, String.reduceNe, String.reduceEq, *]; (first | refine hK.go _ ?_ | refine ⟨by omega, hK.go _ ?_⟩ | refine ⟨by omega, by omega, hK.go _ ?_⟩ | refine ⟨by omega, by omega, by omega, hK.go _ ?_⟩); clear hK K)
    | (refine d_scond true rfl (fun _ => ?_) (fun h => by cases h))
    | (refine d_scond false rfl (fun h => by cases h) (fun _ => ?_))
    | (refine d_cond true rfl (fun _ => ?_) (fun h => by cases h))
    | (refine d_cond false rfl (fun h => by cases h) (fun _ => ?_))
    | refine d_exit ?_
    | refine d_sexit ?_
    | refine d_ret ?_
    | refine d_sret ?_
    | refine d_skip ?_)
  refine d_sblock fun K hK => ?_
  refine d_loop (fun s => ∃ (i : Nat), s.env 7 = .sl (l.map rowH) ∧ s.env 8 = iv .i64 l.length ∧ s.env 9 = iv .i64 i ∧ i ≤ l.length ∧ ((i = 0 ∧ s.env 3 = .raw (.slice none 0 0)) ∨ ∃ g v, s.env 3 = .own (22, g) v ((l.take i).map rowT) ∧ s.tip (22, g) = some (v, 9))) (fun s => l.length - (match intOf? (s.env 9) with | some i => i.toNat | none => 0)) ?_ ?_
  · exact ⟨0, by simp only [go_sem, Nat.reduceEqDiff, reduceCtorEq, ↓reduceIte, Nat.reduceMul, Nat.reduceAdd, Nat.reduceLT, Nat.reduceLeDiff, Int.reduceLT, Int.reduceLE, Int.reduceToNat, Nat.reduceBEq, String.reduceNe, String.reduceEq, *], by simp only [go_sem, Nat.reduceEqDiff, reduceCtorEq, ↓reduceIte, Nat.reduceMul, Nat.reduceAdd, Nat.reduceLT, Nat.reduceLeDiff, Int.reduceLT, Int.reduceLE, Int.reduceToNat, Nat.reduceBEq, String.reduceNe, String.reduceEq, *] <;> rfl, by simp only [go_sem, Nat.reduceEqDiff, reduceCtorEq, ↓reduceIte, Nat.reduceMul, Nat.reduceAdd, Nat.reduceLT, Nat.reduceLeDiff, Int.reduceLT, Int.reduceLE, Int.reduceToNat, Nat.reduceBEq, String.reduceNe, String.reduceEq, *] <;> rfl, Nat.zero_le _, .inl ⟨rfl, by simp only [go_sem, Nat.reduceEqDiff, reduceCtorEq, ↓reduceIte, Nat.reduceMul, Nat.reduceAdd, Nat.reduceLT, Nat.reduceLeDiff, Int.reduceLT, Int.reduceLE, Int.reduceToNat, Nat.reduceBEq, String.reduceNe, String.reduceEq, *]⟩⟩
  clear e0
  rintro s1 K1 ⟨i, e7, e8, e9, hi, h3⟩ hK1
  have hw := wi i (by omega)
  by_cases h1 : i < l.length
  · have hri := hr _ (nth_mem h1)
    have hc := itoa_fn (nth l i).1 hri.1 hri.2
    have hln := Lib.itoa_length_le (nth l i).1 hri.1 hri.2
    have hN := Sec.mk (show (l.take (i + 1)).map rowT = (l.take i).map rowT ++ [rowT (nth l i)] by rw [take_nth l i h1, List.map_append]; rfl)
    have hlt : (l.take i).length ≤ 1000 := by rw [List.length_take]; omega
    clear hr hri hj
    rcases hx : nth l i with ⟨x1, x2⟩
    rw [hx] at hc hln hN
    have hln : (Lib.itoa x1).length ≤ 21 := hln
    rcases h3 with ⟨rfl, e3⟩ | ⟨g, v, e3, et⟩
    · cases x2
      · repeat (first
  | refine d_assoc ?_
  | refine d_sskip ?_
  | (refine d_sreg (by kernel_rfl) fun K hK => ?_; simp only [go_sem, Nat.reduceEqDiff, reduceCtorEq, ↓reduceIte, Nat.reduceMul, Nat.reduceAdd, Nat.reduceLT, Nat.reduceLeDiff, Int.reduceLT, Int.reduceLE, Int.reduceToNat, Nat.reduceBEq, String.reduceNe, String.reduceEq, *]; (first | refine hK.go _ ?_ | refine ⟨by omega, hK.go _ ?_⟩ | refine ⟨by omega, by omega, hK.go _ ?_⟩ | refine ⟨by omega, by omega, by omega, hK.go _ ?_⟩); clear hK K)
  | (refine d_reg (by kernel_rfl) fun K hK => ?_; simp only [go_sem, Nat.reduceEqDiff, reduceCtorEq, ↓reduceIte, Nat.reduceMul, Nat.reduceAdd, Nat.reduceLT, Nat.reduceLeDiff, Int.reduceLT, Int.reduceLE, Int.reduceToNat, Nat.reduceBEq, String.reduceNe, String.reduceEq, *]; (first | refine hK.go _ ?_ | refine ⟨by omega, hK.go _ ?_⟩ | refine ⟨by omega, by omega, hK.go _ ?_⟩ | refine ⟨by omega, by omega, by omega, hK.go _ ?_⟩); clear hK K)
  | (refine d_scond true rfl (fun _ => ?_) (fun h => by cases h))
  | (refine d_scond false rfl (fun h => by cases h) (fun _ => ?_))
  | (refine d_cond true rfl (fun _ => ?_) (fun h => by cases h))
  | (refine d_cond false rfl (fun h => by cases h) (fun _ => ?_))
  | refine d_exit ?_
  | refine d_sexit ?_
  | refine d_ret ?_
  | refine d_sret ?_
  | refine d_skip ?_)
        refine d_sblock fun K2 hK2 => ?_
        repeat (first
          | refine d_assoc ?_
          | refine d_sskip ?_
          | (refine d_sreg (by kernel_rfl) fun K hK => ?_; simp only [go_sem, Nat.reduceEqDiff, reduceCtorEq, ↓reduceIte, Nat.reduceMul, Nat.reduceAdd, Nat.reduceLT, Nat.reduceLeDiff, Int.reduceLT, Int.reduceLE, Int.reduceToNat, Nat.reduceBEq, String.reduceNe, String.reduceEq, *]; (first | refine hK.go _ ?_ | refine ⟨by omega, hK.go _ ?_⟩ | refine ⟨by omega, by omega, hK.go _ ?_⟩ | refine ⟨by omega, by omega, by omega, hK.go _ ?_⟩); clear hK K)
          | (refine d_reg (by kernel_rfl) fun K hK => ?_; simp only [go_sem, Nat.reduceEqDiff, reduceCtorEq, ↓reduceIte, Nat.reduceMul, Nat.reduceAdd, Nat.reduceLT, Nat.reduceLeDiff, Int.reduceLT, Int.reduceLE, Int.reduceToNat, Nat.reduceBEq, String.reduceNe, String.reduceEq, *]; (first | refine hK.go _ ?_ | refine ⟨by omega, hK.go _ ?_⟩ | refine ⟨by omega, by omega, hK.go _ ?_⟩ | refine ⟨by omega, by omega, by omega, hK.go _ ?_⟩); clear hK K)
          | (refine d_scond true rfl (fun _ => ?_) (fun h => by cases h))
          | (refine d_scond false rfl (fun h => by cases h) (fun _ => ?_))
          | (refine d_cond true rfl (fun _ => ?_) (fun h => by cases h))
          | (refine d_cond false rfl (fun h => by cases h) (fun _ => ?_))
          | refine d_exit ?_
          | refine d_sexit ?_
          | refine d_ret ?_
          | refine d_sret ?_
          | refine d_skip ?_)
        refine d_reg (by kernel_rfl) fun K hK => ?_
        simp only [go_sem, Nat.reduceEqDiff, reduceCtorEq, ↓reduceIte, Nat.reduceMul, Nat.reduceAdd, Nat.reduceLT, Nat.reduceLeDiff, Int.reduceLT, Int.reduceLE, Int.reduceToNat, Nat.reduceBEq, String.reduceNe, String.reduceEq, *]
        repeat (refine ⟨by omega, ?_⟩)
        refine wp_call rfl (hc) (by first | exact .inl rfl | exact .inr rfl) ?_
        simp only [go_sem, Nat.reduceEqDiff, reduceCtorEq, ↓reduceIte, Nat.reduceMul, Nat.reduceAdd, Nat.reduceLT, Nat.reduceLeDiff, Int.reduceLT, Int.reduceLE, Int.reduceToNat, Nat.reduceBEq, String.reduceNe, String.reduceEq, *]
        (first | refine hK.go _ ?_ | refine ⟨by omega, hK.go _ ?_⟩ | refine ⟨by omega, by omega, hK.go _ ?_⟩); clear hK K
        repeat (first | simp only [thenD, blockD, Nat.reduceEqDiff, reduceCtorEq, ↓reduceIte] | refine Imp.go (by assumption) _ ?_)
        repeat (first
          | refine d_assoc ?_
          | refine d_sskip ?_
          | (refine d_sreg (by kernel_rfl) fun K hK => ?_; simp only [go_sem, Nat.reduceEqDiff, reduceCtorEq, ↓reduceIte, Nat.reduceMul, Nat.reduceAdd, Nat.reduceLT, Nat.reduceLeDiff, Int.reduceLT, Int.reduceLE, Int.reduceToNat, Nat.reduceBEq, String.reduceNe, String.reduceEq, *]; (first | refine hK.go _ ?_ | refine ⟨by omega, hK.go _ ?_⟩ | refine ⟨by omega, by omega, hK.go _ ?_⟩ | refine ⟨by omega, by omega, by omega, hK.go _ ?_⟩); clear hK K)
          | (refine d_reg (by kernel_rfl) fun K hK => ?_; simp only [go_sem, Nat.reduceEqDiff, reduceCtorEq, ↓reduceIte, Nat.reduceMul, Nat.reduceAdd, Nat.reduceLT, Nat.reduceLeDiff, Int.reduceLT, Int.reduceLE, Int.reduceToNat, Nat.reduceBEq, String.reduceNe, String.reduceEq, *]; (first | refine hK.go _ ?_ | refine ⟨by omega, hK.go _ ?_⟩ | refine ⟨by omega, by omega, hK.go _ ?_⟩ | refine ⟨by omega, by omega, by omega, hK.go _ ?_⟩); clear hK K)
          | (refine d_scond true rfl (fun _ => ?_) (fun h => by cases h))
          | (refine d_scond false rfl (fun h => by cases h) (fun _ => ?_))
          | (refine d_cond true rfl (fun _ => ?_) (fun h => by cases h))
          | (refine d_cond false rfl (fun h => by cases h) (fun _ => ?_))
          | refine d_exit ?_
          | refine d_sexit ?_
          | refine d_ret ?_
          | refine d_sret ?_
          | refine d_skip ?_)
        repeat (first | simp only [thenD, blockD, Nat.reduceEqDiff, reduceCtorEq, ↓reduceIte] | refine Imp.go (by assumption) _ ?_)
        exact ⟨⟨0 + 1, by simp only [go_sem, Nat.reduceEqDiff, reduceCtorEq, ↓reduceIte, Nat.reduceMul, Nat.reduceAdd, Nat.reduceLT, Nat.reduceLeDiff, Int.reduceLT, Int.reduceLE, Int.reduceToNat, Nat.reduceBEq, String.reduceNe, String.reduceEq, *], by simp only [go_sem, Nat.reduceEqDiff, reduceCtorEq, ↓reduceIte, Nat.reduceMul, Nat.reduceAdd, Nat.reduceLT, Nat.reduceLeDiff, Int.reduceLT, Int.reduceLE, Int.reduceToNat, Nat.reduceBEq, String.reduceNe, String.reduceEq, *], by simp only [go_sem, Nat.reduceEqDiff, reduceCtorEq, ↓reduceIte, Nat.reduceMul, Nat.reduceAdd, Nat.reduceLT, Nat.reduceLeDiff, Int.reduceLT, Int.reduceLE, Int.reduceToNat, Nat.reduceBEq, String.reduceNe, String.reduceEq, *] <;> rfl, h1, .inr ⟨s1.gen 22, 0, by simp only [go_sem, Nat.reduceEqDiff, reduceCtorEq, ↓reduceIte, Nat.reduceMul, Nat.reduceAdd, Nat.reduceLT, Nat.reduceLeDiff, Int.reduceLT, Int.reduceLE, Int.reduceToNat, Nat.reduceBEq, String.reduceNe, String.reduceEq, *]; rw [hN.out]; rfl, by simp only [go_sem, Nat.reduceEqDiff, reduceCtorEq, ↓reduceIte, Nat.reduceMul, Nat.reduceAdd, Nat.reduceLT, Nat.reduceLeDiff, Int.reduceLT, Int.reduceLE, Int.reduceToNat, Nat.reduceBEq, String.reduceNe, String.reduceEq, *]⟩⟩, by simp only [go_sem, Nat.reduceEqDiff, reduceCtorEq, ↓reduceIte, Nat.reduceMul, Nat.reduceAdd, Nat.reduceLT, Nat.reduceLeDiff, Int.reduceLT, Int.reduceLE, Int.reduceToNat, Nat.reduceBEq, String.reduceNe, String.reduceEq, *]; exact mlt h1⟩
      · repeat (first
  | refine d_assoc ?_
  | refine d_sskip ?_
  | (refine d_sreg (by kernel_rfl) fun K hK => ?_; simp only [go_sem, Nat.reduceEqDiff, reduceCtorEq, ↓reduceIte, Nat.reduceMul, Nat.reduceAdd, Nat.reduceLT, Nat.reduceLeDiff, Int.reduceLT, Int.reduceLE, Int.reduceToNat, Nat.reduceBEq, String.reduceNe, String.reduceEq, *]; (first | refine hK.go _ ?_ | refine ⟨by omega, hK.go _ ?_⟩ | refine ⟨by omega, by omega, hK.go _ ?_⟩ | refine ⟨by omega, by omega, by omega, hK.go _ ?_⟩); clear hK K)
  | (refine d_reg (by kernel_rfl) fun K hK => ?_; simp only [go_sem, Nat.reduceEqDiff, reduceCtorEq, ↓reduceIte, Nat.reduceMul, Nat.reduceAdd, Nat.reduceLT, Nat.reduceLeDiff, Int.reduceLT, Int.reduceLE, Int.reduceToNat, Nat.reduceBEq, String.reduceNe, String.reduceEq, *]; (first | refine hK.go _ ?_ | refine ⟨by omega, hK.go _ ?_⟩ | refine ⟨by omega, by omega, hK.go _ ?_⟩ | refine ⟨by omega, by omega, by omega, hK.go _ ?_⟩); clear hK K)
  | (refine d_scond true rfl (fun _ => ?_) (fun h => by cases h))
  | (refine d_scond false rfl (fun h => by cases h) (fun _ => ?_))
  | (refine d_cond true rfl (fun _ => ?_) (fun h => by cases h))
  | (refine d_cond false rfl (fun h => by cases h) (fun _ => ?_))
  | refine d_exit ?_
  | refine d_sexit ?_
  | refine d_ret ?_
  | refine d_sret ?_
  | refine d_skip ?_)
        refine d_sblock fun K2 hK2 => ?_
        repeat (first
          | refine d_assoc ?_
          | refine d_sskip ?_
          | (refine d_sreg (by kernel_rfl) fun K hK => ?_; simp only [go_sem, Nat.reduceEqDiff, reduceCtorEq, ↓reduceIte, Nat.reduceMul, Nat.reduceAdd, Nat.reduceLT, Nat.reduceLeDiff, Int.reduceLT, Int.reduceLE, Int.reduceToNat, Nat.reduceBEq, String.reduceNe, String.reduceEq, *]; (first | refine hK.go _ ?_ | refine ⟨by omega, hK.go _ ?_⟩ | refine ⟨by omega, by omega, hK.go _ ?_⟩ | refine ⟨by omega, by omega, by omega, hK.go _ ?_⟩); clear hK K)
          | (refine d_reg (by kernel_rfl) fun K hK => ?_; simp only [go_sem, Nat.reduceEqDiff, reduceCtorEq, ↓reduceIte, Nat.reduceMul, Nat.reduceAdd, Nat.reduceLT, Nat.reduceLeDiff, Int.reduceLT, Int.reduceLE, Int.reduceToNat, Nat.reduceBEq, String.reduceNe, String.reduceEq, *]; (first | refine hK.go _ ?_ | refine ⟨by omega, hK.go _ ?_⟩ | refine ⟨by omega, by omega, hK.go _ ?_⟩ | refine ⟨by omega, by omega, by omega, hK.go _ ?_⟩); clear hK K)
          | (refine d_scond true rfl (fun _ => ?_) (fun h => by cases h))
          | (refine d_scond false rfl (fun h => by cases h) (fun _ => ?_))
          | (refine d_cond true rfl (fun _ => ?_) (fun h => by cases h))
          | (refine d_cond false rfl (fun h => by cases h) (fun _ => ?_))
          | refine d_exit ?_
          | refine d_sexit ?_
          | refine d_ret ?_
          | refine d_sret ?_
          | refine d_skip ?_)
        refine d_reg (by kernel_rfl) fun K hK => ?_
        simp only [go_sem, Nat.reduceEqDiff, reduceCtorEq, ↓reduceIte, Nat.reduceMul, Nat.reduceAdd, Nat.reduceLT, Nat.reduceLeDiff, Int.reduceLT, Int.reduceLE, Int.reduceToNat, Nat.reduceBEq, String.reduceNe, String.reduceEq, *]
        repeat (refine ⟨by omega, ?_⟩)
        refine wp_call rfl (hc) (by first | exact .inl rfl | exact .inr rfl) ?_
        simp only [go_sem, Nat.reduceEqDiff, reduceCtorEq, ↓reduceIte, Nat.reduceMul, Nat.reduceAdd, Nat.reduceLT, Nat.reduceLeDiff, Int.reduceLT, Int.reduceLE, Int.reduceToNat, Nat.reduceBEq, String.reduceNe, String.reduceEq, *]
        (first | refine hK.go _ ?_ | refine ⟨by omega, hK.go _ ?_⟩ | refine ⟨by omega, by omega, hK.go _ ?_⟩); clear hK K
        repeat (first | simp only [thenD, blockD, Nat.reduceEqDiff, reduceCtorEq, ↓reduceIte] | refine Imp.go (by assumption) _ ?_)
        repeat (first
          | refine d_assoc ?_
          | refine d_sskip ?_
          | (refine d_sreg (by kernel_rfl) fun K hK => ?_; simp only [go_sem, Nat.reduceEqDiff, reduceCtorEq, ↓reduceIte, Nat.reduceMul, Nat.reduceAdd, Nat.reduceLT, Nat.reduceLeDiff, Int.reduceLT, Int.reduceLE, Int.reduceToNat, Nat.reduceBEq, String.reduceNe, String.reduceEq, *]; (first | refine hK.go _ ?_ | refine ⟨by omega, hK.go _ ?_⟩ | refine ⟨by omega, by omega, hK.go _ ?_⟩ | refine ⟨by omega, by omega, by omega, hK.go _ ?_⟩); clear hK K)
          | (refine d_reg (by kernel_rfl) fun K hK => ?_; simp only [go_sem, Nat.reduceEqDiff, reduceCtorEq, ↓reduceIte, Nat.reduceMul, Nat.reduceAdd, Nat.reduceLT, Nat.reduceLeDiff, Int.reduceLT, Int.reduceLE, Int.reduceToNat, Nat.reduceBEq, String.reduceNe, String.reduceEq, *]; (first | refine hK.go _ ?_ | refine ⟨by omega, hK.go _ ?_⟩ | refine ⟨by omega, by omega, hK.go _ ?_⟩ | refine ⟨by omega, by omega, by omega, hK.go _ ?_⟩); clear hK K)
          | (refine d_scond true rfl (fun _ => ?_) (fun h => by cases h))
          | (refine d_scond false rfl (fun h => by cases h) (fun _ => ?_))
          | (refine d_cond true rfl (fun _ => ?_) (fun h => by cases h))
          | (refine d_cond false rfl (fun h => by cases h) (fun _ => ?_))
          | refine d_exit ?_
          | refine d_sexit ?_
          | refine d_ret ?_
          | refine d_sret ?_
          | refine d_skip ?_)
        repeat (first | simp only [thenD, blockD, Nat.reduceEqDiff, reduceCtorEq, ↓reduceIte] | refine Imp.go (by assumption) _ ?_)
        exact ⟨⟨0 + 1, by simp only [go_sem, Nat.reduceEqDiff, reduceCtorEq, ↓reduceIte, Nat.reduceMul, Nat.reduceAdd, Nat.reduceLT, Nat.reduceLeDiff, Int.reduceLT, Int.reduceLE, Int.reduceToNat, Nat.reduceBEq, String.reduceNe, String.reduceEq, *], by simp only [go_sem, Nat.reduceEqDiff, reduceCtorEq, ↓reduceIte, Nat.reduceMul, Nat.reduceAdd, Nat.reduceLT, Nat.reduceLeDiff, Int.reduceLT, Int.reduceLE, Int.reduceToNat, Nat.reduceBEq, String.reduceNe, String.reduceEq, *], by simp only [go_sem, Nat.reduceEqDiff, reduceCtorEq, ↓reduceIte, Nat.reduceMul, Nat.reduceAdd, Nat.reduceLT, Nat.reduceLeDiff, Int.reduceLT, Int.reduceLE, Int.reduceToNat, Nat.reduceBEq, String.reduceNe, String.reduceEq, *] <;> rfl, h1, .inr ⟨s1.gen 22, 0, by simp only [go_sem, Nat.reduceEqDiff, reduceCtorEq, ↓reduceIte, Nat.reduceMul, Nat.reduceAdd, Nat.reduceLT, Nat.reduceLeDiff, Int.reduceLT, Int.reduceLE, Int.reduceToNat, Nat.reduceBEq, String.reduceNe, String.reduceEq, *]; rw [hN.out]; rfl, by simp only [go_sem, Nat.reduceEqDiff, reduceCtorEq, ↓reduceIte, Nat.reduceMul, Nat.reduceAdd, Nat.reduceLT, Nat.reduceLeDiff, Int.reduceLT, Int.reduceLE, Int.reduceToNat, Nat.reduceBEq, String.reduceNe, String.reduceEq, *]⟩⟩, by simp only [go_sem, Nat.reduceEqDiff, reduceCtorEq, ↓reduceIte, Nat.reduceMul, Nat.reduceAdd, Nat.reduceLT, Nat.reduceLeDiff, Int.reduceLT, Int.reduceLE, Int.reduceToNat, Nat.reduceBEq, String.reduceNe, String.reduceEq, *]; exact mlt h1⟩
    · cases x2
      · repeat (first
  | refine d_assoc ?_
  | refine d_sskip ?_
  | (refine d_sreg (by kernel_rfl) fun K hK => ?_; simp only [go_sem, Nat.reduceEqDiff, reduceCtorEq, ↓reduceIte, Nat.reduceMul, Nat.reduceAdd, Nat.reduceLT, Nat.reduceLeDiff, Int.reduceLT, Int.reduceLE, Int.reduceToNat, Nat.reduceBEq, String.reduceNe, String.reduceEq, *]; (first | refine hK.go _ ?_ | refine ⟨by omega, hK.go _ ?_⟩ | refine ⟨by omega, by omega, hK.go _ ?_⟩ | refine ⟨by omega, by omega, by omega, hK.go _ ?_⟩); clear hK K)
  | (refine d_reg (by kernel_rfl) fun K hK => ?_; simp only [go_sem, Nat.reduceEqDiff, reduceCtorEq, ↓reduceIte, Nat.reduceMul, Nat.reduceAdd, Nat.reduceLT, Nat.reduceLeDiff, Int.reduceLT, Int.reduceLE, Int.reduceToNat, Nat.reduceBEq, String.reduceNe, String.reduceEq, *]; (first | refine hK.go _ ?_ | refine ⟨by omega, hK.go _ ?_⟩ | refine ⟨by omega, by omega, hK.go _ ?_⟩ | refine ⟨by omega, by omega, by omega, hK.go _ ?_⟩); clear hK K)
  | (refine d_scond true rfl (fun _ => ?_) (fun h => by cases h))
  | (refine d_scond false rfl (fun h => by cases h) (fun _ => ?_))
  | (refine d_cond true rfl (fun _ => ?_) (fun h => by cases h))
  | (refine d_cond false rfl (fun h => by cases h) (fun _ => ?_))
  | refine d_exit ?_
  | refine d_sexit ?_
  | refine d_ret ?_
  | refine d_sret ?_
  | refine d_skip ?_)
        refine d_sblock fun K2 hK2 => ?_
        repeat (first
          | refine d_assoc ?_
          | refine d_sskip ?_
          | (refine d_sreg (by kernel_rfl) fun K hK => ?_; simp only [go_sem, Nat.reduceEqDiff, reduceCtorEq, ↓reduceIte, Nat.reduceMul, Nat.reduceAdd, Nat.reduceLT, Nat.reduceLeDiff, Int.reduceLT, Int.reduceLE, Int.reduceToNat, Nat.reduceBEq, String.reduceNe, String.reduceEq, *]; (first | refine hK.go _ ?_ | refine ⟨by omega, hK.go _ ?_⟩ | refine ⟨by omega, by omega, hK.go _ ?_⟩ | refine ⟨by omega, by omega, by omega, hK.go _ ?_⟩); clear hK K)
          | (refine d_reg (by kernel_rfl) fun K hK => ?_; simp only [go_sem, Nat.reduceEqDiff, reduceCtorEq, ↓reduceIte, Nat.reduceMul, Nat.reduceAdd, Nat.reduceLT, Nat.reduceLeDiff, Int.reduceLT, Int.reduceLE, Int.reduceToNat, Nat.reduceBEq, String.reduceNe, String.reduceEq, *]; (first | refine hK.go _ ?_ | refine ⟨by omega, hK.go _ ?_⟩ | refine ⟨by omega, by omega, hK.go _ ?_⟩ | refine ⟨by omega, by omega, by omega, hK.go _ ?_⟩); clear hK K)
          | (refine d_scond true rfl (fun _ => ?_) (fun h => by cases h))
          | (refine d_scond false rfl (fun h => by cases h) (fun _ => ?_))
          | (refine d_cond true rfl (fun _ => ?_) (fun h => by cases h))
          | (refine d_cond false rfl (fun h => by cases h) (fun _ => ?_))
          | refine d_exit ?_
          | refine d_sexit ?_
          | refine d_ret ?_
          | refine d_sret ?_
          | refine d_skip ?_)
        refine d_reg (by kernel_rfl) fun K hK => ?_
        simp only [go_sem, Nat.reduceEqDiff, reduceCtorEq, ↓reduceIte, Nat.reduceMul, Nat.reduceAdd, Nat.reduceLT, Nat.reduceLeDiff, Int.reduceLT, Int.reduceLE, Int.reduceToNat, Nat.reduceBEq, String.reduceNe, String.reduceEq, *]
        repeat (refine ⟨by omega, ?_⟩)
        refine wp_call rfl (hc) (by first | exact .inl rfl | exact .inr rfl) ?_
        simp only [go_sem, Nat.reduceEqDiff, reduceCtorEq, ↓reduceIte, Nat.reduceMul, Nat.reduceAdd, Nat.reduceLT, Nat.reduceLeDiff, Int.reduceLT, Int.reduceLE, Int.reduceToNat, Nat.reduceBEq, String.reduceNe, String.reduceEq, *]
        (first | refine hK.go _ ?_ | refine ⟨by omega, hK.go _ ?_⟩ | refine ⟨by omega, by omega, hK.go _ ?_⟩); clear hK K
        repeat (first | simp only [thenD, blockD, Nat.reduceEqDiff, reduceCtorEq, ↓reduceIte] | refine Imp.go (by assumption) _ ?_)
        repeat (first
          | refine d_assoc ?_
          | refine d_sskip ?_
          | (refine d_sreg (by kernel_rfl) fun K hK => ?_; simp only [go_sem, Nat.reduceEqDiff, reduceCtorEq, ↓reduceIte, Nat.reduceMul, Nat.reduceAdd, Nat.reduceLT, Nat.reduceLeDiff, Int.reduceLT, Int.reduceLE, Int.reduceToNat, Nat.reduceBEq, String.reduceNe, String.reduceEq, *]; (first | refine hK.go _ ?_ | refine ⟨by omega, hK.go _ ?_⟩ | refine ⟨by omega, by omega, hK.go _ ?_⟩ | refine ⟨by omega, by omega, by omega, hK.go _ ?_⟩); clear hK K)
          | (refine d_reg (by kernel_rfl) fun K hK => ?_; simp only [go_sem, Nat.reduceEqDiff, reduceCtorEq, ↓reduceIte, Nat.reduceMul, Nat.reduceAdd, Nat.reduceLT, Nat.reduceLeDiff, Int.reduceLT, Int.reduceLE, Int.reduceToNat, Nat.reduceBEq, String.reduceNe, String.reduceEq, *]; (first | refine hK.go _ ?_ | refine ⟨by omega, hK.go _ ?_⟩ | refine ⟨by omega, by omega, hK.go _ ?_⟩ | refine ⟨by omega, by omega, by omega, hK.go _ ?_⟩); clear hK K)
          | (refine d_scond true rfl (fun _ => ?_) (fun h => by cases h))
          | (refine d_scond false rfl (fun h => by cases h) (fun _ => ?_))
          | (refine d_cond true rfl (fun _ => ?_) (fun h => by cases h))
          | (refine d_cond false rfl (fun h => by cases h) (fun _ => ?_))
          | refine d_exit ?_
          | refine d_sexit ?_
          | refine d_ret ?_
          | refine d_sret ?_
          | refine d_skip ?_)
        repeat (first | simp only [thenD, blockD, Nat.reduceEqDiff, reduceCtorEq, ↓reduceIte] | refine Imp.go (by assumption) _ ?_)
        exact ⟨⟨i + 1, by simp only [go_sem, Nat.reduceEqDiff, reduceCtorEq, ↓reduceIte, Nat.reduceMul, Nat.reduceAdd, Nat.reduceLT, Nat.reduceLeDiff, Int.reduceLT, Int.reduceLE, Int.reduceToNat, Nat.reduceBEq, String.reduceNe, String.reduceEq, *], by simp only [go_sem, Nat.reduceEqDiff, reduceCtorEq, ↓reduceIte, Nat.reduceMul, Nat.reduceAdd, Nat.reduceLT, Nat.reduceLeDiff, Int.reduceLT, Int.reduceLE, Int.reduceToNat, Nat.reduceBEq, String.reduceNe, String.reduceEq, *], by simp only [go_sem, Nat.reduceEqDiff, reduceCtorEq, ↓reduceIte, Nat.reduceMul, Nat.reduceAdd, Nat.reduceLT, Nat.reduceLeDiff, Int.reduceLT, Int.reduceLE, Int.reduceToNat, Nat.reduceBEq, String.reduceNe, String.reduceEq, *], h1, .inr ⟨g, v + 1, by simp only [go_sem, Nat.reduceEqDiff, reduceCtorEq, ↓reduceIte, Nat.reduceMul, Nat.reduceAdd, Nat.reduceLT, Nat.reduceLeDiff, Int.reduceLT, Int.reduceLE, Int.reduceToNat, Nat.reduceBEq, String.reduceNe, String.reduceEq, *]; rw [hN.out]; rfl, by simp only [go_sem, Nat.reduceEqDiff, reduceCtorEq, ↓reduceIte, Nat.reduceMul, Nat.reduceAdd, Nat.reduceLT, Nat.reduceLeDiff, Int.reduceLT, Int.reduceLE, Int.reduceToNat, Nat.reduceBEq, String.reduceNe, String.reduceEq, *]⟩⟩, by simp only [go_sem, Nat.reduceEqDiff, reduceCtorEq, ↓reduceIte, Nat.reduceMul, Nat.reduceAdd, Nat.reduceLT, Nat.reduceLeDiff, Int.reduceLT, Int.reduceLE, Int.reduceToNat, Nat.reduceBEq, String.reduceNe, String.reduceEq, *]; exact mlt h1⟩
      · repeat (first
  | refine d_assoc ?_
  | refine d_sskip ?_
  | (refine d_sreg (by kernel_rfl) fun K hK => ?_; simp only [go_sem, Nat.reduceEqDiff, reduceCtorEq, ↓reduceIte, Nat.reduceMul, Nat.reduceAdd, Nat.reduceLT, Nat.reduceLeDiff, Int.reduceLT, Int.reduceLE, Int.reduceToNat, Nat.reduceBEq, String.reduceNe, String.reduceEq, *]; (first | refine hK.go _ ?_ | refine ⟨by omega, hK.go _ ?_⟩ | refine ⟨by omega, by omega, hK.go _ ?_⟩ | refine ⟨by omega, by omega, by omega, hK.go _ ?_⟩); clear hK K)
  | (refine d_reg (by kernel_rfl) fun K hK => ?_; simp only [go_sem, Nat.reduceEqDiff, reduceCtorEq, ↓reduceIte, Nat.reduceMul, Nat.reduceAdd, Nat.reduceLT, Nat.reduceLeDiff, Int.reduceLT, Int.reduceLE, Int.reduceToNat, Nat.reduceBEq, String.reduceNe, String.reduceEq, *]; (first | refine hK.go _ ?_ | refine ⟨by omega, hK.go _ ?_⟩ | refine ⟨by omega, by omega, hK.go _ ?_⟩ | refine ⟨by omega, by omega, by omega, hK.go _ ?_⟩); clear hK K)
  | (refine d_scond true rfl (fun _ => ?_) (fun h => by cases h))
  | (refine d_scond false rfl (fun h => by cases h) (fun _ => ?_))
  | (refine d_cond true rfl (fun _ => ?_) (fun h => by cases h))
  | (refine d_cond false rfl (fun h => by cases h) (fun _ => ?_))
  | refine d_exit ?_
  | refine d_sexit ?_
  | refine d_ret ?_
  | refine d_sret ?_
  | refine d_skip ?_)
        refine d_sblock fun K2 hK2 => ?_
        repeat (first
          | refine d_assoc ?_
          | refine d_sskip ?_
          | (refine d_sreg (by kernel_rfl) fun K hK => ?_; simp only [go_sem, Nat.reduceEqDiff, reduceCtorEq, ↓reduceIte, Nat.reduceMul, Nat.reduceAdd, Nat.reduceLT, Nat.reduceLeDiff, Int.reduceLT, Int.reduceLE, Int.reduceToNat, Nat.reduceBEq, String.reduceNe, String.reduceEq, *]; (first | refine hK.go _ ?_ | refine ⟨by omega, hK.go _ ?_⟩ | refine ⟨by omega, by omega, hK.go _ ?_⟩ | refine ⟨by omega, by omega, by omega, hK.go _ ?_⟩); clear hK K)
          | (refine d_reg (by kernel_rfl) fun K hK => ?_; simp only [go_sem, Nat.reduceEqDiff, reduceCtorEq, ↓reduceIte, Nat.reduceMul, Nat.reduceAdd, Nat.reduceLT, Nat.reduceLeDiff, Int.reduceLT, Int.reduceLE, Int.reduceToNat, Nat.reduceBEq, String.reduceNe, String.reduceEq, *]; (first | refine hK.go _ ?_ | refine ⟨by omega, hK.go _ ?_⟩ | refine ⟨by omega, by omega, hK.go _ ?_⟩ | refine ⟨by omega, by omega, by omega, hK.go _ ?_⟩); clear hK K)
          | (refine d_scond true rfl (fun _ => ?_) (fun h => by cases h))
          | (refine d_scond false rfl (fun h => by cases h) (fun _ => ?_))
          | (refine d_cond true rfl (fun _ => ?_) (fun h => by cases h))
          | (refine d_cond false rfl (fun h => by cases h) (fun _ => ?_))
          | refine d_exit ?_
          | refine d_sexit ?_
          | refine d_ret ?_
          | refine d_sret ?_
          | refine d_skip ?_)
        refine d_reg (by kernel_rfl) fun K hK => ?_
        simp only [go_sem, Nat.reduceEqDiff, reduceCtorEq, ↓reduceIte, Nat.reduceMul, Nat.reduceAdd, Nat.reduceLT, Nat.reduceLeDiff, Int.reduceLT, Int.reduceLE, Int.reduceToNat, Nat.reduceBEq, String.reduceNe, String.reduceEq, *]
        repeat (refine ⟨by omega, ?_⟩)
        refine wp_call rfl (hc) (by first | exact .inl rfl | exact .inr rfl) ?_
        simp only [go_sem, Nat.reduceEqDiff, reduceCtorEq, ↓reduceIte, Nat.reduceMul, Nat.reduceAdd, Nat.reduceLT, Nat.reduceLeDiff, Int.reduceLT, Int.reduceLE, Int.reduceToNat, Nat.reduceBEq, String.reduceNe, String.reduceEq, *]
        (first | refine hK.go _ ?_ | refine ⟨by omega, hK.go _ ?_⟩ | refine ⟨by omega, by omega, hK.go _ ?_⟩); clear hK K
        repeat (first | simp only [thenD, blockD, Nat.reduceEqDiff, reduceCtorEq, ↓reduceIte] | refine Imp.go (by assumption) _ ?_)
        repeat (first
          | refine d_assoc ?_
          | refine d_sskip ?_
          | (refine d_sreg (by kernel_rfl) fun K hK => ?_; simp only [go_sem, Nat.reduceEqDiff, reduceCtorEq, ↓reduceIte, Nat.reduceMul, Nat.reduceAdd, Nat.reduceLT, Nat.reduceLeDiff, Int.reduceLT, Int.reduceLE, Int.reduceToNat, Nat.reduceBEq, String.reduceNe, String.reduceEq, *]; (first | refine hK.go _ ?_ | refine ⟨by omega, hK.go _ ?_⟩ | refine ⟨by omega, by omega, hK.go _ ?_⟩ | refine ⟨by omega, by omega, by omega, hK.go _ ?_⟩); clear hK K)
          | (refine d_reg (by kernel_rfl) fun K hK => ?_; simp only [go_sem, Nat.reduceEqDiff, reduceCtorEq, ↓reduceIte, Nat.reduceMul, Nat.reduceAdd, Nat.reduceLT, Nat.reduceLeDiff, Int.reduceLT, Int.reduceLE, Int.reduceToNat, Nat.reduceBEq, String.reduceNe, String.reduceEq, *]; (first | refine hK.go _ ?_ | refine ⟨by omega, hK.go _ ?_⟩ | refine ⟨by omega, by omega, hK.go _ ?_⟩ | refine ⟨by omega, by omega, by omega, hK.go _ ?_⟩); clear hK K)
          | (refine d_scond true rfl (fun _ => ?_) (fun h => by cases h))
          | (refine d_scond false rfl (fun h => by cases h) (fun _ => ?_))
          | (refine d_cond true rfl (fun _ => ?_) (fun h => by cases h))
          | (refine d_cond false rfl (fun h => by cases h) (fun _ => ?_))
          | refine d_exit ?_
          | refine d_sexit ?_
          | refine d_ret ?_
          | refine d_sret ?_
          | refine d_skip ?_)
        repeat (first | simp only [thenD, blockD, Nat.reduceEqDiff, reduceCtorEq, ↓reduceIte] | refine Imp.go (by assumption) _ ?_)
        exact ⟨⟨i + 1, by simp only [go_sem, Nat.reduceEqDiff, reduceCtorEq, ↓reduceIte, Nat.reduceMul, Nat.reduceAdd, Nat.reduceLT, Nat.reduceLeDiff, Int.reduceLT, Int.reduceLE, Int.reduceToNat, Nat.reduceBEq, String.reduceNe, String.reduceEq, *], by simp only [go_sem, Nat.reduceEqDiff, reduceCtorEq, ↓reduceIte, Nat.reduceMul, Nat.reduceAdd, Nat.reduceLT, Nat.reduceLeDiff, Int.reduceLT, Int.reduceLE, Int.reduceToNat, Nat.reduceBEq, String.reduceNe, String.reduceEq, *], by simp only [go_sem, Nat.reduceEqDiff, reduceCtorEq, ↓reduceIte, Nat.reduceMul, Nat.reduceAdd, Nat.reduceLT, Nat.reduceLeDiff, Int.reduceLT, Int.reduceLE, Int.reduceToNat, Nat.reduceBEq, String.reduceNe, String.reduceEq, *], h1, .inr ⟨g, v + 1, by simp only [go_sem, Nat.reduceEqDiff, reduceCtorEq, ↓reduceIte, Nat.reduceMul, Nat.reduceAdd, Nat.reduceLT, Nat.reduceLeDiff, Int.reduceLT, Int.reduceLE, Int.reduceToNat, Nat.reduceBEq, String.reduceNe, String.reduceEq, *]; rw [hN.out]; rfl, by simp only [go_sem, Nat.reduceEqDiff, reduceCtorEq, ↓reduceIte, Nat.reduceMul, Nat.reduceAdd, Nat.reduceLT, Nat.reduceLeDiff, Int.reduceLT, Int.reduceLE, Int.reduceToNat, Nat.reduceBEq, String.reduceNe, String.reduceEq, *]⟩⟩, by simp only [go_sem, Nat.reduceEqDiff, reduceCtorEq, ↓reduceIte, Nat.reduceMul, Nat.reduceAdd, Nat.reduceLT, Nat.reduceLeDiff, Int.reduceLT, Int.reduceLE, Int.reduceToNat, Nat.reduceBEq, String.reduceNe, String.reduceEq, *]; exact mlt h1⟩
  · have hf : l.take i = l := List.take_of_length_le (by omega)
    rcases h3 with ⟨rfl, e3⟩ | ⟨g, v, e3, et⟩
    · have hl0 : l = [] := List.eq_nil_of_length_eq_zero (by omega)
      subst hl0
      simp only [List.map_nil] at hj
      repeat (first
        | refine d_assoc ?_
        | refine d_sskip ?_
        | (refine d_sreg (by kernel_rfl) fun K hK => ?_; simp only [go_sem, Nat.reduceEqDiff, reduceCtorEq, ↓reduceIte, Nat.reduceMul, Nat.reduceAdd, Nat.reduceLT, Nat.reduceLeDiff, Int.reduceLT, Int.reduceLE, Int.reduceToNat, Nat.reduceBEq, String.reduceNe, String.reduceEq, *]; (first | refine hK.go _ ?_ | refine ⟨by omega, hK.go _ ?_⟩ | refine ⟨by omega, by omega, hK.go _ ?_⟩ | refine ⟨by omega, by omega, by omega, hK.go _ ?_⟩); clear hK K)
        | (refine d_reg (by kernel_rfl) fun K hK => ?_; simp only [go_sem, Nat.reduceEqDiff, reduceCtorEq, ↓reduceIte, Nat.reduceMul, Nat.reduceAdd, Nat.reduceLT, Nat.reduceLeDiff, Int.reduceLT, Int.reduceLE, Int.reduceToNat, Nat.reduceBEq, String.reduceNe, String.reduceEq, *]; (first | refine hK.go _ ?_ | refine ⟨by omega, hK.go _ ?_⟩ | refine ⟨by omega, by omega, hK.go _ ?_⟩ | refine ⟨by omega, by omega, by omega, hK.go _ ?_⟩); clear hK K)
        | (refine d_scond true rfl (fun _ => ?_) (fun h => by cases h))
        | (refine d_scond false rfl (fun h => by cases h) (fun _ => ?_))
        | (refine d_cond true rfl (fun _ => ?_) (fun h => by cases h))
        | (refine d_cond false rfl (fun h => by cases h) (fun _ => ?_))
        | refine d_exit ?_
        | refine d_sexit ?_
        | refine d_ret ?_
        | refine d_sret ?_
        | refine d_skip ?_)
      repeat (first | simp only [thenD, blockD, Nat.reduceEqDiff, reduceCtorEq, ↓reduceIte] | refine Imp.go (by assumption) _ ?_)
      refine d_sreg (by kernel_rfl) fun K hK => ?_
      simp only [go_sem, Nat.reduceEqDiff, reduceCtorEq, ↓reduceIte, Nat.reduceMul, Nat.reduceAdd, Nat.reduceLT, Nat.reduceLeDiff, Int.reduceLT, Int.reduceLE, Int.reduceToNat, Nat.reduceBEq, String.reduceNe, String.reduceEq, *]
      repeat (refine ⟨by omega, ?_⟩)
      refine wp_call rfl (hj) (by first | exact .inl rfl | exact .inr rfl) ?_
      simp only [go_sem, Nat.reduceEqDiff, reduceCtorEq, ↓reduceIte, Nat.reduceMul, Nat.reduceAdd, Nat.reduceLT, Nat.reduceLeDiff, Int.reduceLT, Int.reduceLE, Int.reduceToNat, Nat.reduceBEq, String.reduceNe, String.reduceEq, *]
      (first | refine hK.go _ ?_ | refine ⟨by omega, hK.go _ ?_⟩ | refine ⟨by omega, by omega, hK.go _ ?_⟩); clear hK K
      repeat (first
        | refine d_assoc ?_
        | refine d_sskip ?_
        | (refine d_sreg (by kernel_rfl) fun K hK => ?_; simp only [go_sem, Nat.reduceEqDiff, reduceCtorEq, ↓reduceIte, Nat.reduceMul, Nat.reduceAdd, Nat.reduceLT, Nat.reduceLeDiff, Int.reduceLT, Int.reduceLE, Int.reduceToNat, Nat.reduceBEq, String.reduceNe, String.reduceEq, *]; (first | refine hK.go _ ?_ | refine ⟨by omega, hK.go _ ?_⟩ | refine ⟨by omega, by omega, hK.go _ ?_⟩ | refine ⟨by omega, by omega, by omega, hK.go _ ?_⟩); clear hK K)
        | (refine d_reg (by kernel_rfl) fun K hK => ?_; simp only [go_sem, Nat.reduceEqDiff, reduceCtorEq, ↓reduceIte, Nat.reduceMul, Nat.reduceAdd, Nat.reduceLT, Nat.reduceLeDiff, Int.reduceLT, Int.reduceLE, Int.reduceToNat, Nat.reduceBEq, String.reduceNe, String.reduceEq, *]; (first | refine hK.go _ ?_ | refine ⟨by omega, hK.go _ ?_⟩ | refine ⟨by omega, by omega, hK.go _ ?_⟩ | refine ⟨by omega, by omega, by omega, hK.go _ ?_⟩); clear hK K)
        | (refine d_scond true rfl (fun _ => ?_) (fun h => by cases h))
        | (refine d_scond false rfl (fun h => by cases h) (fun _ => ?_))
        | (refine d_cond true rfl (fun _ => ?_) (fun h => by cases h))
        | (refine d_cond false rfl (fun h => by cases h) (fun _ => ?_))
        | refine d_exit ?_
        | refine d_sexit ?_
        | refine d_ret ?_
        | refine d_sret ?_
        | refine d_skip ?_)
      exact fin1 (.inr rfl) Tryz.results7 (by simp only [go_sem, Nat.reduceEqDiff, reduceCtorEq, ↓reduceIte, Nat.reduceMul, Nat.reduceAdd, Nat.reduceLT, Nat.reduceLeDiff, Int.reduceLT, Int.reduceLE, Int.reduceToNat, Nat.reduceBEq, String.reduceNe, String.reduceEq, *] <;> rfl) rfl
    · rw [hf] at e3
      repeat (first
        | refine d_assoc ?_
        | refine d_sskip ?_
        | (refine d_sreg (by kernel_rfl) fun K hK => ?_; simp only [go_sem, Nat.reduceEqDiff, reduceCtorEq, ↓reduceIte, Nat.reduceMul, Nat.reduceAdd, Nat.reduceLT, Nat.reduceLeDiff, Int.reduceLT, Int.reduceLE, Int.reduceToNat, Nat.reduceBEq, String.reduceNe, String.reduceEq, *]; (first | refine hK.go _ ?_ | refine ⟨by omega, hK.go _ ?_⟩ | refine ⟨by omega, by omega, hK.go _ ?_⟩ | refine ⟨by omega, by omega, by omega, hK.go _ ?_⟩); clear hK K)
        | (refine d_reg (by kernel_rfl) fun K hK => ?_; simp only [go_sem, Nat.reduceEqDiff, reduceCtorEq, ↓reduceIte, Nat.reduceMul, Nat.reduceAdd, Nat.reduceLT, Nat.reduceLeDiff, Int.reduceLT, Int.reduceLE, Int.reduceToNat, Nat.reduceBEq, String.reduceNe, String.reduceEq, *]; (first | refine hK.go _ ?_ | refine ⟨by omega, hK.go _ ?_⟩ | refine ⟨by omega, by omega, hK.go _ ?_⟩ | refine ⟨by omega, by omega, by omega, hK.go _ ?_⟩); clear hK K)
        | (refine d_scond true rfl (fun _ => ?_) (fun h => by cases h))
        | (refine d_scond false rfl (fun h => by cases h) (fun _ => ?_))
        | (refine d_cond true rfl (fun _ => ?_) (fun h => by cases h))
        | (refine d_cond false rfl (fun h => by cases h) (fun _ => ?_))
        | refine d_exit ?_
        | refine d_sexit ?_
        | refine d_ret ?_
        | refine d_sret ?_
        | refine d_skip ?_)
      repeat (first | simp only [thenD, blockD, Nat.reduceEqDiff, reduceCtorEq, ↓reduceIte] | refine Imp.go (by assumption) _ ?_)
      refine d_sreg (by kernel_rfl) fun K hK => ?_
      simp only [go_sem, Nat.reduceEqDiff, reduceCtorEq, ↓reduceIte, Nat.reduceMul, Nat.reduceAdd, Nat.reduceLT, Nat.reduceLeDiff, Int.reduceLT, Int.reduceLE, Int.reduceToNat, Nat.reduceBEq, String.reduceNe, String.reduceEq, *]
      repeat (refine ⟨by omega, ?_⟩)
      refine wp_call rfl (hj) (by first | exact .inl rfl | exact .inr rfl) ?_
      simp only [go_sem, Nat.reduceEqDiff, reduceCtorEq, ↓reduceIte, Nat.reduceMul, Nat.reduceAdd, Nat.reduceLT, Nat.reduceLeDiff, Int.reduceLT, Int.reduceLE, Int.reduceToNat, Nat.reduceBEq, String.reduceNe, String.reduceEq, *]
      (first | refine hK.go _ ?_ | refine ⟨by omega, hK.go _ ?_⟩ | refine ⟨by omega, by omega, hK.go _ ?_⟩); clear hK K
      repeat (first
        | refine d_assoc ?_
        | refine d_sskip ?_
        | (refine d_sreg (by kernel_rfl) fun K hK => ?_; simp only [go_sem, Nat.reduceEqDiff, reduceCtorEq, ↓reduceIte, Nat.reduceMul, Nat.reduceAdd, Nat.reduceLT, Nat.reduceLeDiff, Int.reduceLT, Int.reduceLE, Int.reduceToNat, Nat.reduceBEq, String.reduceNe, String.reduceEq, *]; (first | refine hK.go _ ?_ | refine ⟨by omega, hK.go _ ?_⟩ | refine ⟨by omega, by omega, hK.go _ ?_⟩ | refine ⟨by omega, by omega, by omega, hK.go _ ?_⟩); clear hK K)
        | (refine d_reg (by kernel_rfl) fun K hK => ?_; simp only [go_sem, Nat.reduceEqDiff, reduceCtorEq, ↓reduceIte, Nat.reduceMul, Nat.reduceAdd, Nat.reduceLT, Nat.reduceLeDiff, Int.reduceLT, Int.reduceLE, Int.reduceToNat, Nat.reduceBEq, String.reduceNe, String.reduceEq, *]; (first | refine hK.go _ ?_ | refine ⟨by omega, hK.go _ ?_⟩ | refine ⟨by omega, by omega, hK.go _ ?_⟩ | refine ⟨by omega, by omega, by omega, hK.go _ ?_⟩); clear hK K)
        | (refine d_scond true rfl (fun _ => ?_) (fun h => by cases h))
        | (refine d_scond false rfl (fun h => by cases h) (fun _ => ?_))
        | (refine d_cond true rfl (fun _ => ?_) (fun h => by cases h))
        | (refine d_cond false rfl (fun h => by cases h) (fun _ => ?_))
        | refine d_exit ?_
        | refine d_sexit ?_
        | refine d_ret ?_
        | refine d_sret ?_
        | refine d_skip ?_)
      exact fin1 (.inr rfl) Tryz.results7 (by simp only [go_sem, Nat.reduceEqDiff, reduceCtorEq, ↓reduceIte, Nat.reduceMul, Nat.reduceAdd, Nat.reduceLT, Nat.reduceLeDiff, Int.reduceLT, Int.reduceLE, Int.reduceToNat, Nat.reduceBEq, String.reduceNe, String.reduceEq, *] <;> rfl) rfl
theorem ord_fn (a b : List Hop) (hr : ∀ h ∈ a, inR h.1) : FnD Tryz.prog 3 [HS a, HS b] (bv true) := by
  have f1 := few_fn a
  have f2 := few_fn b
  have f3 := few_fn (a.take 8)
  have f4 := few_fn (b.take 8)
  rw [List.take_take, Nat.min_self] at f3 f4
  have hA : (a.take 8).length ≤ 8 := List.length_take_le 8 a
  have hB : (b.take 8).length ≤ 8 := List.length_take_le 8 b
  have hrA : ∀ h ∈ a.take 8, inR h.1 := fun h hm => hr h (List.mem_of_mem_take hm)
  generalize a.take 8 = A at *
  generalize b.take 8 = B at *
  have h1 := order_fn A B hA hB
  have h2 := refOrder_fn A B hA hB
  have h3 := print_fn A hA hrA
  have h4 := refPrint_fn A hA hrA
  have h5 := lives_fn
  refine fn2 mixed Tryz.func3 (by kernel_rfl) rfl Tryz.ntmps3 (by decide) fun s e0 e1 => ?_
  unfold HS bv iv sv at *
  clear hr hrA hA hB
  repeat (first
    | refine d_assoc ?_
    | refine d_sskip ?_
    | (refine d_sreg (by kernel_rfl) fun K hK => ?_; simp only [go_sem, Nat.reduceEqDiff, reduceCtorEq, ↓reduceIte, Nat.reduceMul, Nat.reduceAdd, Nat.reduceLT, Nat.reduceLeDiff, Int.reduceLT, Int.reduceLE, Int.reduceToNat, Nat.reduceBEq, String.reduceNe, String.reduceEq, *]; (first | refine hK.go _ ?_ | refine ⟨by omega, hK.go _ ?_⟩ | refine ⟨by omega, by omega, hK.go _ ?_⟩ | refine ⟨by omega, by omega, by omega, hK.go _ ?_⟩); clear hK K)
    | (refine d_reg (by kernel_rfl) fun K hK => ?_; simp only [go_sem, Nat.reduceEqDiff, reduceCtorEq, ↓reduceIte, Nat.reduceMul, Nat.reduceAdd, Nat.reduceLT, Nat.reduceLeDiff, Int.reduceLT, Int.reduceLE, Int.reduceToNat, Nat.reduceBEq, String.reduceNe, String.reduceEq, *]; (first | refine hK.go _ ?_ | refine ⟨by omega, hK.go _ ?_⟩ | refine ⟨by omega, by omega, hK.go _ ?_⟩ | refine ⟨by omega, by omega, by omega, hK.go _ ?_⟩); clear hK K)
    | (refine d_scond true rfl (fun _ => ?_) (fun h => by cases h))
    | (refine d_scond false rfl (fun h => by cases h) (fun _ => ?_))
    | (refine d_cond true rfl (fun _ => ?_) (fun h => by cases h))
    | (refine d_cond false rfl (fun h => by cases h) (fun _ => ?_))
    | refine d_exit ?_
    | refine d_sexit ?_
    | refine d_ret ?_
    | refine d_sret ?_
    | refine d_skip ?_)
  refine d_sreg (by kernel_rfl) fun K hK => ?_
  simp only [go_sem, Nat.reduceEqDiff, reduceCtorEq, ↓reduceIte, Nat.reduceMul, Nat.reduceAdd, Nat.reduceLT, Nat.reduceLeDiff, Int.reduceLT, Int.reduceLE, Int.reduceToNat, Nat.reduceBEq, String.reduceNe, String.reduceEq, *]
  repeat (refine ⟨by omega, ?_⟩)
  refine wp_call rfl (f1) (by first | exact .inl rfl | exact .inr rfl) ?_
  simp only [go_sem, Nat.reduceEqDiff, reduceCtorEq, ↓reduceIte, Nat.reduceMul, Nat.reduceAdd, Nat.reduceLT, Nat.reduceLeDiff, Int.reduceLT, Int.reduceLE, Int.reduceToNat, Nat.reduceBEq, String.reduceNe, String.reduceEq, *]
  repeat (refine ⟨by omega, ?_⟩)
  refine wp_call rfl (f2) (by first | exact .inl rfl | exact .inr rfl) ?_
  simp only [go_sem, Nat.reduceEqDiff, reduceCtorEq, ↓reduceIte, Nat.reduceMul, Nat.reduceAdd, Nat.reduceLT, Nat.reduceLeDiff, Int.reduceLT, Int.reduceLE, Int.reduceToNat, Nat.reduceBEq, String.reduceNe, String.reduceEq, *]
  (first | refine hK.go _ ?_ | refine ⟨by omega, hK.go _ ?_⟩ | refine ⟨by omega, by omega, hK.go _ ?_⟩); clear hK K
  repeat (first
    | refine d_assoc ?_
    | refine d_sskip ?_
    | (refine d_sreg (by kernel_rfl) fun K hK => ?_; simp only [go_sem, Nat.reduceEqDiff, reduceCtorEq, ↓reduceIte, Nat.reduceMul, Nat.reduceAdd, Nat.reduceLT, Nat.reduceLeDiff, Int.reduceLT, Int.reduceLE, Int.reduceToNat, Nat.reduceBEq, String.reduceNe, String.reduceEq, *]; (first | refine hK.go _ ?_ | refine ⟨by omega, hK.go _ ?_⟩ | refine ⟨by omega, by omega, hK.go _ ?_⟩ | refine ⟨by omega, by omega, by omega, hK.go _ ?_⟩); clear hK K)
    | (refine d_reg (by kernel_rfl) fun K hK => ?_; simp only [go_sem, Nat.reduceEqDiff, reduceCtorEq, ↓reduceIte, Nat.reduceMul, Nat.reduceAdd, Nat.reduceLT, Nat.reduceLeDiff, Int.reduceLT, Int.reduceLE, Int.reduceToNat, Nat.reduceBEq, String.reduceNe, String.reduceEq, *]; (first | refine hK.go _ ?_ | refine ⟨by omega, hK.go _ ?_⟩ | refine ⟨by omega, by omega, hK.go _ ?_⟩ | refine ⟨by omega, by omega, by omega, hK.go _ ?_⟩); clear hK K)
    | (refine d_scond true rfl (fun _ => ?_) (fun h => by cases h))
    | (refine d_scond false rfl (fun h => by cases h) (fun _ => ?_))
    | (refine d_cond true rfl (fun _ => ?_) (fun h => by cases h))
    | (refine d_cond false rfl (fun h => by cases h) (fun _ => ?_))
    | refine d_exit ?_
    | refine d_sexit ?_
    | refine d_ret ?_
    | refine d_sret ?_
    | refine d_skip ?_)
  refine d_sreg (by kernel_rfl) fun K hK => ?_
  simp only [go_sem, Nat.reduceEqDiff, reduceCtorEq, ↓reduceIte, Nat.reduceMul, Nat.reduceAdd, Nat.reduceLT, Nat.reduceLeDiff, Int.reduceLT, Int.reduceLE, Int.reduceToNat, Nat.reduceBEq, String.reduceNe, String.reduceEq, *]
  repeat (refine ⟨by omega, ?_⟩)
  refine wp_call rfl (f3) (by first | exact .inl rfl | exact .inr rfl) ?_
  simp only [go_sem, Nat.reduceEqDiff, reduceCtorEq, ↓reduceIte, Nat.reduceMul, Nat.reduceAdd, Nat.reduceLT, Nat.reduceLeDiff, Int.reduceLT, Int.reduceLE, Int.reduceToNat, Nat.reduceBEq, String.reduceNe, String.reduceEq, *]
  repeat (refine ⟨by omega, ?_⟩)
  refine wp_call rfl (f4) (by first | exact .inl rfl | exact .inr rfl) ?_
  simp only [go_sem, Nat.reduceEqDiff, reduceCtorEq, ↓reduceIte, Nat.reduceMul, Nat.reduceAdd, Nat.reduceLT, Nat.reduceLeDiff, Int.reduceLT, Int.reduceLE, Int.reduceToNat, Nat.reduceBEq, String.reduceNe, String.reduceEq, *]
  repeat (refine ⟨by omega, ?_⟩)
  refine wp_call rfl (h1) (by first | exact .inl rfl | exact .inr rfl) ?_
  simp only [go_sem, Nat.reduceEqDiff, reduceCtorEq, ↓reduceIte, Nat.reduceMul, Nat.reduceAdd, Nat.reduceLT, Nat.reduceLeDiff, Int.reduceLT, Int.reduceLE, Int.reduceToNat, Nat.reduceBEq, String.reduceNe, String.reduceEq, *]
  repeat (refine ⟨by omega, ?_⟩)
  refine wp_call rfl (h2) (by first | exact .inl rfl | exact .inr rfl) ?_
  simp only [go_sem, Nat.reduceEqDiff, reduceCtorEq, ↓reduceIte, Nat.reduceMul, Nat.reduceAdd, Nat.reduceLT, Nat.reduceLeDiff, Int.reduceLT, Int.reduceLE, Int.reduceToNat, Nat.reduceBEq, String.reduceNe, String.reduceEq, *]
  repeat (refine ⟨by omega, ?_⟩)
  refine wp_call rfl (f3) (by first | exact .inl rfl | exact .inr rfl) ?_
  simp only [go_sem, Nat.reduceEqDiff, reduceCtorEq, ↓reduceIte, Nat.reduceMul, Nat.reduceAdd, Nat.reduceLT, Nat.reduceLeDiff, Int.reduceLT, Int.reduceLE, Int.reduceToNat, Nat.reduceBEq, String.reduceNe, String.reduceEq, *]
  repeat (refine ⟨by omega, ?_⟩)
  refine wp_call rfl (h3) (by first | exact .inl rfl | exact .inr rfl) ?_
  simp only [go_sem, Nat.reduceEqDiff, reduceCtorEq, ↓reduceIte, Nat.reduceMul, Nat.reduceAdd, Nat.reduceLT, Nat.reduceLeDiff, Int.reduceLT, Int.reduceLE, Int.reduceToNat, Nat.reduceBEq, String.reduceNe, String.reduceEq, *]
  repeat (refine ⟨by omega, ?_⟩)
  refine wp_call rfl (h4) (by first | exact .inl rfl | exact .inr rfl) ?_
  simp only [go_sem, Nat.reduceEqDiff, reduceCtorEq, ↓reduceIte, Nat.reduceMul, Nat.reduceAdd, Nat.reduceLT, Nat.reduceLeDiff, Int.reduceLT, Int.reduceLE, Int.reduceToNat, Nat.reduceBEq, String.reduceNe, String.reduceEq, *]
  repeat (refine ⟨by omega, ?_⟩)
  refine wp_call rfl (h5) (by first | exact .inl rfl | exact .inr rfl) ?_
  simp only [go_sem, Nat.reduceEqDiff, reduceCtorEq, ↓reduceIte, Nat.reduceMul, Nat.reduceAdd, Nat.reduceLT, Nat.reduceLeDiff, Int.reduceLT, Int.reduceLE, Int.reduceToNat, Nat.reduceBEq, String.reduceNe, String.reduceEq, *]
  (first | refine hK.go _ ?_ | refine ⟨by omega, hK.go _ ?_⟩ | refine ⟨by omega, by omega, hK.go _ ?_⟩); clear hK K
  repeat (first
    | refine d_assoc ?_
    | refine d_sskip ?_
    | (refine d_sreg (by kernel_rfl) fun K hK => ?_; simp only [go_sem, Nat.reduceEqDiff, reduceCtorEq, ↓reduceIte, Nat.reduceMul, Nat.reduceAdd, Nat.reduceLT, Nat.reduceLeDiff, Int.reduceLT, Int.reduceLE, Int.reduceToNat, Nat.reduceBEq, String.reduceNe, String.reduceEq, *]; (first | refine hK.go _ ?_ | refine ⟨by omega, hK.go _ ?_⟩ | refine ⟨by omega, by omega, hK.go _ ?_⟩ | refine ⟨by omega, by omega, by omega, hK.go _ ?_⟩); clear hK K)
    | (refine d_reg (by kernel_rfl) fun K hK => ?_; simp only [go_sem, Nat.reduceEqDiff, reduceCtorEq, ↓reduceIte, Nat.reduceMul, Nat.reduceAdd, Nat.reduceLT, Nat.reduceLeDiff, Int.reduceLT, Int.reduceLE, Int.reduceToNat, Nat.reduceBEq, String.reduceNe, String.reduceEq, *]; (first | refine hK.go _ ?_ | refine ⟨by omega, hK.go _ ?_⟩ | refine ⟨by omega, by omega, hK.go _ ?_⟩ | refine ⟨by omega, by omega, by omega, hK.go _ ?_⟩); clear hK K)
    | (refine d_scond true rfl (fun _ => ?_) (fun h => by cases h))
    | (refine d_scond false rfl (fun h => by cases h) (fun _ => ?_))
    | (refine d_cond true rfl (fun _ => ?_) (fun h => by cases h))
    | (refine d_cond false rfl (fun h => by cases h) (fun _ => ?_))
    | refine d_exit ?_
    | refine d_sexit ?_
    | refine d_ret ?_
    | refine d_sret ?_
    | refine d_skip ?_)
  exact fin1 (.inr rfl) Tryz.results3 (by simp only [go_sem, Nat.reduceEqDiff, reduceCtorEq, ↓reduceIte, Nat.reduceMul, Nat.reduceAdd, Nat.reduceLT, Nat.reduceLeDiff, Int.reduceLT, Int.reduceLE, Int.reduceToNat, Nat.reduceBEq, String.reduceNe, String.reduceEq, *] <;> rfl) rfl
end Go.Proofs.YtdbaklnjemcfgaaGreatDoor.D
