/- Values on plain data: the document's good values, and values somewhat cut. Conditions: none. -/
import Derived.Test.YtnlodeadhnonpaaDoorGDa
namespace Go.Proofs.YtnlodeadhnonpaaDoor.D
open Go.RowKit Go.Proofs.YtnlodeadhnonpaaDoor.Mem
set_option linter.unusedVariables false
set_option linter.unusedSimpArgs false
attribute [local irreducible] wpD wpL
attribute [local go_sem] ne_eq not_true_eq_false not_false_eq_true List.getD_cons_zero Int.lt_irrefl bs_mk str cast0 beq_decide bne_decide beqL natCast_inj' nat_zero bs_nil bt_eq

theorem refGood_fn (v : PV) (hl : v.t.length ≤ 1000000) : FnD Tryd.prog 67 [V v] (bv (goodV v)) := by
  obtain ⟨k, n, t⟩ := v
  refine fn1 mixed Tryd.func67 (by kernel_rfl) rfl Tryd.ntmps67 (by decide) fun s e0 => ?_
  unfold V at e0
  simp only at e0 hl
  by_cases h0 : k = 0
  · by_cases hn : n = 0
    · have hq := Sec.mk (show goodV ⟨k, n, t⟩ = decide (t = []) by unfold goodV; by_cases ht : t = [] <;> simp [h0, hn, ht])
      subst hn
      subst h0
      repeat (first
        | refine d_assoc ?_
        | refine d_sskip ?_
        | (refine d_sreg (by kernel_rfl) fun K hK => ?_; simp only [go_sem, Nat.reduceEqDiff, reduceCtorEq, ↓reduceIte, Nat.reduceMul, Nat.reduceAdd, Nat.reduceLT, Nat.reduceLeDiff, Int.reduceLT, Int.reduceLE, Int.reduceToNat, Nat.reduceBEq, String.reduceNe, String.reduceEq, *]; (first | refine hK.go _ ?_ | refine ⟨by omega, hK.go _ ?_⟩ | refine ⟨by omega, by omega, hK.go _ ?_⟩ | refine ⟨by omega, by omega, by omega, hK.go _ ?_⟩); clear hK K)
        | (refine d_reg (by kernel_rfl) fun K hK => ?_; simp only [go_sem, Nat.reduceEqDiff, reduceCtorEq, ↓reduceIte, Nat.reduceMul, Nat.reduceAdd, Nat.reduceLT, Nat.reduceLeDiff, Int.reduceLT, Int.reduceLE, Int.reduceToNat, Nat.reduceBEq, String.reduceNe, String.reduceEq, *]; (first | refine hK.go _ ?_ | refine ⟨by omega, hK.go _ ?_⟩ | refine ⟨by omega, by omega, hK.go _ ?_⟩ | refine ⟨by omega, by omega, by omega, hK.go _ ?_⟩); clear hK K)
        | (refine d_scond true rfl (fun _ => ?_) (fun h => by cases h))
        | (refine d_scond false rfl (fun h => by cases h) (fun _ => ?_))
        | (refine d_cond true rfl (fun _ => ?_) (fun h => by cases h))
        | (refine d_cond false rfl (fun h => by cases h) (fun _ => ?_))
        | refine d_exit ?_
        | refine d_sexit ?_
        | refine d_ret ?_
        | refine d_sret ?_
        | refine d_skip ?_)
      exact fin1 (.inr rfl) Tryd.results67 (by simp only [go_sem, Nat.reduceEqDiff, reduceCtorEq, ↓reduceIte, Nat.reduceMul, Nat.reduceAdd, Nat.reduceLT, Nat.reduceLeDiff, Int.reduceLT, Int.reduceLE, Int.reduceToNat, Nat.reduceBEq, String.reduceNe, String.reduceEq, *]; rw [hq.out]) rfl
    · have hq := Sec.mk (show goodV ⟨k, n, t⟩ = false from decide_eq_false fun h => by rcases h with h | h | h; (exact hn h.2.1); (have : (0 : Int) = 1 := h0.symm.trans h.1; omega); (have : (0 : Int) = 2 := h0.symm.trans h.1; omega))
      subst h0
      repeat (first
        | refine d_assoc ?_
        | refine d_sskip ?_
        | (refine d_sreg (by kernel_rfl) fun K hK => ?_; simp only [go_sem, Nat.reduceEqDiff, reduceCtorEq, ↓reduceIte, Nat.reduceMul, Nat.reduceAdd, Nat.reduceLT, Nat.reduceLeDiff, Int.reduceLT, Int.reduceLE, Int.reduceToNat, Nat.reduceBEq, String.reduceNe, String.reduceEq, *]; (first | refine hK.go _ ?_ | refine ⟨by omega, hK.go _ ?_⟩ | refine ⟨by omega, by omega, hK.go _ ?_⟩ | refine ⟨by omega, by omega, by omega, hK.go _ ?_⟩); clear hK K)
        | (refine d_reg (by kernel_rfl) fun K hK => ?_; simp only [go_sem, Nat.reduceEqDiff, reduceCtorEq, ↓reduceIte, Nat.reduceMul, Nat.reduceAdd, Nat.reduceLT, Nat.reduceLeDiff, Int.reduceLT, Int.reduceLE, Int.reduceToNat, Nat.reduceBEq, String.reduceNe, String.reduceEq, *]; (first | refine hK.go _ ?_ | refine ⟨by omega, hK.go _ ?_⟩ | refine ⟨by omega, by omega, hK.go _ ?_⟩ | refine ⟨by omega, by omega, by omega, hK.go _ ?_⟩); clear hK K)
        | (refine d_scond true rfl (fun _ => ?_) (fun h => by cases h))
        | (refine d_scond false rfl (fun h => by cases h) (fun _ => ?_))
        | (refine d_cond true rfl (fun _ => ?_) (fun h => by cases h))
        | (refine d_cond false rfl (fun h => by cases h) (fun _ => ?_))
        | refine d_exit ?_
        | refine d_sexit ?_
        | refine d_ret ?_
        | refine d_sret ?_
        | refine d_skip ?_)
      exact fin1 (.inr rfl) Tryd.results67 (by simp only [go_sem, Nat.reduceEqDiff, reduceCtorEq, ↓reduceIte, Nat.reduceMul, Nat.reduceAdd, Nat.reduceLT, Nat.reduceLeDiff, Int.reduceLT, Int.reduceLE, Int.reduceToNat, Nat.reduceBEq, String.reduceNe, String.reduceEq, *]; rw [hq.out]) rfl
  by_cases h1 : k = 1
  · subst h1
    by_cases ht : t = []
    · by_cases ha : -1000000000000 ≤ n
      · have hq := Sec.mk (show goodV ⟨1, n, t⟩ = decide (n ≤ 1000000000000) by unfold goodV; by_cases hb : n ≤ 1000000000000 <;> simp [ht, ha, hb])
        subst ht
        repeat (first
          | refine d_assoc ?_
          | refine d_sskip ?_
          | (refine d_sreg (by kernel_rfl) fun K hK => ?_; simp only [go_sem, Nat.reduceEqDiff, reduceCtorEq, ↓reduceIte, Nat.reduceMul, Nat.reduceAdd, Nat.reduceLT, Nat.reduceLeDiff, Int.reduceLT, Int.reduceLE, Int.reduceToNat, Nat.reduceBEq, String.reduceNe, String.reduceEq, *]; (first | refine hK.go _ ?_ | refine ⟨by omega, hK.go _ ?_⟩ | refine ⟨by omega, by omega, hK.go _ ?_⟩ | refine ⟨by omega, by omega, by omega, hK.go _ ?_⟩); clear hK K)
          | (refine d_reg (by kernel_rfl) fun K hK => ?_; simp only [go_sem, Nat.reduceEqDiff, reduceCtorEq, ↓reduceIte, Nat.reduceMul, Nat.reduceAdd, Nat.reduceLT, Nat.reduceLeDiff, Int.reduceLT, Int.reduceLE, Int.reduceToNat, Nat.reduceBEq, String.reduceNe, String.reduceEq, *]; (first | refine hK.go _ ?_ | refine ⟨by omega, hK.go _ ?_⟩ | refine ⟨by omega, by omega, hK.go _ ?_⟩ | refine ⟨by omega, by omega, by omega, hK.go _ ?_⟩); clear hK K)
          | (refine d_scond true rfl (fun _ => ?_) (fun h => by cases h))
          | (refine d_scond false rfl (fun h => by cases h) (fun _ => ?_))
          | (refine d_cond true rfl (fun _ => ?_) (fun h => by cases h))
          | (refine d_cond false rfl (fun h => by cases h) (fun _ => ?_))
          | refine d_exit ?_
          | refine d_sexit ?_
          | refine d_ret ?_
          | refine d_sret ?_
          | refine d_skip ?_)
        exact fin1 (.inr rfl) Tryd.results67 (by simp only [go_sem, Nat.reduceEqDiff, reduceCtorEq, ↓reduceIte, Nat.reduceMul, Nat.reduceAdd, Nat.reduceLT, Nat.reduceLeDiff, Int.reduceLT, Int.reduceLE, Int.reduceToNat, Nat.reduceBEq, String.reduceNe, String.reduceEq, *]; rw [hq.out]) rfl
      · have hq := Sec.mk (show goodV ⟨1, n, t⟩ = false from decide_eq_false fun h => by rcases h with h | h | h; (cases h.1); (exact ha h.2.2.1); (cases h.1))
        subst ht
        repeat (first
          | refine d_assoc ?_
          | refine d_sskip ?_
          | (refine d_sreg (by kernel_rfl) fun K hK => ?_; simp only [go_sem, Nat.reduceEqDiff, reduceCtorEq, ↓reduceIte, Nat.reduceMul, Nat.reduceAdd, Nat.reduceLT, Nat.reduceLeDiff, Int.reduceLT, Int.reduceLE, Int.reduceToNat, Nat.reduceBEq, String.reduceNe, String.reduceEq, *]; (first | refine hK.go _ ?_ | refine ⟨by omega, hK.go _ ?_⟩ | refine ⟨by omega, by omega, hK.go _ ?_⟩ | refine ⟨by omega, by omega, by omega, hK.go _ ?_⟩); clear hK K)
          | (refine d_reg (by kernel_rfl) fun K hK => ?_; simp only [go_sem, Nat.reduceEqDiff, reduceCtorEq, ↓reduceIte, Nat.reduceMul, Nat.reduceAdd, Nat.reduceLT, Nat.reduceLeDiff, Int.reduceLT, Int.reduceLE, Int.reduceToNat, Nat.reduceBEq, String.reduceNe, String.reduceEq, *]; (first | refine hK.go _ ?_ | refine ⟨by omega, hK.go _ ?_⟩ | refine ⟨by omega, by omega, hK.go _ ?_⟩ | refine ⟨by omega, by omega, by omega, hK.go _ ?_⟩); clear hK K)
          | (refine d_scond true rfl (fun _ => ?_) (fun h => by cases h))
          | (refine d_scond false rfl (fun h => by cases h) (fun _ => ?_))
          | (refine d_cond true rfl (fun _ => ?_) (fun h => by cases h))
          | (refine d_cond false rfl (fun h => by cases h) (fun _ => ?_))
          | refine d_exit ?_
          | refine d_sexit ?_
          | refine d_ret ?_
          | refine d_sret ?_
          | refine d_skip ?_)
        exact fin1 (.inr rfl) Tryd.results67 (by simp only [go_sem, Nat.reduceEqDiff, reduceCtorEq, ↓reduceIte, Nat.reduceMul, Nat.reduceAdd, Nat.reduceLT, Nat.reduceLeDiff, Int.reduceLT, Int.reduceLE, Int.reduceToNat, Nat.reduceBEq, String.reduceNe, String.reduceEq, *]; rw [hq.out]) rfl
    · have hq := Sec.mk (show goodV ⟨1, n, t⟩ = false from decide_eq_false fun h => by rcases h with h | h | h; (cases h.1); (exact ht h.2.1); (cases h.1))
      repeat (first
        | refine d_assoc ?_
        | refine d_sskip ?_
        | (refine d_sreg (by kernel_rfl) fun K hK => ?_; simp only [go_sem, Nat.reduceEqDiff, reduceCtorEq, ↓reduceIte, Nat.reduceMul, Nat.reduceAdd, Nat.reduceLT, Nat.reduceLeDiff, Int.reduceLT, Int.reduceLE, Int.reduceToNat, Nat.reduceBEq, String.reduceNe, String.reduceEq, *]; (first | refine hK.go _ ?_ | refine ⟨by omega, hK.go _ ?_⟩ | refine ⟨by omega, by omega, hK.go _ ?_⟩ | refine ⟨by omega, by omega, by omega, hK.go _ ?_⟩); clear hK K)
        | (refine d_reg (by kernel_rfl) fun K hK => ?_; simp only [go_sem, Nat.reduceEqDiff, reduceCtorEq, ↓reduceIte, Nat.reduceMul, Nat.reduceAdd, Nat.reduceLT, Nat.reduceLeDiff, Int.reduceLT, Int.reduceLE, Int.reduceToNat, Nat.reduceBEq, String.reduceNe, String.reduceEq, *]; (first | refine hK.go _ ?_ | refine ⟨by omega, hK.go _ ?_⟩ | refine ⟨by omega, by omega, hK.go _ ?_⟩ | refine ⟨by omega, by omega, by omega, hK.go _ ?_⟩); clear hK K)
        | (refine d_scond true rfl (fun _ => ?_) (fun h => by cases h))
        | (refine d_scond false rfl (fun h => by cases h) (fun _ => ?_))
        | (refine d_cond true rfl (fun _ => ?_) (fun h => by cases h))
        | (refine d_cond false rfl (fun h => by cases h) (fun _ => ?_))
        | refine d_exit ?_
        | refine d_sexit ?_
        | refine d_ret ?_
        | refine d_sret ?_
        | refine d_skip ?_)
      exact fin1 (.inr rfl) Tryd.results67 (by simp only [go_sem, Nat.reduceEqDiff, reduceCtorEq, ↓reduceIte, Nat.reduceMul, Nat.reduceAdd, Nat.reduceLT, Nat.reduceLeDiff, Int.reduceLT, Int.reduceLE, Int.reduceToNat, Nat.reduceBEq, String.reduceNe, String.reduceEq, *]; rw [hq.out]) rfl
  repeat (first
    | refine d_assoc ?_
    | refine d_sskip ?_
    | (refine d_sreg (by kernel_rfl) fun K hK => ?_; simp only [go_sem, Nat.reduceEqDiff, reduceCtorEq, ↓reduceIte, Nat.reduceMul, Nat.reduceAdd, Nat.reduceLT, Nat.reduceLeDiff, Int.reduceLT, Int.reduceLE, Int.reduceToNat, Nat.reduceBEq, String.reduceNe, String.reduceEq, *]; (first | refine hK.go _ ?_ | refine ⟨by omega, hK.go _ ?_⟩ | refine ⟨by omega, by omega, hK.go _ ?_⟩ | refine ⟨by omega, by omega, by omega, hK.go _ ?_⟩); clear hK K)
    | (refine d_reg (by kernel_rfl) fun K hK => ?_; simp only [go_sem, Nat.reduceEqDiff, reduceCtorEq, ↓reduceIte, Nat.reduceMul, Nat.reduceAdd, Nat.reduceLT, Nat.reduceLeDiff, Int.reduceLT, Int.reduceLE, Int.reduceToNat, Nat.reduceBEq, String.reduceNe, String.reduceEq, *]; (first | refine hK.go _ ?_ | refine ⟨by omega, hK.go _ ?_⟩ | refine ⟨by omega, by omega, hK.go _ ?_⟩ | refine ⟨by omega, by omega, by omega, hK.go _ ?_⟩); clear hK K)
    | (refine d_scond true rfl (fun _ => ?_) (fun h => by cases h))
    | (refine d_scond false rfl (fun h => by cases h) (fun _ => ?_))
    | (refine d_cond true rfl (fun _ => ?_) (fun h => by cases h))
    | (refine d_cond false rfl (fun h => by cases h) (fun _ => ?_))
    | refine d_exit ?_
    | refine d_sexit ?_
    | refine d_ret ?_
    | refine d_sret ?_
    | refine d_skip ?_)
  refine d_sblock fun K hK => ?_
  refine d_loop (fun s => ∃ (i g : Nat), s.env 1 = .ref (1, g) 0 ∧ s.heap (1, g) = some [iv .i64 k, iv .i64 n, sv t] ∧ s.env 3 = iv .i64 i ∧ i ≤ t.length ∧ Sec (∀ j, j < i → isP (bt t j) = true)) (fun s => t.length - idx (s.env 3)) ?_ ?_
  · exact ⟨0, s.gen 1, by simp only [go_sem, Nat.reduceEqDiff, reduceCtorEq, ↓reduceIte, Nat.reduceMul, Nat.reduceAdd, Nat.reduceLT, Nat.reduceLeDiff, Int.reduceLT, Int.reduceLE, Int.reduceToNat, Nat.reduceBEq, String.reduceNe, String.reduceEq, *], by simp only [go_sem, Nat.reduceEqDiff, reduceCtorEq, ↓reduceIte, Nat.reduceMul, Nat.reduceAdd, Nat.reduceLT, Nat.reduceLeDiff, Int.reduceLT, Int.reduceLE, Int.reduceToNat, Nat.reduceBEq, String.reduceNe, String.reduceEq, *], by simp only [go_sem, Nat.reduceEqDiff, reduceCtorEq, ↓reduceIte, Nat.reduceMul, Nat.reduceAdd, Nat.reduceLT, Nat.reduceLeDiff, Int.reduceLT, Int.reduceLE, Int.reduceToNat, Nat.reduceBEq, String.reduceNe, String.reduceEq, *] <;> rfl, Nat.zero_le _, ⟨fun j hj => by omega⟩⟩
  clear e0
  rintro s1 K1 ⟨i, g, e1, eh, e3, hi, hS⟩ hK1
  have hw := wi i (by omega)
  by_cases hi1 : i < t.length
  · by_cases ha : bt t i < 32
    · have hq := Sec.mk (show goodV ⟨k, n, t⟩ = false from decide_eq_false fun h => by
        rcases h with h | h | h
        · exact h0 h.1
        · exact h1 h.1
        · have h2 := (of_decide_eq_true h.2.2).2 i hi1
          have := (show 32 ≤ bt t i ∧ bt t i ≤ 126 from of_decide_eq_true h2)
          omega)
      repeat (first
        | refine d_assoc ?_
        | refine d_sskip ?_
        | (refine d_sreg (by kernel_rfl) fun K hK => ?_; simp only [go_sem, Nat.reduceEqDiff, reduceCtorEq, ↓reduceIte, Nat.reduceMul, Nat.reduceAdd, Nat.reduceLT, Nat.reduceLeDiff, Int.reduceLT, Int.reduceLE, Int.reduceToNat, Nat.reduceBEq, String.reduceNe, String.reduceEq, *]; (first | refine hK.go _ ?_ | refine ⟨by omega, hK.go _ ?_⟩ | refine ⟨by omega, by omega, hK.go _ ?_⟩ | refine ⟨by omega, by omega, by omega, hK.go _ ?_⟩); clear hK K)
        | (refine d_reg (by kernel_rfl) fun K hK => ?_; simp only [go_sem, Nat.reduceEqDiff, reduceCtorEq, ↓reduceIte, Nat.reduceMul, Nat.reduceAdd, Nat.reduceLT, Nat.reduceLeDiff, Int.reduceLT, Int.reduceLE, Int.reduceToNat, Nat.reduceBEq, String.reduceNe, String.reduceEq, *]; (first | refine hK.go _ ?_ | refine ⟨by omega, hK.go _ ?_⟩ | refine ⟨by omega, by omega, hK.go _ ?_⟩ | refine ⟨by omega, by omega, by omega, hK.go _ ?_⟩); clear hK K)
        | (refine d_scond true rfl (fun _ => ?_) (fun h => by cases h))
        | (refine d_scond false rfl (fun h => by cases h) (fun _ => ?_))
        | (refine d_cond true rfl (fun _ => ?_) (fun h => by cases h))
        | (refine d_cond false rfl (fun h => by cases h) (fun _ => ?_))
        | refine d_exit ?_
        | refine d_sexit ?_
        | refine d_ret ?_
        | refine d_sret ?_
        | refine d_skip ?_)
      refine d_sblock fun K2 hK2 => ?_
      repeat (first
        | refine d_assoc ?_
        | refine d_sskip ?_
        | (refine d_sreg (by kernel_rfl) fun K hK => ?_; simp only [go_sem, Nat.reduceEqDiff, reduceCtorEq, ↓reduceIte, Nat.reduceMul, Nat.reduceAdd, Nat.reduceLT, Nat.reduceLeDiff, Int.reduceLT, Int.reduceLE, Int.reduceToNat, Nat.reduceBEq, String.reduceNe, String.reduceEq, *]; (first | refine hK.go _ ?_ | refine ⟨by omega, hK.go _ ?_⟩ | refine ⟨by omega, by omega, hK.go _ ?_⟩ | refine ⟨by omega, by omega, by omega, hK.go _ ?_⟩); clear hK K)
        | (refine d_reg (by kernel_rfl) fun K hK => ?_; simp only [go_sem, Nat.reduceEqDiff, reduceCtorEq, ↓reduceIte, Nat.reduceMul, Nat.reduceAdd, Nat.reduceLT, Nat.reduceLeDiff, Int.reduceLT, Int.reduceLE, Int.reduceToNat, Nat.reduceBEq, String.reduceNe, String.reduceEq, *]; (first | refine hK.go _ ?_ | refine ⟨by omega, hK.go _ ?_⟩ | refine ⟨by omega, by omega, hK.go _ ?_⟩ | refine ⟨by omega, by omega, by omega, hK.go _ ?_⟩); clear hK K)
        | (refine d_scond true rfl (fun _ => ?_) (fun h => by cases h))
        | (refine d_scond false rfl (fun h => by cases h) (fun _ => ?_))
        | (refine d_cond true rfl (fun _ => ?_) (fun h => by cases h))
        | (refine d_cond false rfl (fun h => by cases h) (fun _ => ?_))
        | refine d_exit ?_
        | refine d_sexit ?_
        | refine d_ret ?_
        | refine d_sret ?_
        | refine d_skip ?_)
      repeat (first | simp only [thenD, blockD, Nat.reduceEqDiff, reduceCtorEq, ↓reduceIte] | refine Imp.go (by assumption) _ ?_)
      exact fin1 (.inr rfl) Tryd.results67 (by simp only [go_sem, Nat.reduceEqDiff, reduceCtorEq, ↓reduceIte, Nat.reduceMul, Nat.reduceAdd, Nat.reduceLT, Nat.reduceLeDiff, Int.reduceLT, Int.reduceLE, Int.reduceToNat, Nat.reduceBEq, String.reduceNe, String.reduceEq, *]; rw [hq.out]) rfl
    · by_cases hb : 126 < bt t i
      · have hq := Sec.mk (show goodV ⟨k, n, t⟩ = false from decide_eq_false fun h => by
          rcases h with h | h | h
          · exact h0 h.1
          · exact h1 h.1
          · have h2 := (of_decide_eq_true h.2.2).2 i hi1
            have := (show 32 ≤ bt t i ∧ bt t i ≤ 126 from of_decide_eq_true h2)
            omega)
        repeat (first
          | refine d_assoc ?_
          | refine d_sskip ?_
          | (refine d_sreg (by kernel_rfl) fun K hK => ?_; simp only [go_sem, Nat.reduceEqDiff, reduceCtorEq, ↓reduceIte, Nat.reduceMul, Nat.reduceAdd, Nat.reduceLT, Nat.reduceLeDiff, Int.reduceLT, Int.reduceLE, Int.reduceToNat, Nat.reduceBEq, String.reduceNe, String.reduceEq, *]; (first | refine hK.go _ ?_ | refine ⟨by omega, hK.go _ ?_⟩ | refine ⟨by omega, by omega, hK.go _ ?_⟩ | refine ⟨by omega, by omega, by omega, hK.go _ ?_⟩); clear hK K)
          | (refine d_reg (by kernel_rfl) fun K hK => ?_; simp only [go_sem, Nat.reduceEqDiff, reduceCtorEq, ↓reduceIte, Nat.reduceMul, Nat.reduceAdd, Nat.reduceLT, Nat.reduceLeDiff, Int.reduceLT, Int.reduceLE, Int.reduceToNat, Nat.reduceBEq, String.reduceNe, String.reduceEq, *]; (first | refine hK.go _ ?_ | refine ⟨by omega, hK.go _ ?_⟩ | refine ⟨by omega, by omega, hK.go _ ?_⟩ | refine ⟨by omega, by omega, by omega, hK.go _ ?_⟩); clear hK K)
          | (refine d_scond true rfl (fun _ => ?_) (fun h => by cases h))
          | (refine d_scond false rfl (fun h => by cases h) (fun _ => ?_))
          | (refine d_cond true rfl (fun _ => ?_) (fun h => by cases h))
          | (refine d_cond false rfl (fun h => by cases h) (fun _ => ?_))
          | refine d_exit ?_
          | refine d_sexit ?_
          | refine d_ret ?_
          | refine d_sret ?_
          | refine d_skip ?_)
        refine d_sblock fun K2 hK2 => ?_
        repeat (first
          | refine d_assoc ?_
          | refine d_sskip ?_
          | (refine d_sreg (by kernel_rfl) fun K hK => ?_; simp only [go_sem, Nat.reduceEqDiff, reduceCtorEq, ↓reduceIte, Nat.reduceMul, Nat.reduceAdd, Nat.reduceLT, Nat.reduceLeDiff, Int.reduceLT, Int.reduceLE, Int.reduceToNat, Nat.reduceBEq, String.reduceNe, String.reduceEq, *]; (first | refine hK.go _ ?_ | refine ⟨by omega, hK.go _ ?_⟩ | refine ⟨by omega, by omega, hK.go _ ?_⟩ | refine ⟨by omega, by omega, by omega, hK.go _ ?_⟩); clear hK K)
          | (refine d_reg (by kernel_rfl) fun K hK => ?_; simp only [go_sem, Nat.reduceEqDiff, reduceCtorEq, ↓reduceIte, Nat.reduceMul, Nat.reduceAdd, Nat.reduceLT, Nat.reduceLeDiff, Int.reduceLT, Int.reduceLE, Int.reduceToNat, Nat.reduceBEq, String.reduceNe, String.reduceEq, *]; (first | refine hK.go _ ?_ | refine ⟨by omega, hK.go _ ?_⟩ | refine ⟨by omega, by omega, hK.go _ ?_⟩ | refine ⟨by omega, by omega, by omega, hK.go _ ?_⟩); clear hK K)
          | (refine d_scond true rfl (fun _ => ?_) (fun h => by cases h))
          | (refine d_scond false rfl (fun h => by cases h) (fun _ => ?_))
          | (refine d_cond true rfl (fun _ => ?_) (fun h => by cases h))
          | (refine d_cond false rfl (fun h => by cases h) (fun _ => ?_))
          | refine d_exit ?_
          | refine d_sexit ?_
          | refine d_ret ?_
          | refine d_sret ?_
          | refine d_skip ?_)
        repeat (first | simp only [thenD, blockD, Nat.reduceEqDiff, reduceCtorEq, ↓reduceIte] | refine Imp.go (by assumption) _ ?_)
        exact fin1 (.inr rfl) Tryd.results67 (by simp only [go_sem, Nat.reduceEqDiff, reduceCtorEq, ↓reduceIte, Nat.reduceMul, Nat.reduceAdd, Nat.reduceLT, Nat.reduceLeDiff, Int.reduceLT, Int.reduceLE, Int.reduceToNat, Nat.reduceBEq, String.reduceNe, String.reduceEq, *]; rw [hq.out]) rfl
      · have hN := Sec.mk (show ∀ j, j < i + 1 → isP (bt t j) = true from fun j hj => by
          by_cases e : j = i
          · rw [e]; exact decide_eq_true ⟨by omega, by omega⟩
          · exact hS.out j (by omega))
        repeat (first
          | refine d_assoc ?_
          | refine d_sskip ?_
          | (refine d_sreg (by kernel_rfl) fun K hK => ?_; simp only [go_sem, Nat.reduceEqDiff, reduceCtorEq, ↓reduceIte, Nat.reduceMul, Nat.reduceAdd, Nat.reduceLT, Nat.reduceLeDiff, Int.reduceLT, Int.reduceLE, Int.reduceToNat, Nat.reduceBEq, String.reduceNe, String.reduceEq, *]; (first | refine hK.go _ ?_ | refine ⟨by omega, hK.go _ ?_⟩ | refine ⟨by omega, by omega, hK.go _ ?_⟩ | refine ⟨by omega, by omega, by omega, hK.go _ ?_⟩); clear hK K)
          | (refine d_reg (by kernel_rfl) fun K hK => ?_; simp only [go_sem, Nat.reduceEqDiff, reduceCtorEq, ↓reduceIte, Nat.reduceMul, Nat.reduceAdd, Nat.reduceLT, Nat.reduceLeDiff, Int.reduceLT, Int.reduceLE, Int.reduceToNat, Nat.reduceBEq, String.reduceNe, String.reduceEq, *]; (first | refine hK.go _ ?_ | refine ⟨by omega, hK.go _ ?_⟩ | refine ⟨by omega, by omega, hK.go _ ?_⟩ | refine ⟨by omega, by omega, by omega, hK.go _ ?_⟩); clear hK K)
          | (refine d_scond true rfl (fun _ => ?_) (fun h => by cases h))
          | (refine d_scond false rfl (fun h => by cases h) (fun _ => ?_))
          | (refine d_cond true rfl (fun _ => ?_) (fun h => by cases h))
          | (refine d_cond false rfl (fun h => by cases h) (fun _ => ?_))
          | refine d_exit ?_
          | refine d_sexit ?_
          | refine d_ret ?_
          | refine d_sret ?_
          | refine d_skip ?_)
        refine d_sblock fun K2 hK2 => ?_
        repeat (first
          | refine d_assoc ?_
          | refine d_sskip ?_
          | (refine d_sreg (by kernel_rfl) fun K hK => ?_; simp only [go_sem, Nat.reduceEqDiff, reduceCtorEq, ↓reduceIte, Nat.reduceMul, Nat.reduceAdd, Nat.reduceLT, Nat.reduceLeDiff, Int.reduceLT, Int.reduceLE, Int.reduceToNat, Nat.reduceBEq, String.reduceNe, String.reduceEq, *]; (first | refine hK.go _ ?_ | refine ⟨by omega, hK.go _ ?_⟩ | refine ⟨by omega, by omega, hK.go _ ?_⟩ | refine ⟨by omega, by omega, by omega, hK.go _ ?_⟩); clear hK K)
          | (refine d_reg (by kernel_rfl) fun K hK => ?_; simp only [go_sem, Nat.reduceEqDiff, reduceCtorEq, ↓reduceIte, Nat.reduceMul, Nat.reduceAdd, Nat.reduceLT, Nat.reduceLeDiff, Int.reduceLT, Int.reduceLE, Int.reduceToNat, Nat.reduceBEq, String.reduceNe, String.reduceEq, *]; (first | refine hK.go _ ?_ | refine ⟨by omega, hK.go _ ?_⟩ | refine ⟨by omega, by omega, hK.go _ ?_⟩ | refine ⟨by omega, by omega, by omega, hK.go _ ?_⟩); clear hK K)
          | (refine d_scond true rfl (fun _ => ?_) (fun h => by cases h))
          | (refine d_scond false rfl (fun h => by cases h) (fun _ => ?_))
          | (refine d_cond true rfl (fun _ => ?_) (fun h => by cases h))
          | (refine d_cond false rfl (fun h => by cases h) (fun _ => ?_))
          | refine d_exit ?_
          | refine d_sexit ?_
          | refine d_ret ?_
          | refine d_sret ?_
          | refine d_skip ?_)
        repeat (first | simp only [thenD, blockD, Nat.reduceEqDiff, reduceCtorEq, ↓reduceIte] | refine Imp.go (by assumption) _ ?_)
        repeat (first
          | refine d_assoc ?_
          | refine d_sskip ?_
          | (refine d_sreg (by kernel_rfl) fun K hK => ?_; simp only [go_sem, Nat.reduceEqDiff, reduceCtorEq, ↓reduceIte, Nat.reduceMul, Nat.reduceAdd, Nat.reduceLT, Nat.reduceLeDiff, Int.reduceLT, Int.reduceLE, Int.reduceToNat, Nat.reduceBEq, String.reduceNe, String.reduceEq, *]; (first | refine hK.go _ ?_ | refine ⟨by omega, hK.go _ ?_⟩ | refine ⟨by omega, by omega, hK.go _ ?_⟩ | refine ⟨by omega, by omega, by omega, hK.go _ ?_⟩); clear hK K)
          | (refine d_reg (by kernel_rfl) fun K hK => ?_; simp only [go_sem, Nat.reduceEqDiff, reduceCtorEq, ↓reduceIte, Nat.reduceMul, Nat.reduceAdd, Nat.reduceLT, Nat.reduceLeDiff, Int.reduceLT, Int.reduceLE, Int.reduceToNat, Nat.reduceBEq, String.reduceNe, String.reduceEq, *]; (first | refine hK.go _ ?_ | refine ⟨by omega, hK.go _ ?_⟩ | refine ⟨by omega, by omega, hK.go _ ?_⟩ | refine ⟨by omega, by omega, by omega, hK.go _ ?_⟩); clear hK K)
          | (refine d_scond true rfl (fun _ => ?_) (fun h => by cases h))
          | (refine d_scond false rfl (fun h => by cases h) (fun _ => ?_))
          | (refine d_cond true rfl (fun _ => ?_) (fun h => by cases h))
          | (refine d_cond false rfl (fun h => by cases h) (fun _ => ?_))
          | refine d_exit ?_
          | refine d_sexit ?_
          | refine d_ret ?_
          | refine d_sret ?_
          | refine d_skip ?_)
        repeat (first | simp only [thenD, blockD, Nat.reduceEqDiff, reduceCtorEq, ↓reduceIte] | refine Imp.go (by assumption) _ ?_)
        exact ⟨⟨i + 1, g, by simp only [go_sem, Nat.reduceEqDiff, reduceCtorEq, ↓reduceIte, Nat.reduceMul, Nat.reduceAdd, Nat.reduceLT, Nat.reduceLeDiff, Int.reduceLT, Int.reduceLE, Int.reduceToNat, Nat.reduceBEq, String.reduceNe, String.reduceEq, *], by simp only [go_sem, Nat.reduceEqDiff, reduceCtorEq, ↓reduceIte, Nat.reduceMul, Nat.reduceAdd, Nat.reduceLT, Nat.reduceLeDiff, Int.reduceLT, Int.reduceLE, Int.reduceToNat, Nat.reduceBEq, String.reduceNe, String.reduceEq, *], by simp only [go_sem, Nat.reduceEqDiff, reduceCtorEq, ↓reduceIte, Nat.reduceMul, Nat.reduceAdd, Nat.reduceLT, Nat.reduceLeDiff, Int.reduceLT, Int.reduceLE, Int.reduceToNat, Nat.reduceBEq, String.reduceNe, String.reduceEq, *], hi1, hN⟩, by simp only [go_sem, Nat.reduceEqDiff, reduceCtorEq, ↓reduceIte, Nat.reduceMul, Nat.reduceAdd, Nat.reduceLT, Nat.reduceLeDiff, Int.reduceLT, Int.reduceLE, Int.reduceToNat, Nat.reduceBEq, String.reduceNe, String.reduceEq, *, idx]; exact mlt hi1⟩
  · have hP : ∀ j, j < t.length → isP (bt t j) = true := fun j hj => hS.out j (by omega)
    by_cases h2 : k = 2
    · by_cases hn : n = 0
      · have hq := Sec.mk (show goodV ⟨k, n, t⟩ = decide ((t.length : Int) < 101) by
          unfold goodV isT
          subst h2
          subst hn
          by_cases h100 : t.length ≤ 100
          · rw [decide_eq_true (show (t.length : Int) < 101 by omega)]
            exact decide_eq_true (.inr (.inr ⟨rfl, rfl, decide_eq_true ⟨h100, hP⟩⟩))
          · rw [decide_eq_false (show ¬ (t.length : Int) < 101 by omega)]
            exact decide_eq_false fun h => by
              rcases h with h | h | h
              · cases h.1
              · cases h.1
              · exact h100 (of_decide_eq_true h.2.2).1)
        clear hP
        subst h2
        subst hn
        repeat (first
          | refine d_assoc ?_
          | refine d_sskip ?_
          | (refine d_sreg (by kernel_rfl) fun K hK => ?_; simp only [go_sem, Nat.reduceEqDiff, reduceCtorEq, ↓reduceIte, Nat.reduceMul, Nat.reduceAdd, Nat.reduceLT, Nat.reduceLeDiff, Int.reduceLT, Int.reduceLE, Int.reduceToNat, Nat.reduceBEq, String.reduceNe, String.reduceEq, *]; (first | refine hK.go _ ?_ | refine ⟨by omega, hK.go _ ?_⟩ | refine ⟨by omega, by omega, hK.go _ ?_⟩ | refine ⟨by omega, by omega, by omega, hK.go _ ?_⟩); clear hK K)
          | (refine d_reg (by kernel_rfl) fun K hK => ?_; simp only [go_sem, Nat.reduceEqDiff, reduceCtorEq, ↓reduceIte, Nat.reduceMul, Nat.reduceAdd, Nat.reduceLT, Nat.reduceLeDiff, Int.reduceLT, Int.reduceLE, Int.reduceToNat, Nat.reduceBEq, String.reduceNe, String.reduceEq, *]; (first | refine hK.go _ ?_ | refine ⟨by omega, hK.go _ ?_⟩ | refine ⟨by omega, by omega, hK.go _ ?_⟩ | refine ⟨by omega, by omega, by omega, hK.go _ ?_⟩); clear hK K)
          | (refine d_scond true rfl (fun _ => ?_) (fun h => by cases h))
          | (refine d_scond false rfl (fun h => by cases h) (fun _ => ?_))
          | (refine d_cond true rfl (fun _ => ?_) (fun h => by cases h))
          | (refine d_cond false rfl (fun h => by cases h) (fun _ => ?_))
          | refine d_exit ?_
          | refine d_sexit ?_
          | refine d_ret ?_
          | refine d_sret ?_
          | refine d_skip ?_)
        repeat (first | simp only [thenD, blockD, Nat.reduceEqDiff, reduceCtorEq, ↓reduceIte] | refine Imp.go (by assumption) _ ?_)
        repeat (first
          | refine d_assoc ?_
          | refine d_sskip ?_
          | (refine d_sreg (by kernel_rfl) fun K hK => ?_; simp only [go_sem, Nat.reduceEqDiff, reduceCtorEq, ↓reduceIte, Nat.reduceMul, Nat.reduceAdd, Nat.reduceLT, Nat.reduceLeDiff, Int.reduceLT, Int.reduceLE, Int.reduceToNat, Nat.reduceBEq, String.reduceNe, String.reduceEq, *]; (first | refine hK.go _ ?_ | refine ⟨by omega, hK.go _ ?_⟩ | refine ⟨by omega, by omega, hK.go _ ?_⟩ | refine ⟨by omega, by omega, by omega, hK.go _ ?_⟩); clear hK K)
          | (refine d_reg (by kernel_rfl) fun K hK => ?_; simp only [go_sem, Nat.reduceEqDiff, reduceCtorEq, ↓reduceIte, Nat.reduceMul, Nat.reduceAdd, Nat.reduceLT, Nat.reduceLeDiff, Int.reduceLT, Int.reduceLE, Int.reduceToNat, Nat.reduceBEq, String.reduceNe, String.reduceEq, *]; (first | refine hK.go _ ?_ | refine ⟨by omega, hK.go _ ?_⟩ | refine ⟨by omega, by omega, hK.go _ ?_⟩ | refine ⟨by omega, by omega, by omega, hK.go _ ?_⟩); clear hK K)
          | (refine d_scond true rfl (fun _ => ?_) (fun h => by cases h))
          | (refine d_scond false rfl (fun h => by cases h) (fun _ => ?_))
          | (refine d_cond true rfl (fun _ => ?_) (fun h => by cases h))
          | (refine d_cond false rfl (fun h => by cases h) (fun _ => ?_))
          | refine d_exit ?_
          | refine d_sexit ?_
          | refine d_ret ?_
          | refine d_sret ?_
          | refine d_skip ?_)
        exact fin1 (.inr rfl) Tryd.results67 (by simp only [go_sem, Nat.reduceEqDiff, reduceCtorEq, ↓reduceIte, Nat.reduceMul, Nat.reduceAdd, Nat.reduceLT, Nat.reduceLeDiff, Int.reduceLT, Int.reduceLE, Int.reduceToNat, Nat.reduceBEq, String.reduceNe, String.reduceEq, *]; rw [hq.out]) rfl
      · have hq := Sec.mk (show goodV ⟨k, n, t⟩ = false from decide_eq_false fun h => by rcases h with h | h | h; (exact h0 h.1); (exact h1 h.1); (exact hn h.2.1))
        clear hP
        subst h2
        repeat (first
          | refine d_assoc ?_
          | refine d_sskip ?_
          | (refine d_sreg (by kernel_rfl) fun K hK => ?_; simp only [go_sem, Nat.reduceEqDiff, reduceCtorEq, ↓reduceIte, Nat.reduceMul, Nat.reduceAdd, Nat.reduceLT, Nat.reduceLeDiff, Int.reduceLT, Int.reduceLE, Int.reduceToNat, Nat.reduceBEq, String.reduceNe, String.reduceEq, *]; (first | refine hK.go _ ?_ | refine ⟨by omega, hK.go _ ?_⟩ | refine ⟨by omega, by omega, hK.go _ ?_⟩ | refine ⟨by omega, by omega, by omega, hK.go _ ?_⟩); clear hK K)
          | (refine d_reg (by kernel_rfl) fun K hK => ?_; simp only [go_sem, Nat.reduceEqDiff, reduceCtorEq, ↓reduceIte, Nat.reduceMul, Nat.reduceAdd, Nat.reduceLT, Nat.reduceLeDiff, Int.reduceLT, Int.reduceLE, Int.reduceToNat, Nat.reduceBEq, String.reduceNe, String.reduceEq, *]; (first | refine hK.go _ ?_ | refine ⟨by omega, hK.go _ ?_⟩ | refine ⟨by omega, by omega, hK.go _ ?_⟩ | refine ⟨by omega, by omega, by omega, hK.go _ ?_⟩); clear hK K)
          | (refine d_scond true rfl (fun _ => ?_) (fun h => by cases h))
          | (refine d_scond false rfl (fun h => by cases h) (fun _ => ?_))
          | (refine d_cond true rfl (fun _ => ?_) (fun h => by cases h))
          | (refine d_cond false rfl (fun h => by cases h) (fun _ => ?_))
          | refine d_exit ?_
          | refine d_sexit ?_
          | refine d_ret ?_
          | refine d_sret ?_
          | refine d_skip ?_)
        repeat (first | simp only [thenD, blockD, Nat.reduceEqDiff, reduceCtorEq, ↓reduceIte] | refine Imp.go (by assumption) _ ?_)
        repeat (first
          | refine d_assoc ?_
          | refine d_sskip ?_
          | (refine d_sreg (by kernel_rfl) fun K hK => ?_; simp only [go_sem, Nat.reduceEqDiff, reduceCtorEq, ↓reduceIte, Nat.reduceMul, Nat.reduceAdd, Nat.reduceLT, Nat.reduceLeDiff, Int.reduceLT, Int.reduceLE, Int.reduceToNat, Nat.reduceBEq, String.reduceNe, String.reduceEq, *]; (first | refine hK.go _ ?_ | refine ⟨by omega, hK.go _ ?_⟩ | refine ⟨by omega, by omega, hK.go _ ?_⟩ | refine ⟨by omega, by omega, by omega, hK.go _ ?_⟩); clear hK K)
          | (refine d_reg (by kernel_rfl) fun K hK => ?_; simp only [go_sem, Nat.reduceEqDiff, reduceCtorEq, ↓reduceIte, Nat.reduceMul, Nat.reduceAdd, Nat.reduceLT, Nat.reduceLeDiff, Int.reduceLT, Int.reduceLE, Int.reduceToNat, Nat.reduceBEq, String.reduceNe, String.reduceEq, *]; (first | refine hK.go _ ?_ | refine ⟨by omega, hK.go _ ?_⟩ | refine ⟨by omega, by omega, hK.go _ ?_⟩ | refine ⟨by omega, by omega, by omega, hK.go _ ?_⟩); clear hK K)
          | (refine d_scond true rfl (fun _ => ?_) (fun h => by cases h))
          | (refine d_scond false rfl (fun h => by cases h) (fun _ => ?_))
          | (refine d_cond true rfl (fun _ => ?_) (fun h => by cases h))
          | (refine d_cond false rfl (fun h => by cases h) (fun _ => ?_))
          | refine d_exit ?_
          | refine d_sexit ?_
          | refine d_ret ?_
          | refine d_sret ?_
          | refine d_skip ?_)
        exact fin1 (.inr rfl) Tryd.results67 (by simp only [go_sem, Nat.reduceEqDiff, reduceCtorEq, ↓reduceIte, Nat.reduceMul, Nat.reduceAdd, Nat.reduceLT, Nat.reduceLeDiff, Int.reduceLT, Int.reduceLE, Int.reduceToNat, Nat.reduceBEq, String.reduceNe, String.reduceEq, *]; rw [hq.out]) rfl
    · have hq := Sec.mk (show goodV ⟨k, n, t⟩ = false from decide_eq_false fun h => by rcases h with h | h | h; (exact h0 h.1); (exact h1 h.1); (exact h2 h.1))
      clear hP
      repeat (first
        | refine d_assoc ?_
        | refine d_sskip ?_
        | (refine d_sreg (by kernel_rfl) fun K hK => ?_; simp only [go_sem, Nat.reduceEqDiff, reduceCtorEq, ↓reduceIte, Nat.reduceMul, Nat.reduceAdd, Nat.reduceLT, Nat.reduceLeDiff, Int.reduceLT, Int.reduceLE, Int.reduceToNat, Nat.reduceBEq, String.reduceNe, String.reduceEq, *]; (first | refine hK.go _ ?_ | refine ⟨by omega, hK.go _ ?_⟩ | refine ⟨by omega, by omega, hK.go _ ?_⟩ | refine ⟨by omega, by omega, by omega, hK.go _ ?_⟩); clear hK K)
        | (refine d_reg (by kernel_rfl) fun K hK => ?_; simp only [go_sem, Nat.reduceEqDiff, reduceCtorEq, ↓reduceIte, Nat.reduceMul, Nat.reduceAdd, Nat.reduceLT, Nat.reduceLeDiff, Int.reduceLT, Int.reduceLE, Int.reduceToNat, Nat.reduceBEq, String.reduceNe, String.reduceEq, *]; (first | refine hK.go _ ?_ | refine ⟨by omega, hK.go _ ?_⟩ | refine ⟨by omega, by omega, hK.go _ ?_⟩ | refine ⟨by omega, by omega, by omega, hK.go _ ?_⟩); clear hK K)
        | (refine d_scond true rfl (fun _ => ?_) (fun h => by cases h))
        | (refine d_scond false rfl (fun h => by cases h) (fun _ => ?_))
        | (refine d_cond true rfl (fun _ => ?_) (fun h => by cases h))
        | (refine d_cond false rfl (fun h => by cases h) (fun _ => ?_))
        | refine d_exit ?_
        | refine d_sexit ?_
        | refine d_ret ?_
        | refine d_sret ?_
        | refine d_skip ?_)
      repeat (first | simp only [thenD, blockD, Nat.reduceEqDiff, reduceCtorEq, ↓reduceIte] | refine Imp.go (by assumption) _ ?_)
      repeat (first
        | refine d_assoc ?_
        | refine d_sskip ?_
        | (refine d_sreg (by kernel_rfl) fun K hK => ?_; simp only [go_sem, Nat.reduceEqDiff, reduceCtorEq, ↓reduceIte, Nat.reduceMul, Nat.reduceAdd, Nat.reduceLT, Nat.reduceLeDiff, Int.reduceLT, Int.reduceLE, Int.reduceToNat, Nat.reduceBEq, String.reduceNe, String.reduceEq, *]; (first | refine hK.go _ ?_ | refine ⟨by omega, hK.go _ ?_⟩ | refine ⟨by omega, by omega, hK.go _ ?_⟩ | refine ⟨by omega, by omega, by omega, hK.go _ ?_⟩); clear hK K)
        | (refine d_reg (by kernel_rfl) fun K hK => ?_; simp only [go_sem, Nat.reduceEqDiff, reduceCtorEq, ↓reduceIte, Nat.reduceMul, Nat.reduceAdd, Nat.reduceLT, Nat.reduceLeDiff, Int.reduceLT, Int.reduceLE, Int.reduceToNat, Nat.reduceBEq, String.reduceNe, String.reduceEq, *]; (first | refine hK.go _ ?_ | refine ⟨by omega, hK.go _ ?_⟩ | refine ⟨by omega, by omega, hK.go _ ?_⟩ | refine ⟨by omega, by omega, by omega, hK.go _ ?_⟩); clear hK K)
        | (refine d_scond true rfl (fun _ => ?_) (fun h => by cases h))
        | (refine d_scond false rfl (fun h => by cases h) (fun _ => ?_))
        | (refine d_cond true rfl (fun _ => ?_) (fun h => by cases h))
        | (refine d_cond false rfl (fun h => by cases h) (fun _ => ?_))
        | refine d_exit ?_
        | refine d_sexit ?_
        | refine d_ret ?_
        | refine d_sret ?_
        | refine d_skip ?_)
      exact fin1 (.inr rfl) Tryd.results67 (by simp only [go_sem, Nat.reduceEqDiff, reduceCtorEq, ↓reduceIte, Nat.reduceMul, Nat.reduceAdd, Nat.reduceLT, Nat.reduceLeDiff, Int.reduceLT, Int.reduceLE, Int.reduceToNat, Nat.reduceBEq, String.reduceNe, String.reduceEq, *]; rw [hq.out]) rfl

/-- A value, somewhat cut. -/
def cutV (v : PV) : PV := ⟨v.k, v.n, v.t.take 120⟩
theorem fewV_fn (v : PV) : FnD Tryd.prog 47 [V v] (V (cutV v)) := by
  obtain ⟨k, n, t⟩ := v
  have hc := cut_fn t 120
  refine fn1 mixed Tryd.func47 (by kernel_rfl) rfl Tryd.ntmps47 (by decide) fun s e0 => ?_
  unfold V at e0
  simp only at e0
  repeat (first
    | refine d_assoc ?_
    | refine d_sskip ?_
    | (refine d_sreg (by kernel_rfl) fun K hK => ?_; simp only [go_sem, Nat.reduceEqDiff, reduceCtorEq, ↓reduceIte, Nat.reduceMul, Nat.reduceAdd, Nat.reduceLT, Nat.reduceLeDiff, Int.reduceLT, Int.reduceLE, Int.reduceToNat, Nat.reduceBEq, String.reduceNe, String.reduceEq, *]; (first | refine hK.go _ ?_ | refine ⟨by omega, hK.go _ ?_⟩ | refine ⟨by omega, by omega, hK.go _ ?_⟩ | refine ⟨by omega, by omega, by omega, hK.go _ ?_⟩); clear hK K)
    | (refine d_reg (by kernel_rfl) fun K hK => ?_; simp only [go_sem, Nat.reduceEqDiff, reduceCtorEq, ↓reduceIte, Nat.reduceMul, Nat.reduceAdd, Nat.reduceLT, Nat.reduceLeDiff, Int.reduceLT, Int.reduceLE, Int.reduceToNat, Nat.reduceBEq, String.reduceNe, String.reduceEq, *]; (first | refine hK.go _ ?_ | refine ⟨by omega, hK.go _ ?_⟩ | refine ⟨by omega, by omega, hK.go _ ?_⟩ | refine ⟨by omega, by omega, by omega, hK.go _ ?_⟩); clear hK K)
    | (refine d_scond true rfl (fun _ => ?_) (fun h => by cases h))
    | (refine d_scond false rfl (fun h => by cases h) (fun _ => ?_))
    | (refine d_cond true rfl (fun _ => ?_) (fun h => by cases h))
    | (refine d_cond false rfl (fun h => by cases h) (fun _ => ?_))
    | refine d_exit ?_
    | refine d_sexit ?_
    | refine d_ret ?_
    | refine d_sret ?_
    | refine d_skip ?_)
  refine d_sreg (by kernel_rfl) fun K hK => ?_
  simp only [go_sem, Nat.reduceEqDiff, reduceCtorEq, ↓reduceIte, Nat.reduceMul, Nat.reduceAdd, Nat.reduceLT, Nat.reduceLeDiff, Int.reduceLT, Int.reduceLE, Int.reduceToNat, Nat.reduceBEq, String.reduceNe, String.reduceEq, *]
  repeat (refine ⟨by omega, ?_⟩)
  refine wp_call rfl (hc) (by first | exact .inl rfl | exact .inr rfl) ?_
  simp only [go_sem, Nat.reduceEqDiff, reduceCtorEq, ↓reduceIte, Nat.reduceMul, Nat.reduceAdd, Nat.reduceLT, Nat.reduceLeDiff, Int.reduceLT, Int.reduceLE, Int.reduceToNat, Nat.reduceBEq, String.reduceNe, String.reduceEq, *]
  (first | refine hK.go _ ?_ | refine ⟨by omega, hK.go _ ?_⟩ | refine ⟨by omega, by omega, hK.go _ ?_⟩); clear hK K
  repeat (first
    | refine d_assoc ?_
    | refine d_sskip ?_
    | (refine d_sreg (by kernel_rfl) fun K hK => ?_; simp only [go_sem, Nat.reduceEqDiff, reduceCtorEq, ↓reduceIte, Nat.reduceMul, Nat.reduceAdd, Nat.reduceLT, Nat.reduceLeDiff, Int.reduceLT, Int.reduceLE, Int.reduceToNat, Nat.reduceBEq, String.reduceNe, String.reduceEq, *]; (first | refine hK.go _ ?_ | refine ⟨by omega, hK.go _ ?_⟩ | refine ⟨by omega, by omega, hK.go _ ?_⟩ | refine ⟨by omega, by omega, by omega, hK.go _ ?_⟩); clear hK K)
    | (refine d_reg (by kernel_rfl) fun K hK => ?_; simp only [go_sem, Nat.reduceEqDiff, reduceCtorEq, ↓reduceIte, Nat.reduceMul, Nat.reduceAdd, Nat.reduceLT, Nat.reduceLeDiff, Int.reduceLT, Int.reduceLE, Int.reduceToNat, Nat.reduceBEq, String.reduceNe, String.reduceEq, *]; (first | refine hK.go _ ?_ | refine ⟨by omega, hK.go _ ?_⟩ | refine ⟨by omega, by omega, hK.go _ ?_⟩ | refine ⟨by omega, by omega, by omega, hK.go _ ?_⟩); clear hK K)
    | (refine d_scond true rfl (fun _ => ?_) (fun h => by cases h))
    | (refine d_scond false rfl (fun h => by cases h) (fun _ => ?_))
    | (refine d_cond true rfl (fun _ => ?_) (fun h => by cases h))
    | (refine d_cond false rfl (fun h => by cases h) (fun _ => ?_))
    | refine d_exit ?_
    | refine d_sexit ?_
    | refine d_ret ?_
    | refine d_sret ?_
    | refine d_skip ?_)
  exact finc (k := (2, s.gen 2)) (off := 0) (cells := [iv .i64 k, iv .i64 n, sv (t.take 120)]) (.inr rfl) Tryd.results47 (by simp only [go_sem, Nat.reduceEqDiff, reduceCtorEq, ↓reduceIte, Nat.reduceMul, Nat.reduceAdd, Nat.reduceLT, Nat.reduceLeDiff, Int.reduceLT, Int.reduceLE, Int.reduceToNat, Nat.reduceBEq, String.reduceNe, String.reduceEq, *] <;> rfl) ti_78 (by simp only [go_sem, Nat.reduceEqDiff, reduceCtorEq, ↓reduceIte, Nat.reduceMul, Nat.reduceAdd, Nat.reduceLT, Nat.reduceLeDiff, Int.reduceLT, Int.reduceLE, Int.reduceToNat, Nat.reduceBEq, String.reduceNe, String.reduceEq, *] <;> rfl) rfl rfl rfl
end Go.Proofs.YtnlodeadhnonpaaDoor.D
