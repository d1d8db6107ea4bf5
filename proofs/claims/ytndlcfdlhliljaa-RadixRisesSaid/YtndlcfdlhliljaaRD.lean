/- The functions that RadixRises reaches, on plain data. Conditions: lists of bounded length. -/
import Derived.Test.YtndlcfdlhliljaaDTy
namespace Go.Proofs.Ytndlcfdlhliljaa.D
open Go.RowKit Go.Proofs.Ytndlcfdlhliljaa.Mem
set_option linter.unusedVariables false
set_option linter.unusedSimpArgs false
attribute [local irreducible] wpD wpL
/-- A fact that is kept out of sight. -/
structure Sec (p : Prop) : Prop where
  out : p
def U (l : List Int) : DV := .sl (sl1 (iv .u64) l)
theorem mlt {i n : Nat} (h : i < n) : n - (i + 1) < n - i := by omega
theorem mlt2 {a b c : Nat} (h : a < b) (h1 : a ≤ c) : b - (c + 1) < b - a := by omega
theorem mlt3 {a b c : Nat} (h : a ≤ c) (h1 : c < b) : c - a < b - a := by omega
def idx (d : DV) : Nat := match intOf? d with | some i => i.toNat | none => 0
theorem wi (n : Nat) (h : n ≤ 1000000000000) : IntKind.i64.wrap ((n : Int) + 1) = ((n + 1 : Nat) : Int) := by rw [IntWalk.i64_in _ (by omega)]; simp
theorem beq_decide (a b : Int) : (a == b) = decide (a = b) := rfl
theorem bne_decide (a b : Int) : (a != b) = decide (a ≠ b) := by simp [bne, beq_decide]
theorem natCast_inj' (a b : Nat) : (((a : Int)) = (b : Int)) = (a = b) := by rw [Int.natCast_inj]
attribute [local go_sem] beq_decide bne_decide natCast_inj' ne_eq not_true_eq_false not_false_eq_true List.getD_cons_zero

theorem few_fn (l : List Int) (m : Nat) (hm : m ≤ 1000) : FnD Try.prog 28 [U l, iv .i64 m] (U (l.take m)) := by
  refine fn2 mixed Try.func28 (by kernel_rfl) rfl Try.ntmps28 (by decide) fun s e0 e1 => ?_
  unfold U at e0
  repeat (first
    | refine d_assoc ?_
    | refine d_sskip ?_
    | (refine d_sreg (by kernel_rfl) fun K hK => ?_; simp only [go_sem, Nat.reduceEqDiff, reduceCtorEq, ↓reduceIte, Nat.reduceMul, Nat.reduceAdd, Nat.reduceLT, Nat.reduceLeDiff, Int.reduceLT, Int.reduceLE, Int.reduceToNat, Nat.reduceBEq, *]; (first | refine hK.go _ ?_ | refine ⟨by omega, hK.go _ ?_⟩ | refine ⟨by omega, by omega, hK.go _ ?_⟩ | refine ⟨by omega, by omega, by omega, hK.go _ ?_⟩); clear hK K)
    | (refine d_reg (by kernel_rfl) fun K hK => ?_; simp only [go_sem, Nat.reduceEqDiff, reduceCtorEq, ↓reduceIte, Nat.reduceMul, Nat.reduceAdd, Nat.reduceLT, Nat.reduceLeDiff, Int.reduceLT, Int.reduceLE, Int.reduceToNat, Nat.reduceBEq, *]; (first | refine hK.go _ ?_ | refine ⟨by omega, hK.go _ ?_⟩ | refine ⟨by omega, by omega, hK.go _ ?_⟩ | refine ⟨by omega, by omega, by omega, hK.go _ ?_⟩); clear hK K)
    | (refine d_scond true rfl (fun _ => ?_) (fun h => by cases h))
    | (refine d_scond false rfl (fun h => by cases h) (fun _ => ?_))
    | (refine d_cond true rfl (fun _ => ?_) (fun h => by cases h))
    | (refine d_cond false rfl (fun h => by cases h) (fun _ => ?_))
    | refine d_exit ?_
    | refine d_sexit ?_
    | refine d_ret ?_
    | refine d_sret ?_
    | refine d_skip ?_)
  refine d_sblock fun K hK => ?_
  refine d_loop (fun s => ∃ (i g v : Nat), s.env 0 = .sl (sl1 (iv .u64) l) ∧ s.env 1 = iv .i64 m ∧ s.env 6 = iv .i64 i ∧ s.env 5 = .own (7, g) v (sl1 (iv .u64) (l.take i)) ∧ s.tip (7, g) = some (v, 28) ∧ i ≤ l.length ∧ i ≤ m) (fun s => l.length - (match intOf? (s.env 6) with | some i => i.toNat | none => 0)) ?_ ?_
  · exact ⟨0, s.gen 7, 0, by simp only [go_sem, Nat.reduceEqDiff, reduceCtorEq, ↓reduceIte, Nat.reduceMul, Nat.reduceAdd, Nat.reduceLT, Nat.reduceLeDiff, Int.reduceLT, Int.reduceLE, Int.reduceToNat, Nat.reduceBEq, *], by simp only [go_sem, Nat.reduceEqDiff, reduceCtorEq, ↓reduceIte, Nat.reduceMul, Nat.reduceAdd, Nat.reduceLT, Nat.reduceLeDiff, Int.reduceLT, Int.reduceLE, Int.reduceToNat, Nat.reduceBEq, *], by simp only [go_sem, Nat.reduceEqDiff, reduceCtorEq, ↓reduceIte, Nat.reduceMul, Nat.reduceAdd, Nat.reduceLT, Nat.reduceLeDiff, Int.reduceLT, Int.reduceLE, Int.reduceToNat, Nat.reduceBEq, *] <;> rfl, by simp only [go_sem, Nat.reduceEqDiff, reduceCtorEq, ↓reduceIte, Nat.reduceMul, Nat.reduceAdd, Nat.reduceLT, Nat.reduceLeDiff, Int.reduceLT, Int.reduceLE, Int.reduceToNat, Nat.reduceBEq, *], by simp only [go_sem, Nat.reduceEqDiff, reduceCtorEq, ↓reduceIte, Nat.reduceMul, Nat.reduceAdd, Nat.reduceLT, Nat.reduceLeDiff, Int.reduceLT, Int.reduceLE, Int.reduceToNat, Nat.reduceBEq, *], Nat.zero_le _, Nat.zero_le _⟩
  clear e0 e1
  rintro s1 K1 ⟨i, g, v, e0, e1, e6, e5, et, hi, him⟩ hK1
  have hw := wi i (by omega)
  have hl : (l.take i).length ≤ 1000 := by rw [List.length_take]; omega
  by_cases h1 : i < l.length
  · by_cases h2 : i < m
    · have hN := Sec.mk (take_nth l i h1)
      repeat (first
        | refine d_assoc ?_
        | refine d_sskip ?_
        | (refine d_sreg (by kernel_rfl) fun K hK => ?_; simp only [go_sem, Nat.reduceEqDiff, reduceCtorEq, ↓reduceIte, Nat.reduceMul, Nat.reduceAdd, Nat.reduceLT, Nat.reduceLeDiff, Int.reduceLT, Int.reduceLE, Int.reduceToNat, Nat.reduceBEq, *]; (first | refine hK.go _ ?_ | refine ⟨by omega, hK.go _ ?_⟩ | refine ⟨by omega, by omega, hK.go _ ?_⟩ | refine ⟨by omega, by omega, by omega, hK.go _ ?_⟩); clear hK K)
        | (refine d_reg (by kernel_rfl) fun K hK => ?_; simp only [go_sem, Nat.reduceEqDiff, reduceCtorEq, ↓reduceIte, Nat.reduceMul, Nat.reduceAdd, Nat.reduceLT, Nat.reduceLeDiff, Int.reduceLT, Int.reduceLE, Int.reduceToNat, Nat.reduceBEq, *]; (first | refine hK.go _ ?_ | refine ⟨by omega, hK.go _ ?_⟩ | refine ⟨by omega, by omega, hK.go _ ?_⟩ | refine ⟨by omega, by omega, by omega, hK.go _ ?_⟩); clear hK K)
        | (refine d_scond true rfl (fun _ => ?_) (fun h => by cases h))
        | (refine d_scond false rfl (fun h => by cases h) (fun _ => ?_))
        | (refine d_cond true rfl (fun _ => ?_) (fun h => by cases h))
        | (refine d_cond false rfl (fun h => by cases h) (fun _ => ?_))
        | refine d_exit ?_
        | refine d_sexit ?_
        | refine d_ret ?_
        | refine d_sret ?_
        | refine d_skip ?_)
      refine d_sblock fun K2 hK2 => ?_
      repeat (first
        | refine d_assoc ?_
        | refine d_sskip ?_
        | (refine d_sreg (by kernel_rfl) fun K hK => ?_; simp only [go_sem, Nat.reduceEqDiff, reduceCtorEq, ↓reduceIte, Nat.reduceMul, Nat.reduceAdd, Nat.reduceLT, Nat.reduceLeDiff, Int.reduceLT, Int.reduceLE, Int.reduceToNat, Nat.reduceBEq, *]; (first | refine hK.go _ ?_ | refine ⟨by omega, hK.go _ ?_⟩ | refine ⟨by omega, by omega, hK.go _ ?_⟩ | refine ⟨by omega, by omega, by omega, hK.go _ ?_⟩); clear hK K)
        | (refine d_reg (by kernel_rfl) fun K hK => ?_; simp only [go_sem, Nat.reduceEqDiff, reduceCtorEq, ↓reduceIte, Nat.reduceMul, Nat.reduceAdd, Nat.reduceLT, Nat.reduceLeDiff, Int.reduceLT, Int.reduceLE, Int.reduceToNat, Nat.reduceBEq, *]; (first | refine hK.go _ ?_ | refine ⟨by omega, hK.go _ ?_⟩ | refine ⟨by omega, by omega, hK.go _ ?_⟩ | refine ⟨by omega, by omega, by omega, hK.go _ ?_⟩); clear hK K)
        | (refine d_scond true rfl (fun _ => ?_) (fun h => by cases h))
        | (refine d_scond false rfl (fun h => by cases h) (fun _ => ?_))
        | (refine d_cond true rfl (fun _ => ?_) (fun h => by cases h))
        | (refine d_cond false rfl (fun h => by cases h) (fun _ => ?_))
        | refine d_exit ?_
        | refine d_sexit ?_
        | refine d_ret ?_
        | refine d_sret ?_
        | refine d_skip ?_)
      repeat (first | simp only [thenD, blockD, Nat.reduceEqDiff, reduceCtorEq, ↓reduceIte] | refine Imp.go (by assumption) _ ?_)
      repeat (first
        | refine d_assoc ?_
        | refine d_sskip ?_
        | (refine d_sreg (by kernel_rfl) fun K hK => ?_; simp only [go_sem, Nat.reduceEqDiff, reduceCtorEq, ↓reduceIte, Nat.reduceMul, Nat.reduceAdd, Nat.reduceLT, Nat.reduceLeDiff, Int.reduceLT, Int.reduceLE, Int.reduceToNat, Nat.reduceBEq, *]; (first | refine hK.go _ ?_ | refine ⟨by omega, hK.go _ ?_⟩ | refine ⟨by omega, by omega, hK.go _ ?_⟩ | refine ⟨by omega, by omega, by omega, hK.go _ ?_⟩); clear hK K)
        | (refine d_reg (by kernel_rfl) fun K hK => ?_; simp only [go_sem, Nat.reduceEqDiff, reduceCtorEq, ↓reduceIte, Nat.reduceMul, Nat.reduceAdd, Nat.reduceLT, Nat.reduceLeDiff, Int.reduceLT, Int.reduceLE, Int.reduceToNat, Nat.reduceBEq, *]; (first | refine hK.go _ ?_ | refine ⟨by omega, hK.go _ ?_⟩ | refine ⟨by omega, by omega, hK.go _ ?_⟩ | refine ⟨by omega, by omega, by omega, hK.go _ ?_⟩); clear hK K)
        | (refine d_scond true rfl (fun _ => ?_) (fun h => by cases h))
        | (refine d_scond false rfl (fun h => by cases h) (fun _ => ?_))
        | (refine d_cond true rfl (fun _ => ?_) (fun h => by cases h))
        | (refine d_cond false rfl (fun h => by cases h) (fun _ => ?_))
        | refine d_exit ?_
        | refine d_sexit ?_
        | refine d_ret ?_
        | refine d_sret ?_
        | refine d_skip ?_)
      repeat (first | simp only [thenD, blockD, Nat.reduceEqDiff, reduceCtorEq, ↓reduceIte] | refine Imp.go (by assumption) _ ?_)
      exact ⟨⟨i + 1, g, v + 1, by simp only [go_sem, Nat.reduceEqDiff, reduceCtorEq, ↓reduceIte, Nat.reduceMul, Nat.reduceAdd, Nat.reduceLT, Nat.reduceLeDiff, Int.reduceLT, Int.reduceLE, Int.reduceToNat, Nat.reduceBEq, *], by simp only [go_sem, Nat.reduceEqDiff, reduceCtorEq, ↓reduceIte, Nat.reduceMul, Nat.reduceAdd, Nat.reduceLT, Nat.reduceLeDiff, Int.reduceLT, Int.reduceLE, Int.reduceToNat, Nat.reduceBEq, *], by simp only [go_sem, Nat.reduceEqDiff, reduceCtorEq, ↓reduceIte, Nat.reduceMul, Nat.reduceAdd, Nat.reduceLT, Nat.reduceLeDiff, Int.reduceLT, Int.reduceLE, Int.reduceToNat, Nat.reduceBEq, *], by simp only [go_sem, Nat.reduceEqDiff, reduceCtorEq, ↓reduceIte, Nat.reduceMul, Nat.reduceAdd, Nat.reduceLT, Nat.reduceLeDiff, Int.reduceLT, Int.reduceLE, Int.reduceToNat, Nat.reduceBEq, *]; rw [hN.out], by simp only [go_sem, Nat.reduceEqDiff, reduceCtorEq, ↓reduceIte, Nat.reduceMul, Nat.reduceAdd, Nat.reduceLT, Nat.reduceLeDiff, Int.reduceLT, Int.reduceLE, Int.reduceToNat, Nat.reduceBEq, *], h1, h2⟩, by simp only [go_sem, Nat.reduceEqDiff, reduceCtorEq, ↓reduceIte, Nat.reduceMul, Nat.reduceAdd, Nat.reduceLT, Nat.reduceLeDiff, Int.reduceLT, Int.reduceLE, Int.reduceToNat, Nat.reduceBEq, *]; exact mlt h1⟩
    · have hf : l.take i = l.take m := by rw [show i = m by omega]
      repeat (first
        | refine d_assoc ?_
        | refine d_sskip ?_
        | (refine d_sreg (by kernel_rfl) fun K hK => ?_; simp only [go_sem, Nat.reduceEqDiff, reduceCtorEq, ↓reduceIte, Nat.reduceMul, Nat.reduceAdd, Nat.reduceLT, Nat.reduceLeDiff, Int.reduceLT, Int.reduceLE, Int.reduceToNat, Nat.reduceBEq, *]; (first | refine hK.go _ ?_ | refine ⟨by omega, hK.go _ ?_⟩ | refine ⟨by omega, by omega, hK.go _ ?_⟩ | refine ⟨by omega, by omega, by omega, hK.go _ ?_⟩); clear hK K)
        | (refine d_reg (by kernel_rfl) fun K hK => ?_; simp only [go_sem, Nat.reduceEqDiff, reduceCtorEq, ↓reduceIte, Nat.reduceMul, Nat.reduceAdd, Nat.reduceLT, Nat.reduceLeDiff, Int.reduceLT, Int.reduceLE, Int.reduceToNat, Nat.reduceBEq, *]; (first | refine hK.go _ ?_ | refine ⟨by omega, hK.go _ ?_⟩ | refine ⟨by omega, by omega, hK.go _ ?_⟩ | refine ⟨by omega, by omega, by omega, hK.go _ ?_⟩); clear hK K)
        | (refine d_scond true rfl (fun _ => ?_) (fun h => by cases h))
        | (refine d_scond false rfl (fun h => by cases h) (fun _ => ?_))
        | (refine d_cond true rfl (fun _ => ?_) (fun h => by cases h))
        | (refine d_cond false rfl (fun h => by cases h) (fun _ => ?_))
        | refine d_exit ?_
        | refine d_sexit ?_
        | refine d_ret ?_
        | refine d_sret ?_
        | refine d_skip ?_)
      repeat (first | simp only [thenD, blockD, Nat.reduceEqDiff, reduceCtorEq, ↓reduceIte] | refine Imp.go (by assumption) _ ?_)
      repeat (first
        | refine d_assoc ?_
        | refine d_sskip ?_
        | (refine d_sreg (by kernel_rfl) fun K hK => ?_; simp only [go_sem, Nat.reduceEqDiff, reduceCtorEq, ↓reduceIte, Nat.reduceMul, Nat.reduceAdd, Nat.reduceLT, Nat.reduceLeDiff, Int.reduceLT, Int.reduceLE, Int.reduceToNat, Nat.reduceBEq, *]; (first | refine hK.go _ ?_ | refine ⟨by omega, hK.go _ ?_⟩ | refine ⟨by omega, by omega, hK.go _ ?_⟩ | refine ⟨by omega, by omega, by omega, hK.go _ ?_⟩); clear hK K)
        | (refine d_reg (by kernel_rfl) fun K hK => ?_; simp only [go_sem, Nat.reduceEqDiff, reduceCtorEq, ↓reduceIte, Nat.reduceMul, Nat.reduceAdd, Nat.reduceLT, Nat.reduceLeDiff, Int.reduceLT, Int.reduceLE, Int.reduceToNat, Nat.reduceBEq, *]; (first | refine hK.go _ ?_ | refine ⟨by omega, hK.go _ ?_⟩ | refine ⟨by omega, by omega, hK.go _ ?_⟩ | refine ⟨by omega, by omega, by omega, hK.go _ ?_⟩); clear hK K)
        | (refine d_scond true rfl (fun _ => ?_) (fun h => by cases h))
        | (refine d_scond false rfl (fun h => by cases h) (fun _ => ?_))
        | (refine d_cond true rfl (fun _ => ?_) (fun h => by cases h))
        | (refine d_cond false rfl (fun h => by cases h) (fun _ => ?_))
        | refine d_exit ?_
        | refine d_sexit ?_
        | refine d_ret ?_
        | refine d_sret ?_
        | refine d_skip ?_)
      exact fin1 (.inr rfl) Try.results28 (by simp only [go_sem, Nat.reduceEqDiff, reduceCtorEq, ↓reduceIte, Nat.reduceMul, Nat.reduceAdd, Nat.reduceLT, Nat.reduceLeDiff, Int.reduceLT, Int.reduceLE, Int.reduceToNat, Nat.reduceBEq, *] <;> rfl) rfl
  · have hf : l.take i = l.take m := by rw [List.take_of_length_le (by omega), List.take_of_length_le (by omega)]
    repeat (first
      | refine d_assoc ?_
      | refine d_sskip ?_
      | (refine d_sreg (by kernel_rfl) fun K hK => ?_; simp only [go_sem, Nat.reduceEqDiff, reduceCtorEq, ↓reduceIte, Nat.reduceMul, Nat.reduceAdd, Nat.reduceLT, Nat.reduceLeDiff, Int.reduceLT, Int.reduceLE, Int.reduceToNat, Nat.reduceBEq, *]; (first | refine hK.go _ ?_ | refine ⟨by omega, hK.go _ ?_⟩ | refine ⟨by omega, by omega, hK.go _ ?_⟩ | refine ⟨by omega, by omega, by omega, hK.go _ ?_⟩); clear hK K)
      | (refine d_reg (by kernel_rfl) fun K hK => ?_; simp only [go_sem, Nat.reduceEqDiff, reduceCtorEq, ↓reduceIte, Nat.reduceMul, Nat.reduceAdd, Nat.reduceLT, Nat.reduceLeDiff, Int.reduceLT, Int.reduceLE, Int.reduceToNat, Nat.reduceBEq, *]; (first | refine hK.go _ ?_ | refine ⟨by omega, hK.go _ ?_⟩ | refine ⟨by omega, by omega, hK.go _ ?_⟩ | refine ⟨by omega, by omega, by omega, hK.go _ ?_⟩); clear hK K)
      | (refine d_scond true rfl (fun _ => ?_) (fun h => by cases h))
      | (refine d_scond false rfl (fun h => by cases h) (fun _ => ?_))
      | (refine d_cond true rfl (fun _ => ?_) (fun h => by cases h))
      | (refine d_cond false rfl (fun h => by cases h) (fun _ => ?_))
      | refine d_exit ?_
      | refine d_sexit ?_
      | refine d_ret ?_
      | refine d_sret ?_
      | refine d_skip ?_)
    repeat (first | simp only [thenD, blockD, Nat.reduceEqDiff, reduceCtorEq, ↓reduceIte] | refine Imp.go (by assumption) _ ?_)
    repeat (first
      | refine d_assoc ?_
      | refine d_sskip ?_
      | (refine d_sreg (by kernel_rfl) fun K hK => ?_; simp only [go_sem, Nat.reduceEqDiff, reduceCtorEq, ↓reduceIte, Nat.reduceMul, Nat.reduceAdd, Nat.reduceLT, Nat.reduceLeDiff, Int.reduceLT, Int.reduceLE, Int.reduceToNat, Nat.reduceBEq, *]; (first | refine hK.go _ ?_ | refine ⟨by omega, hK.go _ ?_⟩ | refine ⟨by omega, by omega, hK.go _ ?_⟩ | refine ⟨by omega, by omega, by omega, hK.go _ ?_⟩); clear hK K)
      | (refine d_reg (by kernel_rfl) fun K hK => ?_; simp only [go_sem, Nat.reduceEqDiff, reduceCtorEq, ↓reduceIte, Nat.reduceMul, Nat.reduceAdd, Nat.reduceLT, Nat.reduceLeDiff, Int.reduceLT, Int.reduceLE, Int.reduceToNat, Nat.reduceBEq, *]; (first | refine hK.go _ ?_ | refine ⟨by omega, hK.go _ ?_⟩ | refine ⟨by omega, by omega, hK.go _ ?_⟩ | refine ⟨by omega, by omega, by omega, hK.go _ ?_⟩); clear hK K)
      | (refine d_scond true rfl (fun _ => ?_) (fun h => by cases h))
      | (refine d_scond false rfl (fun h => by cases h) (fun _ => ?_))
      | (refine d_cond true rfl (fun _ => ?_) (fun h => by cases h))
      | (refine d_cond false rfl (fun h => by cases h) (fun _ => ?_))
      | refine d_exit ?_
      | refine d_sexit ?_
      | refine d_ret ?_
      | refine d_sret ?_
      | refine d_skip ?_)
    exact fin1 (.inr rfl) Try.results28 (by simp only [go_sem, Nat.reduceEqDiff, reduceCtorEq, ↓reduceIte, Nat.reduceMul, Nat.reduceAdd, Nat.reduceLT, Nat.reduceLeDiff, Int.reduceLT, Int.reduceLE, Int.reduceToNat, Nat.reduceBEq, *] <;> rfl) rfl

theorem sameU_fn (a b : List Int) (ha : a.length ≤ 1000000) : FnD Try.prog 26 [U a, U b] (bv (decide (a = b))) := by
  refine fn2 mixed Try.func26 (by kernel_rfl) rfl Try.ntmps26 (by decide) fun s e0 e1 => ?_
  unfold U at e0 e1
  by_cases hlen : a.length = b.length
  · repeat (first
  | refine d_assoc ?_
  | refine d_sskip ?_
  | (refine d_sreg (by kernel_rfl) fun K hK => ?_; simp only [go_sem, Nat.reduceEqDiff, reduceCtorEq, ↓reduceIte, Nat.reduceMul, Nat.reduceAdd, Nat.reduceLT, Nat.reduceLeDiff, Int.reduceLT, Int.reduceLE, Int.reduceToNat, Nat.reduceBEq, *]; (first | refine hK.go _ ?_ | refine ⟨by omega, hK.go _ ?_⟩ | refine ⟨by omega, by omega, hK.go _ ?_⟩ | refine ⟨by omega, by omega, by omega, hK.go _ ?_⟩); clear hK K)
  | (refine d_reg (by kernel_rfl) fun K hK => ?_; simp only [go_sem, Nat.reduceEqDiff, reduceCtorEq, ↓reduceIte, Nat.reduceMul, Nat.reduceAdd, Nat.reduceLT, Nat.reduceLeDiff, Int.reduceLT, Int.reduceLE, Int.reduceToNat, Nat.reduceBEq, *]; (first | refine hK.go _ ?_ | refine ⟨by omega, hK.go _ ?_⟩ | refine ⟨by omega, by omega, hK.go _ ?_⟩ | refine ⟨by omega, by omega, by omega, hK.go _ ?_⟩); clear hK K)
  | (refine d_scond true rfl (fun _ => ?_) (fun h => by cases h))
  | (refine d_scond false rfl (fun h => by cases h) (fun _ => ?_))
  | (refine d_cond true rfl (fun _ => ?_) (fun h => by cases h))
  | (refine d_cond false rfl (fun h => by cases h) (fun _ => ?_))
  | refine d_exit ?_
  | refine d_sexit ?_
  | refine d_ret ?_
  | refine d_sret ?_
  | refine d_skip ?_)
    refine d_sblock fun K hK => ?_
    refine d_loop (fun s => ∃ (i : Nat), s.env 0 = .sl (sl1 (iv .u64) a) ∧ s.env 1 = .sl (sl1 (iv .u64) b) ∧ s.env 5 = iv .i64 i ∧ i ≤ a.length ∧ Sec (a.take i = b.take i)) (fun s => a.length - (match intOf? (s.env 5) with | some i => i.toNat | none => 0)) ?_ ?_
    · exact ⟨0, by simp only [go_sem, Nat.reduceEqDiff, reduceCtorEq, ↓reduceIte, Nat.reduceMul, Nat.reduceAdd, Nat.reduceLT, Nat.reduceLeDiff, Int.reduceLT, Int.reduceLE, Int.reduceToNat, Nat.reduceBEq, *], by simp only [go_sem, Nat.reduceEqDiff, reduceCtorEq, ↓reduceIte, Nat.reduceMul, Nat.reduceAdd, Nat.reduceLT, Nat.reduceLeDiff, Int.reduceLT, Int.reduceLE, Int.reduceToNat, Nat.reduceBEq, *], by simp only [go_sem, Nat.reduceEqDiff, reduceCtorEq, ↓reduceIte, Nat.reduceMul, Nat.reduceAdd, Nat.reduceLT, Nat.reduceLeDiff, Int.reduceLT, Int.reduceLE, Int.reduceToNat, Nat.reduceBEq, *] <;> rfl, Nat.zero_le _, ⟨rfl⟩⟩
    clear e0 e1
    rintro s1 K1 ⟨i, e0, e1, e5, hi, hS⟩ hK1
    have hw := wi i (by omega)
    by_cases h1 : i < a.length
    · have h1' : i < b.length := by omega
      have hlen' := Sec.mk hlen
      clear hlen
      by_cases he : nth a i = nth b i
      · have hN := Sec.mk (show a.take (i + 1) = b.take (i + 1) by rw [take_nth a i h1, take_nth b i h1', hS.out, he])
        repeat (first
          | refine d_assoc ?_
          | refine d_sskip ?_
          | (refine d_sreg (by kernel_rfl) fun K hK => ?_; simp only [go_sem, Nat.reduceEqDiff, reduceCtorEq, ↓reduceIte, Nat.reduceMul, Nat.reduceAdd, Nat.reduceLT, Nat.reduceLeDiff, Int.reduceLT, Int.reduceLE, Int.reduceToNat, Nat.reduceBEq, *]; (first | refine hK.go _ ?_ | refine ⟨by omega, hK.go _ ?_⟩ | refine ⟨by omega, by omega, hK.go _ ?_⟩ | refine ⟨by omega, by omega, by omega, hK.go _ ?_⟩); clear hK K)
          | (refine d_reg (by kernel_rfl) fun K hK => ?_; simp only [go_sem, Nat.reduceEqDiff, reduceCtorEq, ↓reduceIte, Nat.reduceMul, Nat.reduceAdd, Nat.reduceLT, Nat.reduceLeDiff, Int.reduceLT, Int.reduceLE, Int.reduceToNat, Nat.reduceBEq, *]; (first | refine hK.go _ ?_ | refine ⟨by omega, hK.go _ ?_⟩ | refine ⟨by omega, by omega, hK.go _ ?_⟩ | refine ⟨by omega, by omega, by omega, hK.go _ ?_⟩); clear hK K)
          | (refine d_scond true rfl (fun _ => ?_) (fun h => by cases h))
          | (refine d_scond false rfl (fun h => by cases h) (fun _ => ?_))
          | (refine d_cond true rfl (fun _ => ?_) (fun h => by cases h))
          | (refine d_cond false rfl (fun h => by cases h) (fun _ => ?_))
          | refine d_exit ?_
          | refine d_sexit ?_
          | refine d_ret ?_
          | refine d_sret ?_
          | refine d_skip ?_)
        refine d_sblock fun K2 hK2 => ?_
        repeat (first
          | refine d_assoc ?_
          | refine d_sskip ?_
          | (refine d_sreg (by kernel_rfl) fun K hK => ?_; simp only [go_sem, Nat.reduceEqDiff, reduceCtorEq, ↓reduceIte, Nat.reduceMul, Nat.reduceAdd, Nat.reduceLT, Nat.reduceLeDiff, Int.reduceLT, Int.reduceLE, Int.reduceToNat, Nat.reduceBEq, *]; (first | refine hK.go _ ?_ | refine ⟨by omega, hK.go _ ?_⟩ | refine ⟨by omega, by omega, hK.go _ ?_⟩ | refine ⟨by omega, by omega, by omega, hK.go _ ?_⟩); clear hK K)
          | (refine d_reg (by kernel_rfl) fun K hK => ?_; simp only [go_sem, Nat.reduceEqDiff, reduceCtorEq, ↓reduceIte, Nat.reduceMul, Nat.reduceAdd, Nat.reduceLT, Nat.reduceLeDiff, Int.reduceLT, Int.reduceLE, Int.reduceToNat, Nat.reduceBEq, *]; (first | refine hK.go _ ?_ | refine ⟨by omega, hK.go _ ?_⟩ | refine ⟨by omega, by omega, hK.go _ ?_⟩ | refine ⟨by omega, by omega, by omega, hK.go _ ?_⟩); clear hK K)
          | (refine d_scond true rfl (fun _ => ?_) (fun h => by cases h))
          | (refine d_scond false rfl (fun h => by cases h) (fun _ => ?_))
          | (refine d_cond true rfl (fun _ => ?_) (fun h => by cases h))
          | (refine d_cond false rfl (fun h => by cases h) (fun _ => ?_))
          | refine d_exit ?_
          | refine d_sexit ?_
          | refine d_ret ?_
          | refine d_sret ?_
          | refine d_skip ?_)
        repeat (first | simp only [thenD, blockD, Nat.reduceEqDiff, reduceCtorEq, ↓reduceIte] | refine Imp.go (by assumption) _ ?_)
        repeat (first
          | refine d_assoc ?_
          | refine d_sskip ?_
          | (refine d_sreg (by kernel_rfl) fun K hK => ?_; simp only [go_sem, Nat.reduceEqDiff, reduceCtorEq, ↓reduceIte, Nat.reduceMul, Nat.reduceAdd, Nat.reduceLT, Nat.reduceLeDiff, Int.reduceLT, Int.reduceLE, Int.reduceToNat, Nat.reduceBEq, *]; (first | refine hK.go _ ?_ | refine ⟨by omega, hK.go _ ?_⟩ | refine ⟨by omega, by omega, hK.go _ ?_⟩ | refine ⟨by omega, by omega, by omega, hK.go _ ?_⟩); clear hK K)
          | (refine d_reg (by kernel_rfl) fun K hK => ?_; simp only [go_sem, Nat.reduceEqDiff, reduceCtorEq, ↓reduceIte, Nat.reduceMul, Nat.reduceAdd, Nat.reduceLT, Nat.reduceLeDiff, Int.reduceLT, Int.reduceLE, Int.reduceToNat, Nat.reduceBEq, *]; (first | refine hK.go _ ?_ | refine ⟨by omega, hK.go _ ?_⟩ | refine ⟨by omega, by omega, hK.go _ ?_⟩ | refine ⟨by omega, by omega, by omega, hK.go _ ?_⟩); clear hK K)
          | (refine d_scond true rfl (fun _ => ?_) (fun h => by cases h))
          | (refine d_scond false rfl (fun h => by cases h) (fun _ => ?_))
          | (refine d_cond true rfl (fun _ => ?_) (fun h => by cases h))
          | (refine d_cond false rfl (fun h => by cases h) (fun _ => ?_))
          | refine d_exit ?_
          | refine d_sexit ?_
          | refine d_ret ?_
          | refine d_sret ?_
          | refine d_skip ?_)
        repeat (first | simp only [thenD, blockD, Nat.reduceEqDiff, reduceCtorEq, ↓reduceIte] | refine Imp.go (by assumption) _ ?_)
        exact ⟨⟨i + 1, by simp only [go_sem, Nat.reduceEqDiff, reduceCtorEq, ↓reduceIte, Nat.reduceMul, Nat.reduceAdd, Nat.reduceLT, Nat.reduceLeDiff, Int.reduceLT, Int.reduceLE, Int.reduceToNat, Nat.reduceBEq, *], by simp only [go_sem, Nat.reduceEqDiff, reduceCtorEq, ↓reduceIte, Nat.reduceMul, Nat.reduceAdd, Nat.reduceLT, Nat.reduceLeDiff, Int.reduceLT, Int.reduceLE, Int.reduceToNat, Nat.reduceBEq, *], by simp only [go_sem, Nat.reduceEqDiff, reduceCtorEq, ↓reduceIte, Nat.reduceMul, Nat.reduceAdd, Nat.reduceLT, Nat.reduceLeDiff, Int.reduceLT, Int.reduceLE, Int.reduceToNat, Nat.reduceBEq, *], h1, hN⟩, by simp only [go_sem, Nat.reduceEqDiff, reduceCtorEq, ↓reduceIte, Nat.reduceMul, Nat.reduceAdd, Nat.reduceLT, Nat.reduceLeDiff, Int.reduceLT, Int.reduceLE, Int.reduceToNat, Nat.reduceBEq, *]; exact mlt h1⟩
      · have hne : decide (a = b) = false := decide_eq_false (fun e => he (by rw [e]))
        repeat (first
          | refine d_assoc ?_
          | refine d_sskip ?_
          | (refine d_sreg (by kernel_rfl) fun K hK => ?_; simp only [go_sem, Nat.reduceEqDiff, reduceCtorEq, ↓reduceIte, Nat.reduceMul, Nat.reduceAdd, Nat.reduceLT, Nat.reduceLeDiff, Int.reduceLT, Int.reduceLE, Int.reduceToNat, Nat.reduceBEq, *]; (first | refine hK.go _ ?_ | refine ⟨by omega, hK.go _ ?_⟩ | refine ⟨by omega, by omega, hK.go _ ?_⟩ | refine ⟨by omega, by omega, by omega, hK.go _ ?_⟩); clear hK K)
          | (refine d_reg (by kernel_rfl) fun K hK => ?_; simp only [go_sem, Nat.reduceEqDiff, reduceCtorEq, ↓reduceIte, Nat.reduceMul, Nat.reduceAdd, Nat.reduceLT, Nat.reduceLeDiff, Int.reduceLT, Int.reduceLE, Int.reduceToNat, Nat.reduceBEq, *]; (first | refine hK.go _ ?_ | refine ⟨by omega, hK.go _ ?_⟩ | refine ⟨by omega, by omega, hK.go _ ?_⟩ | refine ⟨by omega, by omega, by omega, hK.go _ ?_⟩); clear hK K)
          | (refine d_scond true rfl (fun _ => ?_) (fun h => by cases h))
          | (refine d_scond false rfl (fun h => by cases h) (fun _ => ?_))
          | (refine d_cond true rfl (fun _ => ?_) (fun h => by cases h))
          | (refine d_cond false rfl (fun h => by cases h) (fun _ => ?_))
          | refine d_exit ?_
          | refine d_sexit ?_
          | refine d_ret ?_
          | refine d_sret ?_
          | refine d_skip ?_)
        refine d_sblock fun K2 hK2 => ?_
        repeat (first
          | refine d_assoc ?_
          | refine d_sskip ?_
          | (refine d_sreg (by kernel_rfl) fun K hK => ?_; simp only [go_sem, Nat.reduceEqDiff, reduceCtorEq, ↓reduceIte, Nat.reduceMul, Nat.reduceAdd, Nat.reduceLT, Nat.reduceLeDiff, Int.reduceLT, Int.reduceLE, Int.reduceToNat, Nat.reduceBEq, *]; (first | refine hK.go _ ?_ | refine ⟨by omega, hK.go _ ?_⟩ | refine ⟨by omega, by omega, hK.go _ ?_⟩ | refine ⟨by omega, by omega, by omega, hK.go _ ?_⟩); clear hK K)
          | (refine d_reg (by kernel_rfl) fun K hK => ?_; simp only [go_sem, Nat.reduceEqDiff, reduceCtorEq, ↓reduceIte, Nat.reduceMul, Nat.reduceAdd, Nat.reduceLT, Nat.reduceLeDiff, Int.reduceLT, Int.reduceLE, Int.reduceToNat, Nat.reduceBEq, *]; (first | refine hK.go _ ?_ | refine ⟨by omega, hK.go _ ?_⟩ | refine ⟨by omega, by omega, hK.go _ ?_⟩ | refine ⟨by omega, by omega, by omega, hK.go _ ?_⟩); clear hK K)
          | (refine d_scond true rfl (fun _ => ?_) (fun h => by cases h))
          | (refine d_scond false rfl (fun h => by cases h) (fun _ => ?_))
          | (refine d_cond true rfl (fun _ => ?_) (fun h => by cases h))
          | (refine d_cond false rfl (fun h => by cases h) (fun _ => ?_))
          | refine d_exit ?_
          | refine d_sexit ?_
          | refine d_ret ?_
          | refine d_sret ?_
          | refine d_skip ?_)
        repeat (first | simp only [thenD, blockD, Nat.reduceEqDiff, reduceCtorEq, ↓reduceIte] | refine Imp.go (by assumption) _ ?_)
        exact fin1 (.inr rfl) Try.results26 (by simp only [go_sem, Nat.reduceEqDiff, reduceCtorEq, ↓reduceIte, Nat.reduceMul, Nat.reduceAdd, Nat.reduceLT, Nat.reduceLeDiff, Int.reduceLT, Int.reduceLE, Int.reduceToNat, Nat.reduceBEq, *] <;> rfl) rfl
    · have he : decide (a = b) = true := by
        apply decide_eq_true
        have := hS.out
        rwa [List.take_of_length_le (by omega), List.take_of_length_le (by omega)] at this
      clear hlen
      repeat (first
        | refine d_assoc ?_
        | refine d_sskip ?_
        | (refine d_sreg (by kernel_rfl) fun K hK => ?_; simp only [go_sem, Nat.reduceEqDiff, reduceCtorEq, ↓reduceIte, Nat.reduceMul, Nat.reduceAdd, Nat.reduceLT, Nat.reduceLeDiff, Int.reduceLT, Int.reduceLE, Int.reduceToNat, Nat.reduceBEq, *]; (first | refine hK.go _ ?_ | refine ⟨by omega, hK.go _ ?_⟩ | refine ⟨by omega, by omega, hK.go _ ?_⟩ | refine ⟨by omega, by omega, by omega, hK.go _ ?_⟩); clear hK K)
        | (refine d_reg (by kernel_rfl) fun K hK => ?_; simp only [go_sem, Nat.reduceEqDiff, reduceCtorEq, ↓reduceIte, Nat.reduceMul, Nat.reduceAdd, Nat.reduceLT, Nat.reduceLeDiff, Int.reduceLT, Int.reduceLE, Int.reduceToNat, Nat.reduceBEq, *]; (first | refine hK.go _ ?_ | refine ⟨by omega, hK.go _ ?_⟩ | refine ⟨by omega, by omega, hK.go _ ?_⟩ | refine ⟨by omega, by omega, by omega, hK.go _ ?_⟩); clear hK K)
        | (refine d_scond true rfl (fun _ => ?_) (fun h => by cases h))
        | (refine d_scond false rfl (fun h => by cases h) (fun _ => ?_))
        | (refine d_cond true rfl (fun _ => ?_) (fun h => by cases h))
        | (refine d_cond false rfl (fun h => by cases h) (fun _ => ?_))
        | refine d_exit ?_
        | refine d_sexit ?_
        | refine d_ret ?_
        | refine d_sret ?_
        | refine d_skip ?_)
      repeat (first | simp only [thenD, blockD, Nat.reduceEqDiff, reduceCtorEq, ↓reduceIte] | refine Imp.go (by assumption) _ ?_)
      repeat (first
        | refine d_assoc ?_
        | refine d_sskip ?_
        | (refine d_sreg (by kernel_rfl) fun K hK => ?_; simp only [go_sem, Nat.reduceEqDiff, reduceCtorEq, ↓reduceIte, Nat.reduceMul, Nat.reduceAdd, Nat.reduceLT, Nat.reduceLeDiff, Int.reduceLT, Int.reduceLE, Int.reduceToNat, Nat.reduceBEq, *]; (first | refine hK.go _ ?_ | refine ⟨by omega, hK.go _ ?_⟩ | refine ⟨by omega, by omega, hK.go _ ?_⟩ | refine ⟨by omega, by omega, by omega, hK.go _ ?_⟩); clear hK K)
        | (refine d_reg (by kernel_rfl) fun K hK => ?_; simp only [go_sem, Nat.reduceEqDiff, reduceCtorEq, ↓reduceIte, Nat.reduceMul, Nat.reduceAdd, Nat.reduceLT, Nat.reduceLeDiff, Int.reduceLT, Int.reduceLE, Int.reduceToNat, Nat.reduceBEq, *]; (first | refine hK.go _ ?_ | refine ⟨by omega, hK.go _ ?_⟩ | refine ⟨by omega, by omega, hK.go _ ?_⟩ | refine ⟨by omega, by omega, by omega, hK.go _ ?_⟩); clear hK K)
        | (refine d_scond true rfl (fun _ => ?_) (fun h => by cases h))
        | (refine d_scond false rfl (fun h => by cases h) (fun _ => ?_))
        | (refine d_cond true rfl (fun _ => ?_) (fun h => by cases h))
        | (refine d_cond false rfl (fun h => by cases h) (fun _ => ?_))
        | refine d_exit ?_
        | refine d_sexit ?_
        | refine d_ret ?_
        | refine d_sret ?_
        | refine d_skip ?_)
      exact fin1 (.inr rfl) Try.results26 (by simp only [go_sem, Nat.reduceEqDiff, reduceCtorEq, ↓reduceIte, Nat.reduceMul, Nat.reduceAdd, Nat.reduceLT, Nat.reduceLeDiff, Int.reduceLT, Int.reduceLE, Int.reduceToNat, Nat.reduceBEq, *] <;> rfl) rfl
  · have hne : decide (a = b) = false := decide_eq_false (fun e => hlen (by rw [e]))
    repeat (first
      | refine d_assoc ?_
      | refine d_sskip ?_
      | (refine d_sreg (by kernel_rfl) fun K hK => ?_; simp only [go_sem, Nat.reduceEqDiff, reduceCtorEq, ↓reduceIte, Nat.reduceMul, Nat.reduceAdd, Nat.reduceLT, Nat.reduceLeDiff, Int.reduceLT, Int.reduceLE, Int.reduceToNat, Nat.reduceBEq, *]; (first | refine hK.go _ ?_ | refine ⟨by omega, hK.go _ ?_⟩ | refine ⟨by omega, by omega, hK.go _ ?_⟩ | refine ⟨by omega, by omega, by omega, hK.go _ ?_⟩); clear hK K)
      | (refine d_reg (by kernel_rfl) fun K hK => ?_; simp only [go_sem, Nat.reduceEqDiff, reduceCtorEq, ↓reduceIte, Nat.reduceMul, Nat.reduceAdd, Nat.reduceLT, Nat.reduceLeDiff, Int.reduceLT, Int.reduceLE, Int.reduceToNat, Nat.reduceBEq, *]; (first | refine hK.go _ ?_ | refine ⟨by omega, hK.go _ ?_⟩ | refine ⟨by omega, by omega, hK.go _ ?_⟩ | refine ⟨by omega, by omega, by omega, hK.go _ ?_⟩); clear hK K)
      | (refine d_scond true rfl (fun _ => ?_) (fun h => by cases h))
      | (refine d_scond false rfl (fun h => by cases h) (fun _ => ?_))
      | (refine d_cond true rfl (fun _ => ?_) (fun h => by cases h))
      | (refine d_cond false rfl (fun h => by cases h) (fun _ => ?_))
      | refine d_exit ?_
      | refine d_sexit ?_
      | refine d_ret ?_
      | refine d_sret ?_
      | refine d_skip ?_)
    exact fin1 (.inr rfl) Try.results26 (by simp only [go_sem, Nat.reduceEqDiff, reduceCtorEq, ↓reduceIte, Nat.reduceMul, Nat.reduceAdd, Nat.reduceLT, Nat.reduceLeDiff, Int.reduceLT, Int.reduceLE, Int.reduceToNat, Nat.reduceBEq, *] <;> rfl) rfl

theorem has_fn (l : List Int) (k : Int) (hl : l.length ≤ 1000000) : FnD Try.prog 67 [U l, iv .u64 k] (bv (decide (k ∈ l))) := by
  refine fn2 mixed Try.func67 (by kernel_rfl) rfl Try.ntmps67 (by decide) fun s e0 e1 => ?_
  unfold U at e0
  repeat (first
    | refine d_assoc ?_
    | refine d_sskip ?_
    | (refine d_sreg (by kernel_rfl) fun K hK => ?_; simp only [go_sem, Nat.reduceEqDiff, reduceCtorEq, ↓reduceIte, Nat.reduceMul, Nat.reduceAdd, Nat.reduceLT, Nat.reduceLeDiff, Int.reduceLT, Int.reduceLE, Int.reduceToNat, Nat.reduceBEq, *]; (first | refine hK.go _ ?_ | refine ⟨by omega, hK.go _ ?_⟩ | refine ⟨by omega, by omega, hK.go _ ?_⟩ | refine ⟨by omega, by omega, by omega, hK.go _ ?_⟩); clear hK K)
    | (refine d_reg (by kernel_rfl) fun K hK => ?_; simp only [go_sem, Nat.reduceEqDiff, reduceCtorEq, ↓reduceIte, Nat.reduceMul, Nat.reduceAdd, Nat.reduceLT, Nat.reduceLeDiff, Int.reduceLT, Int.reduceLE, Int.reduceToNat, Nat.reduceBEq, *]; (first | refine hK.go _ ?_ | refine ⟨by omega, hK.go _ ?_⟩ | refine ⟨by omega, by omega, hK.go _ ?_⟩ | refine ⟨by omega, by omega, by omega, hK.go _ ?_⟩); clear hK K)
    | (refine d_scond true rfl (fun _ => ?_) (fun h => by cases h))
    | (refine d_scond false rfl (fun h => by cases h) (fun _ => ?_))
    | (refine d_cond true rfl (fun _ => ?_) (fun h => by cases h))
    | (refine d_cond false rfl (fun h => by cases h) (fun _ => ?_))
    | refine d_exit ?_
    | refine d_sexit ?_
    | refine d_ret ?_
    | refine d_sret ?_
    | refine d_skip ?_)
  refine d_sblock fun K hK => ?_
  refine d_loop (fun s => ∃ (i : Nat), s.env 0 = .sl (sl1 (iv .u64) l) ∧ s.env 1 = iv .u64 k ∧ s.env 5 = iv .i64 i ∧ i ≤ l.length ∧ Sec (k ∉ l.take i)) (fun s => l.length - idx (s.env 5)) ?_ ?_
  · exact ⟨0, by simp only [go_sem, Nat.reduceEqDiff, reduceCtorEq, ↓reduceIte, Nat.reduceMul, Nat.reduceAdd, Nat.reduceLT, Nat.reduceLeDiff, Int.reduceLT, Int.reduceLE, Int.reduceToNat, Nat.reduceBEq, *], by simp only [go_sem, Nat.reduceEqDiff, reduceCtorEq, ↓reduceIte, Nat.reduceMul, Nat.reduceAdd, Nat.reduceLT, Nat.reduceLeDiff, Int.reduceLT, Int.reduceLE, Int.reduceToNat, Nat.reduceBEq, *], by simp only [go_sem, Nat.reduceEqDiff, reduceCtorEq, ↓reduceIte, Nat.reduceMul, Nat.reduceAdd, Nat.reduceLT, Nat.reduceLeDiff, Int.reduceLT, Int.reduceLE, Int.reduceToNat, Nat.reduceBEq, *] <;> rfl, Nat.zero_le _, ⟨by simp⟩⟩
  clear e0 e1
  rintro s1 K1 ⟨i, e0, e1, e5, hi, hS⟩ hK1
  have hw := wi i (by omega)
  by_cases h1 : i < l.length
  · by_cases he : nth l i = k
    · have hin : decide (k ∈ l) = true := decide_eq_true (by rw [← he]; exact nth_mem h1)
      repeat (first
        | refine d_assoc ?_
        | refine d_sskip ?_
        | (refine d_sreg (by kernel_rfl) fun K hK => ?_; simp only [go_sem, Nat.reduceEqDiff, reduceCtorEq, ↓reduceIte, Nat.reduceMul, Nat.reduceAdd, Nat.reduceLT, Nat.reduceLeDiff, Int.reduceLT, Int.reduceLE, Int.reduceToNat, Nat.reduceBEq, *]; (first | refine hK.go _ ?_ | refine ⟨by omega, hK.go _ ?_⟩ | refine ⟨by omega, by omega, hK.go _ ?_⟩ | refine ⟨by omega, by omega, by omega, hK.go _ ?_⟩); clear hK K)
        | (refine d_reg (by kernel_rfl) fun K hK => ?_; simp only [go_sem, Nat.reduceEqDiff, reduceCtorEq, ↓reduceIte, Nat.reduceMul, Nat.reduceAdd, Nat.reduceLT, Nat.reduceLeDiff, Int.reduceLT, Int.reduceLE, Int.reduceToNat, Nat.reduceBEq, *]; (first | refine hK.go _ ?_ | refine ⟨by omega, hK.go _ ?_⟩ | refine ⟨by omega, by omega, hK.go _ ?_⟩ | refine ⟨by omega, by omega, by omega, hK.go _ ?_⟩); clear hK K)
        | (refine d_scond true rfl (fun _ => ?_) (fun h => by cases h))
        | (refine d_scond false rfl (fun h => by cases h) (fun _ => ?_))
        | (refine d_cond true rfl (fun _ => ?_) (fun h => by cases h))
        | (refine d_cond false rfl (fun h => by cases h) (fun _ => ?_))
        | refine d_exit ?_
        | refine d_sexit ?_
        | refine d_ret ?_
        | refine d_sret ?_
        | refine d_skip ?_)
      refine d_sblock fun K2 hK2 => ?_
      repeat (first
        | refine d_assoc ?_
        | refine d_sskip ?_
        | (refine d_sreg (by kernel_rfl) fun K hK => ?_; simp only [go_sem, Nat.reduceEqDiff, reduceCtorEq, ↓reduceIte, Nat.reduceMul, Nat.reduceAdd, Nat.reduceLT, Nat.reduceLeDiff, Int.reduceLT, Int.reduceLE, Int.reduceToNat, Nat.reduceBEq, *]; (first | refine hK.go _ ?_ | refine ⟨by omega, hK.go _ ?_⟩ | refine ⟨by omega, by omega, hK.go _ ?_⟩ | refine ⟨by omega, by omega, by omega, hK.go _ ?_⟩); clear hK K)
        | (refine d_reg (by kernel_rfl) fun K hK => ?_; simp only [go_sem, Nat.reduceEqDiff, reduceCtorEq, ↓reduceIte, Nat.reduceMul, Nat.reduceAdd, Nat.reduceLT, Nat.reduceLeDiff, Int.reduceLT, Int.reduceLE, Int.reduceToNat, Nat.reduceBEq, *]; (first | refine hK.go _ ?_ | refine ⟨by omega, hK.go _ ?_⟩ | refine ⟨by omega, by omega, hK.go _ ?_⟩ | refine ⟨by omega, by omega, by omega, hK.go _ ?_⟩); clear hK K)
        | (refine d_scond true rfl (fun _ => ?_) (fun h => by cases h))
        | (refine d_scond false rfl (fun h => by cases h) (fun _ => ?_))
        | (refine d_cond true rfl (fun _ => ?_) (fun h => by cases h))
        | (refine d_cond false rfl (fun h => by cases h) (fun _ => ?_))
        | refine d_exit ?_
        | refine d_sexit ?_
        | refine d_ret ?_
        | refine d_sret ?_
        | refine d_skip ?_)
      repeat (first | simp only [thenD, blockD, Nat.reduceEqDiff, reduceCtorEq, ↓reduceIte] | refine Imp.go (by assumption) _ ?_)
      exact fin1 (.inr rfl) Try.results67 (by simp only [go_sem, Nat.reduceEqDiff, reduceCtorEq, ↓reduceIte, Nat.reduceMul, Nat.reduceAdd, Nat.reduceLT, Nat.reduceLeDiff, Int.reduceLT, Int.reduceLE, Int.reduceToNat, Nat.reduceBEq, *] <;> rfl) rfl
    · have hN := Sec.mk (show k ∉ l.take (i + 1) by
        rw [take_nth l i h1]; simp only [List.mem_append, List.mem_singleton]; rintro (h | h)
        · exact hS.out h
        · exact he h.symm)
      repeat (first
        | refine d_assoc ?_
        | refine d_sskip ?_
        | (refine d_sreg (by kernel_rfl) fun K hK => ?_; simp only [go_sem, Nat.reduceEqDiff, reduceCtorEq, ↓reduceIte, Nat.reduceMul, Nat.reduceAdd, Nat.reduceLT, Nat.reduceLeDiff, Int.reduceLT, Int.reduceLE, Int.reduceToNat, Nat.reduceBEq, *]; (first | refine hK.go _ ?_ | refine ⟨by omega, hK.go _ ?_⟩ | refine ⟨by omega, by omega, hK.go _ ?_⟩ | refine ⟨by omega, by omega, by omega, hK.go _ ?_⟩); clear hK K)
        | (refine d_reg (by kernel_rfl) fun K hK => ?_; simp only [go_sem, Nat.reduceEqDiff, reduceCtorEq, ↓reduceIte, Nat.reduceMul, Nat.reduceAdd, Nat.reduceLT, Nat.reduceLeDiff, Int.reduceLT, Int.reduceLE, Int.reduceToNat, Nat.reduceBEq, *]; (first | refine hK.go _ ?_ | refine ⟨by omega, hK.go _ ?_⟩ | refine ⟨by omega, by omega, hK.go _ ?_⟩ | refine ⟨by omega, by omega, by omega, hK.go _ ?_⟩); clear hK K)
        | (refine d_scond true rfl (fun _ => ?_) (fun h => by cases h))
        | (refine d_scond false rfl (fun h => by cases h) (fun _ => ?_))
        | (refine d_cond true rfl (fun _ => ?_) (fun h => by cases h))
        | (refine d_cond false rfl (fun h => by cases h) (fun _ => ?_))
        | refine d_exit ?_
        | refine d_sexit ?_
        | refine d_ret ?_
        | refine d_sret ?_
        | refine d_skip ?_)
      refine d_sblock fun K2 hK2 => ?_
      repeat (first
        | refine d_assoc ?_
        | refine d_sskip ?_
        | (refine d_sreg (by kernel_rfl) fun K hK => ?_; simp only [go_sem, Nat.reduceEqDiff, reduceCtorEq, ↓reduceIte, Nat.reduceMul, Nat.reduceAdd, Nat.reduceLT, Nat.reduceLeDiff, Int.reduceLT, Int.reduceLE, Int.reduceToNat, Nat.reduceBEq, *]; (first | refine hK.go _ ?_ | refine ⟨by omega, hK.go _ ?_⟩ | refine ⟨by omega, by omega, hK.go _ ?_⟩ | refine ⟨by omega, by omega, by omega, hK.go _ ?_⟩); clear hK K)
        | (refine d_reg (by kernel_rfl) fun K hK => ?_; simp only [go_sem, Nat.reduceEqDiff, reduceCtorEq, ↓reduceIte, Nat.reduceMul, Nat.reduceAdd, Nat.reduceLT, Nat.reduceLeDiff, Int.reduceLT, Int.reduceLE, Int.reduceToNat, Nat.reduceBEq, *]; (first | refine hK.go _ ?_ | refine ⟨by omega, hK.go _ ?_⟩ | refine ⟨by omega, by omega, hK.go _ ?_⟩ | refine ⟨by omega, by omega, by omega, hK.go _ ?_⟩); clear hK K)
        | (refine d_scond true rfl (fun _ => ?_) (fun h => by cases h))
        | (refine d_scond false rfl (fun h => by cases h) (fun _ => ?_))
        | (refine d_cond true rfl (fun _ => ?_) (fun h => by cases h))
        | (refine d_cond false rfl (fun h => by cases h) (fun _ => ?_))
        | refine d_exit ?_
        | refine d_sexit ?_
        | refine d_ret ?_
        | refine d_sret ?_
        | refine d_skip ?_)
      repeat (first | simp only [thenD, blockD, Nat.reduceEqDiff, reduceCtorEq, ↓reduceIte] | refine Imp.go (by assumption) _ ?_)
      repeat (first
        | refine d_assoc ?_
        | refine d_sskip ?_
        | (refine d_sreg (by kernel_rfl) fun K hK => ?_; simp only [go_sem, Nat.reduceEqDiff, reduceCtorEq, ↓reduceIte, Nat.reduceMul, Nat.reduceAdd, Nat.reduceLT, Nat.reduceLeDiff, Int.reduceLT, Int.reduceLE, Int.reduceToNat, Nat.reduceBEq, *]; (first | refine hK.go _ ?_ | refine ⟨by omega, hK.go _ ?_⟩ | refine ⟨by omega, by omega, hK.go _ ?_⟩ | refine ⟨by omega, by omega, by omega, hK.go _ ?_⟩); clear hK K)
        | (refine d_reg (by kernel_rfl) fun K hK => ?_; simp only [go_sem, Nat.reduceEqDiff, reduceCtorEq, ↓reduceIte, Nat.reduceMul, Nat.reduceAdd, Nat.reduceLT, Nat.reduceLeDiff, Int.reduceLT, Int.reduceLE, Int.reduceToNat, Nat.reduceBEq, *]; (first | refine hK.go _ ?_ | refine ⟨by omega, hK.go _ ?_⟩ | refine ⟨by omega, by omega, hK.go _ ?_⟩ | refine ⟨by omega, by omega, by omega, hK.go _ ?_⟩); clear hK K)
        | (refine d_scond true rfl (fun _ => ?_) (fun h => by cases h))
        | (refine d_scond false rfl (fun h => by cases h) (fun _ => ?_))
        | (refine d_cond true rfl (fun _ => ?_) (fun h => by cases h))
        | (refine d_cond false rfl (fun h => by cases h) (fun _ => ?_))
        | refine d_exit ?_
        | refine d_sexit ?_
        | refine d_ret ?_
        | refine d_sret ?_
        | refine d_skip ?_)
      repeat (first | simp only [thenD, blockD, Nat.reduceEqDiff, reduceCtorEq, ↓reduceIte] | refine Imp.go (by assumption) _ ?_)
      exact ⟨⟨i + 1, by simp only [go_sem, Nat.reduceEqDiff, reduceCtorEq, ↓reduceIte, Nat.reduceMul, Nat.reduceAdd, Nat.reduceLT, Nat.reduceLeDiff, Int.reduceLT, Int.reduceLE, Int.reduceToNat, Nat.reduceBEq, *], by simp only [go_sem, Nat.reduceEqDiff, reduceCtorEq, ↓reduceIte, Nat.reduceMul, Nat.reduceAdd, Nat.reduceLT, Nat.reduceLeDiff, Int.reduceLT, Int.reduceLE, Int.reduceToNat, Nat.reduceBEq, *], by simp only [go_sem, Nat.reduceEqDiff, reduceCtorEq, ↓reduceIte, Nat.reduceMul, Nat.reduceAdd, Nat.reduceLT, Nat.reduceLeDiff, Int.reduceLT, Int.reduceLE, Int.reduceToNat, Nat.reduceBEq, *], h1, hN⟩, by simp only [go_sem, Nat.reduceEqDiff, reduceCtorEq, ↓reduceIte, Nat.reduceMul, Nat.reduceAdd, Nat.reduceLT, Nat.reduceLeDiff, Int.reduceLT, Int.reduceLE, Int.reduceToNat, Nat.reduceBEq, *, idx]; exact mlt h1⟩
  · have hin : decide (k ∈ l) = false := decide_eq_false (by have := hS.out; rwa [List.take_of_length_le (by omega)] at this)
    repeat (first
      | refine d_assoc ?_
      | refine d_sskip ?_
      | (refine d_sreg (by kernel_rfl) fun K hK => ?_; simp only [go_sem, Nat.reduceEqDiff, reduceCtorEq, ↓reduceIte, Nat.reduceMul, Nat.reduceAdd, Nat.reduceLT, Nat.reduceLeDiff, Int.reduceLT, Int.reduceLE, Int.reduceToNat, Nat.reduceBEq, *]; (first | refine hK.go _ ?_ | refine ⟨by omega, hK.go _ ?_⟩ | refine ⟨by omega, by omega, hK.go _ ?_⟩ | refine ⟨by omega, by omega, by omega, hK.go _ ?_⟩); clear hK K)
      | (refine d_reg (by kernel_rfl) fun K hK => ?_; simp only [go_sem, Nat.reduceEqDiff, reduceCtorEq, ↓reduceIte, Nat.reduceMul, Nat.reduceAdd, Nat.reduceLT, Nat.reduceLeDiff, Int.reduceLT, Int.reduceLE, Int.reduceToNat, Nat.reduceBEq, *]; (first | refine hK.go _ ?_ | refine ⟨by omega, hK.go _ ?_⟩ | refine ⟨by omega, by omega, hK.go _ ?_⟩ | refine ⟨by omega, by omega, by omega, hK.go _ ?_⟩); clear hK K)
      | (refine d_scond true rfl (fun _ => ?_) (fun h => by cases h))
      | (refine d_scond false rfl (fun h => by cases h) (fun _ => ?_))
      | (refine d_cond true rfl (fun _ => ?_) (fun h => by cases h))
      | (refine d_cond false rfl (fun h => by cases h) (fun _ => ?_))
      | refine d_exit ?_
      | refine d_sexit ?_
      | refine d_ret ?_
      | refine d_sret ?_
      | refine d_skip ?_)
    repeat (first | simp only [thenD, blockD, Nat.reduceEqDiff, reduceCtorEq, ↓reduceIte] | refine Imp.go (by assumption) _ ?_)
    repeat (first
      | refine d_assoc ?_
      | refine d_sskip ?_
      | (refine d_sreg (by kernel_rfl) fun K hK => ?_; simp only [go_sem, Nat.reduceEqDiff, reduceCtorEq, ↓reduceIte, Nat.reduceMul, Nat.reduceAdd, Nat.reduceLT, Nat.reduceLeDiff, Int.reduceLT, Int.reduceLE, Int.reduceToNat, Nat.reduceBEq, *]; (first | refine hK.go _ ?_ | refine ⟨by omega, hK.go _ ?_⟩ | refine ⟨by omega, by omega, hK.go _ ?_⟩ | refine ⟨by omega, by omega, by omega, hK.go _ ?_⟩); clear hK K)
      | (refine d_reg (by kernel_rfl) fun K hK => ?_; simp only [go_sem, Nat.reduceEqDiff, reduceCtorEq, ↓reduceIte, Nat.reduceMul, Nat.reduceAdd, Nat.reduceLT, Nat.reduceLeDiff, Int.reduceLT, Int.reduceLE, Int.reduceToNat, Nat.reduceBEq, *]; (first | refine hK.go _ ?_ | refine ⟨by omega, hK.go _ ?_⟩ | refine ⟨by omega, by omega, hK.go _ ?_⟩ | refine ⟨by omega, by omega, by omega, hK.go _ ?_⟩); clear hK K)
      | (refine d_scond true rfl (fun _ => ?_) (fun h => by cases h))
      | (refine d_scond false rfl (fun h => by cases h) (fun _ => ?_))
      | (refine d_cond true rfl (fun _ => ?_) (fun h => by cases h))
      | (refine d_cond false rfl (fun h => by cases h) (fun _ => ?_))
      | refine d_exit ?_
      | refine d_sexit ?_
      | refine d_ret ?_
      | refine d_sret ?_
      | refine d_skip ?_)
    exact fin1 (.inr rfl) Try.results67 (by simp only [go_sem, Nat.reduceEqDiff, reduceCtorEq, ↓reduceIte, Nat.reduceMul, Nat.reduceAdd, Nat.reduceLT, Nat.reduceLeDiff, Int.reduceLT, Int.reduceLE, Int.reduceToNat, Nat.reduceBEq, *] <;> rfl) rfl

theorem refCommon_fn (a b : List Int) (ha : a.length ≤ 1000) (hb : b.length ≤ 1000) : FnD Try.prog 49 [U a, U b] (U (a.filter (decide <| · ∈ b))) := by
  refine fn2 mixed Try.func49 (by kernel_rfl) rfl Try.ntmps49 (by decide) fun s e0 e1 => ?_
  unfold U at e0 e1
  repeat (first
    | refine d_assoc ?_
    | refine d_sskip ?_
    | (refine d_sreg (by kernel_rfl) fun K hK => ?_; simp only [go_sem, Nat.reduceEqDiff, reduceCtorEq, ↓reduceIte, Nat.reduceMul, Nat.reduceAdd, Nat.reduceLT, Nat.reduceLeDiff, Int.reduceLT, Int.reduceLE, Int.reduceToNat, Nat.reduceBEq, *]; (first | refine hK.go _ ?_ | refine ⟨by omega, hK.go _ ?_⟩ | refine ⟨by omega, by omega, hK.go _ ?_⟩ | refine ⟨by omega, by omega, by omega, hK.go _ ?_⟩); clear hK K)
    | (refine d_reg (by kernel_rfl) fun K hK => ?_; simp only [go_sem, Nat.reduceEqDiff, reduceCtorEq, ↓reduceIte, Nat.reduceMul, Nat.reduceAdd, Nat.reduceLT, Nat.reduceLeDiff, Int.reduceLT, Int.reduceLE, Int.reduceToNat, Nat.reduceBEq, *]; (first | refine hK.go _ ?_ | refine ⟨by omega, hK.go _ ?_⟩ | refine ⟨by omega, by omega, hK.go _ ?_⟩ | refine ⟨by omega, by omega, by omega, hK.go _ ?_⟩); clear hK K)
    | (refine d_scond true rfl (fun _ => ?_) (fun h => by cases h))
    | (refine d_scond false rfl (fun h => by cases h) (fun _ => ?_))
    | (refine d_cond true rfl (fun _ => ?_) (fun h => by cases h))
    | (refine d_cond false rfl (fun h => by cases h) (fun _ => ?_))
    | refine d_exit ?_
    | refine d_sexit ?_
    | refine d_ret ?_
    | refine d_sret ?_
    | refine d_skip ?_)
  refine d_sblock fun K hK => ?_
  refine d_loop (fun s => ∃ (i g v : Nat) (O : List Int), s.env 0 = .sl (sl1 (iv .u64) a) ∧ s.env 1 = .sl (sl1 (iv .u64) b) ∧ s.env 6 = iv .i64 i ∧ s.env 5 = .own (7, g) v (sl1 (iv .u64) O) ∧ s.tip (7, g) = some (v, 28) ∧ i ≤ a.length ∧ O.length ≤ i ∧ Sec (O = (a.take i).filter (decide <| · ∈ b))) (fun s => a.length - idx (s.env 6)) ?_ ?_
  · exact ⟨0, s.gen 7, 0, [], by simp only [go_sem, Nat.reduceEqDiff, reduceCtorEq, ↓reduceIte, Nat.reduceMul, Nat.reduceAdd, Nat.reduceLT, Nat.reduceLeDiff, Int.reduceLT, Int.reduceLE, Int.reduceToNat, Nat.reduceBEq, *], by simp only [go_sem, Nat.reduceEqDiff, reduceCtorEq, ↓reduceIte, Nat.reduceMul, Nat.reduceAdd, Nat.reduceLT, Nat.reduceLeDiff, Int.reduceLT, Int.reduceLE, Int.reduceToNat, Nat.reduceBEq, *], by simp only [go_sem, Nat.reduceEqDiff, reduceCtorEq, ↓reduceIte, Nat.reduceMul, Nat.reduceAdd, Nat.reduceLT, Nat.reduceLeDiff, Int.reduceLT, Int.reduceLE, Int.reduceToNat, Nat.reduceBEq, *] <;> rfl, by simp only [go_sem, Nat.reduceEqDiff, reduceCtorEq, ↓reduceIte, Nat.reduceMul, Nat.reduceAdd, Nat.reduceLT, Nat.reduceLeDiff, Int.reduceLT, Int.reduceLE, Int.reduceToNat, Nat.reduceBEq, *], by simp only [go_sem, Nat.reduceEqDiff, reduceCtorEq, ↓reduceIte, Nat.reduceMul, Nat.reduceAdd, Nat.reduceLT, Nat.reduceLeDiff, Int.reduceLT, Int.reduceLE, Int.reduceToNat, Nat.reduceBEq, *], Nat.zero_le _, Nat.zero_le _, ⟨rfl⟩⟩
  clear e0 e1
  rintro s1 K1 ⟨i, g, v, O, e0, e1, e6, e5, et, hi, hO, hS⟩ hK1
  have hw := wi i (by omega)
  have hlen : O.length ≤ 1000 := by omega
  by_cases h1 : i < a.length
  · by_cases he : nth a i ∈ b
    · have hin : decide (nth a i ∈ b) = true := decide_eq_true he
      have hN := Sec.mk (show O ++ [nth a i] = (a.take (i + 1)).filter (decide <| · ∈ b) by rw [take_nth a i h1, List.filter_append, ← hS.out]; simp [he])
      have hc := has_fn b (nth a i) (by omega)
      rw [hin] at hc
      clear hin he
      repeat (first
        | refine d_assoc ?_
        | refine d_sskip ?_
        | (refine d_sreg (by kernel_rfl) fun K hK => ?_; simp only [go_sem, Nat.reduceEqDiff, reduceCtorEq, ↓reduceIte, Nat.reduceMul, Nat.reduceAdd, Nat.reduceLT, Nat.reduceLeDiff, Int.reduceLT, Int.reduceLE, Int.reduceToNat, Nat.reduceBEq, *]; (first | refine hK.go _ ?_ | refine ⟨by omega, hK.go _ ?_⟩ | refine ⟨by omega, by omega, hK.go _ ?_⟩ | refine ⟨by omega, by omega, by omega, hK.go _ ?_⟩); clear hK K)
        | (refine d_reg (by kernel_rfl) fun K hK => ?_; simp only [go_sem, Nat.reduceEqDiff, reduceCtorEq, ↓reduceIte, Nat.reduceMul, Nat.reduceAdd, Nat.reduceLT, Nat.reduceLeDiff, Int.reduceLT, Int.reduceLE, Int.reduceToNat, Nat.reduceBEq, *]; (first | refine hK.go _ ?_ | refine ⟨by omega, hK.go _ ?_⟩ | refine ⟨by omega, by omega, hK.go _ ?_⟩ | refine ⟨by omega, by omega, by omega, hK.go _ ?_⟩); clear hK K)
        | (refine d_scond true rfl (fun _ => ?_) (fun h => by cases h))
        | (refine d_scond false rfl (fun h => by cases h) (fun _ => ?_))
        | (refine d_cond true rfl (fun _ => ?_) (fun h => by cases h))
        | (refine d_cond false rfl (fun h => by cases h) (fun _ => ?_))
        | refine d_exit ?_
        | refine d_sexit ?_
        | refine d_ret ?_
        | refine d_sret ?_
        | refine d_skip ?_)
      refine d_sblock fun K2 hK2 => ?_
      refine d_sreg (by kernel_rfl) fun K hK => ?_
      simp only [go_sem, Nat.reduceEqDiff, reduceCtorEq, ↓reduceIte, Nat.reduceMul, Nat.reduceAdd, Nat.reduceLT, Nat.reduceLeDiff, Int.reduceLT, Int.reduceLE, Int.reduceToNat, Nat.reduceBEq, *]
      refine wp_call rfl (hc) (by first | exact .inl rfl | exact .inr rfl) ?_
      simp only [go_sem, Nat.reduceEqDiff, reduceCtorEq, ↓reduceIte, Nat.reduceMul, Nat.reduceAdd, Nat.reduceLT, Nat.reduceLeDiff, Int.reduceLT, Int.reduceLE, Int.reduceToNat, Nat.reduceBEq, *]
      (first | refine hK.go _ ?_ | refine ⟨by omega, hK.go _ ?_⟩ | refine ⟨by omega, by omega, hK.go _ ?_⟩); clear hK K
      repeat (first
        | refine d_assoc ?_
        | refine d_sskip ?_
        | (refine d_sreg (by kernel_rfl) fun K hK => ?_; simp only [go_sem, Nat.reduceEqDiff, reduceCtorEq, ↓reduceIte, Nat.reduceMul, Nat.reduceAdd, Nat.reduceLT, Nat.reduceLeDiff, Int.reduceLT, Int.reduceLE, Int.reduceToNat, Nat.reduceBEq, *]; (first | refine hK.go _ ?_ | refine ⟨by omega, hK.go _ ?_⟩ | refine ⟨by omega, by omega, hK.go _ ?_⟩ | refine ⟨by omega, by omega, by omega, hK.go _ ?_⟩); clear hK K)
        | (refine d_reg (by kernel_rfl) fun K hK => ?_; simp only [go_sem, Nat.reduceEqDiff, reduceCtorEq, ↓reduceIte, Nat.reduceMul, Nat.reduceAdd, Nat.reduceLT, Nat.reduceLeDiff, Int.reduceLT, Int.reduceLE, Int.reduceToNat, Nat.reduceBEq, *]; (first | refine hK.go _ ?_ | refine ⟨by omega, hK.go _ ?_⟩ | refine ⟨by omega, by omega, hK.go _ ?_⟩ | refine ⟨by omega, by omega, by omega, hK.go _ ?_⟩); clear hK K)
        | (refine d_scond true rfl (fun _ => ?_) (fun h => by cases h))
        | (refine d_scond false rfl (fun h => by cases h) (fun _ => ?_))
        | (refine d_cond true rfl (fun _ => ?_) (fun h => by cases h))
        | (refine d_cond false rfl (fun h => by cases h) (fun _ => ?_))
        | refine d_exit ?_
        | refine d_sexit ?_
        | refine d_ret ?_
        | refine d_sret ?_
        | refine d_skip ?_)
      repeat (first | simp only [thenD, blockD, Nat.reduceEqDiff, reduceCtorEq, ↓reduceIte] | refine Imp.go (by assumption) _ ?_)
      repeat (first
        | refine d_assoc ?_
        | refine d_sskip ?_
        | (refine d_sreg (by kernel_rfl) fun K hK => ?_; simp only [go_sem, Nat.reduceEqDiff, reduceCtorEq, ↓reduceIte, Nat.reduceMul, Nat.reduceAdd, Nat.reduceLT, Nat.reduceLeDiff, Int.reduceLT, Int.reduceLE, Int.reduceToNat, Nat.reduceBEq, *]; (first | refine hK.go _ ?_ | refine ⟨by omega, hK.go _ ?_⟩ | refine ⟨by omega, by omega, hK.go _ ?_⟩ | refine ⟨by omega, by omega, by omega, hK.go _ ?_⟩); clear hK K)
        | (refine d_reg (by kernel_rfl) fun K hK => ?_; simp only [go_sem, Nat.reduceEqDiff, reduceCtorEq, ↓reduceIte, Nat.reduceMul, Nat.reduceAdd, Nat.reduceLT, Nat.reduceLeDiff, Int.reduceLT, Int.reduceLE, Int.reduceToNat, Nat.reduceBEq, *]; (first | refine hK.go _ ?_ | refine ⟨by omega, hK.go _ ?_⟩ | refine ⟨by omega, by omega, hK.go _ ?_⟩ | refine ⟨by omega, by omega, by omega, hK.go _ ?_⟩); clear hK K)
        | (refine d_scond true rfl (fun _ => ?_) (fun h => by cases h))
        | (refine d_scond false rfl (fun h => by cases h) (fun _ => ?_))
        | (refine d_cond true rfl (fun _ => ?_) (fun h => by cases h))
        | (refine d_cond false rfl (fun h => by cases h) (fun _ => ?_))
        | refine d_exit ?_
        | refine d_sexit ?_
        | refine d_ret ?_
        | refine d_sret ?_
        | refine d_skip ?_)
      repeat (first | simp only [thenD, blockD, Nat.reduceEqDiff, reduceCtorEq, ↓reduceIte] | refine Imp.go (by assumption) _ ?_)
      exact ⟨⟨i + 1, g, v + 1, O ++ [nth a i], by simp only [go_sem, Nat.reduceEqDiff, reduceCtorEq, ↓reduceIte, Nat.reduceMul, Nat.reduceAdd, Nat.reduceLT, Nat.reduceLeDiff, Int.reduceLT, Int.reduceLE, Int.reduceToNat, Nat.reduceBEq, *], by simp only [go_sem, Nat.reduceEqDiff, reduceCtorEq, ↓reduceIte, Nat.reduceMul, Nat.reduceAdd, Nat.reduceLT, Nat.reduceLeDiff, Int.reduceLT, Int.reduceLE, Int.reduceToNat, Nat.reduceBEq, *], by simp only [go_sem, Nat.reduceEqDiff, reduceCtorEq, ↓reduceIte, Nat.reduceMul, Nat.reduceAdd, Nat.reduceLT, Nat.reduceLeDiff, Int.reduceLT, Int.reduceLE, Int.reduceToNat, Nat.reduceBEq, *], by simp only [go_sem, Nat.reduceEqDiff, reduceCtorEq, ↓reduceIte, Nat.reduceMul, Nat.reduceAdd, Nat.reduceLT, Nat.reduceLeDiff, Int.reduceLT, Int.reduceLE, Int.reduceToNat, Nat.reduceBEq, *], by simp only [go_sem, Nat.reduceEqDiff, reduceCtorEq, ↓reduceIte, Nat.reduceMul, Nat.reduceAdd, Nat.reduceLT, Nat.reduceLeDiff, Int.reduceLT, Int.reduceLE, Int.reduceToNat, Nat.reduceBEq, *], h1, by simp; exact hO, hN⟩, by simp only [go_sem, Nat.reduceEqDiff, reduceCtorEq, ↓reduceIte, Nat.reduceMul, Nat.reduceAdd, Nat.reduceLT, Nat.reduceLeDiff, Int.reduceLT, Int.reduceLE, Int.reduceToNat, Nat.reduceBEq, *, idx]; exact mlt h1⟩
    · have hin : decide (nth a i ∈ b) = false := decide_eq_false he
      have hN := Sec.mk (show O = (a.take (i + 1)).filter (decide <| · ∈ b) by rw [take_nth a i h1, List.filter_append, ← hS.out]; simp [he])
      have hc := has_fn b (nth a i) (by omega)
      rw [hin] at hc
      clear hin he
      repeat (first
        | refine d_assoc ?_
        | refine d_sskip ?_
        | (refine d_sreg (by kernel_rfl) fun K hK => ?_; simp only [go_sem, Nat.reduceEqDiff, reduceCtorEq, ↓reduceIte, Nat.reduceMul, Nat.reduceAdd, Nat.reduceLT, Nat.reduceLeDiff, Int.reduceLT, Int.reduceLE, Int.reduceToNat, Nat.reduceBEq, *]; (first | refine hK.go _ ?_ | refine ⟨by omega, hK.go _ ?_⟩ | refine ⟨by omega, by omega, hK.go _ ?_⟩ | refine ⟨by omega, by omega, by omega, hK.go _ ?_⟩); clear hK K)
        | (refine d_reg (by kernel_rfl) fun K hK => ?_; simp only [go_sem, Nat.reduceEqDiff, reduceCtorEq, ↓reduceIte, Nat.reduceMul, Nat.reduceAdd, Nat.reduceLT, Nat.reduceLeDiff, Int.reduceLT, Int.reduceLE, Int.reduceToNat, Nat.reduceBEq, *]; (first | refine hK.go _ ?_ | refine ⟨by omega, hK.go _ ?_⟩ | refine ⟨by omega, by omega, hK.go _ ?_⟩ | refine ⟨by omega, by omega, by omega, hK.go _ ?_⟩); clear hK K)
        | (refine d_scond true rfl (fun _ => ?_) (fun h => by cases h))
        | (refine d_scond false rfl (fun h => by cases h) (fun _ => ?_))
        | (refine d_cond true rfl (fun _ => ?_) (fun h => by cases h))
        | (refine d_cond false rfl (fun h => by cases h) (fun _ => ?_))
        | refine d_exit ?_
        | refine d_sexit ?_
        | refine d_ret ?_
        | refine d_sret ?_
        | refine d_skip ?_)
      refine d_sblock fun K2 hK2 => ?_
      refine d_sreg (by kernel_rfl) fun K hK => ?_
      simp only [go_sem, Nat.reduceEqDiff, reduceCtorEq, ↓reduceIte, Nat.reduceMul, Nat.reduceAdd, Nat.reduceLT, Nat.reduceLeDiff, Int.reduceLT, Int.reduceLE, Int.reduceToNat, Nat.reduceBEq, *]
      refine wp_call rfl (hc) (by first | exact .inl rfl | exact .inr rfl) ?_
      simp only [go_sem, Nat.reduceEqDiff, reduceCtorEq, ↓reduceIte, Nat.reduceMul, Nat.reduceAdd, Nat.reduceLT, Nat.reduceLeDiff, Int.reduceLT, Int.reduceLE, Int.reduceToNat, Nat.reduceBEq, *]
      (first | refine hK.go _ ?_ | refine ⟨by omega, hK.go _ ?_⟩ | refine ⟨by omega, by omega, hK.go _ ?_⟩); clear hK K
      repeat (first
        | refine d_assoc ?_
        | refine d_sskip ?_
        | (refine d_sreg (by kernel_rfl) fun K hK => ?_; simp only [go_sem, Nat.reduceEqDiff, reduceCtorEq, ↓reduceIte, Nat.reduceMul, Nat.reduceAdd, Nat.reduceLT, Nat.reduceLeDiff, Int.reduceLT, Int.reduceLE, Int.reduceToNat, Nat.reduceBEq, *]; (first | refine hK.go _ ?_ | refine ⟨by omega, hK.go _ ?_⟩ | refine ⟨by omega, by omega, hK.go _ ?_⟩ | refine ⟨by omega, by omega, by omega, hK.go _ ?_⟩); clear hK K)
        | (refine d_reg (by kernel_rfl) fun K hK => ?_; simp only [go_sem, Nat.reduceEqDiff, reduceCtorEq, ↓reduceIte, Nat.reduceMul, Nat.reduceAdd, Nat.reduceLT, Nat.reduceLeDiff, Int.reduceLT, Int.reduceLE, Int.reduceToNat, Nat.reduceBEq, *]; (first | refine hK.go _ ?_ | refine ⟨by omega, hK.go _ ?_⟩ | refine ⟨by omega, by omega, hK.go _ ?_⟩ | refine ⟨by omega, by omega, by omega, hK.go _ ?_⟩); clear hK K)
        | (refine d_scond true rfl (fun _ => ?_) (fun h => by cases h))
        | (refine d_scond false rfl (fun h => by cases h) (fun _ => ?_))
        | (refine d_cond true rfl (fun _ => ?_) (fun h => by cases h))
        | (refine d_cond false rfl (fun h => by cases h) (fun _ => ?_))
        | refine d_exit ?_
        | refine d_sexit ?_
        | refine d_ret ?_
        | refine d_sret ?_
        | refine d_skip ?_)
      repeat (first | simp only [thenD, blockD, Nat.reduceEqDiff, reduceCtorEq, ↓reduceIte] | refine Imp.go (by assumption) _ ?_)
      repeat (first
        | refine d_assoc ?_
        | refine d_sskip ?_
        | (refine d_sreg (by kernel_rfl) fun K hK => ?_; simp only [go_sem, Nat.reduceEqDiff, reduceCtorEq, ↓reduceIte, Nat.reduceMul, Nat.reduceAdd, Nat.reduceLT, Nat.reduceLeDiff, Int.reduceLT, Int.reduceLE, Int.reduceToNat, Nat.reduceBEq, *]; (first | refine hK.go _ ?_ | refine ⟨by omega, hK.go _ ?_⟩ | refine ⟨by omega, by omega, hK.go _ ?_⟩ | refine ⟨by omega, by omega, by omega, hK.go _ ?_⟩); clear hK K)
        | (refine d_reg (by kernel_rfl) fun K hK => ?_; simp only [go_sem, Nat.reduceEqDiff, reduceCtorEq, ↓reduceIte, Nat.reduceMul, Nat.reduceAdd, Nat.reduceLT, Nat.reduceLeDiff, Int.reduceLT, Int.reduceLE, Int.reduceToNat, Nat.reduceBEq, *]; (first | refine hK.go _ ?_ | refine ⟨by omega, hK.go _ ?_⟩ | refine ⟨by omega, by omega, hK.go _ ?_⟩ | refine ⟨by omega, by omega, by omega, hK.go _ ?_⟩); clear hK K)
        | (refine d_scond true rfl (fun _ => ?_) (fun h => by cases h))
        | (refine d_scond false rfl (fun h => by cases h) (fun _ => ?_))
        | (refine d_cond true rfl (fun _ => ?_) (fun h => by cases h))
        | (refine d_cond false rfl (fun h => by cases h) (fun _ => ?_))
        | refine d_exit ?_
        | refine d_sexit ?_
        | refine d_ret ?_
        | refine d_sret ?_
        | refine d_skip ?_)
      repeat (first | simp only [thenD, blockD, Nat.reduceEqDiff, reduceCtorEq, ↓reduceIte] | refine Imp.go (by assumption) _ ?_)
      exact ⟨⟨i + 1, g, v, O, by simp only [go_sem, Nat.reduceEqDiff, reduceCtorEq, ↓reduceIte, Nat.reduceMul, Nat.reduceAdd, Nat.reduceLT, Nat.reduceLeDiff, Int.reduceLT, Int.reduceLE, Int.reduceToNat, Nat.reduceBEq, *], by simp only [go_sem, Nat.reduceEqDiff, reduceCtorEq, ↓reduceIte, Nat.reduceMul, Nat.reduceAdd, Nat.reduceLT, Nat.reduceLeDiff, Int.reduceLT, Int.reduceLE, Int.reduceToNat, Nat.reduceBEq, *], by simp only [go_sem, Nat.reduceEqDiff, reduceCtorEq, ↓reduceIte, Nat.reduceMul, Nat.reduceAdd, Nat.reduceLT, Nat.reduceLeDiff, Int.reduceLT, Int.reduceLE, Int.reduceToNat, Nat.reduceBEq, *], by simp only [go_sem, Nat.reduceEqDiff, reduceCtorEq, ↓reduceIte, Nat.reduceMul, Nat.reduceAdd, Nat.reduceLT, Nat.reduceLeDiff, Int.reduceLT, Int.reduceLE, Int.reduceToNat, Nat.reduceBEq, *], by simp only [go_sem, Nat.reduceEqDiff, reduceCtorEq, ↓reduceIte, Nat.reduceMul, Nat.reduceAdd, Nat.reduceLT, Nat.reduceLeDiff, Int.reduceLT, Int.reduceLE, Int.reduceToNat, Nat.reduceBEq, *], h1, by omega, hN⟩, by simp only [go_sem, Nat.reduceEqDiff, reduceCtorEq, ↓reduceIte, Nat.reduceMul, Nat.reduceAdd, Nat.reduceLT, Nat.reduceLeDiff, Int.reduceLT, Int.reduceLE, Int.reduceToNat, Nat.reduceBEq, *, idx]; exact mlt h1⟩
  · have hf : O = a.filter (decide <| · ∈ b) := by rw [hS.out, List.take_of_length_le (by omega)]
    repeat (first
      | refine d_assoc ?_
      | refine d_sskip ?_
      | (refine d_sreg (by kernel_rfl) fun K hK => ?_; simp only [go_sem, Nat.reduceEqDiff, reduceCtorEq, ↓reduceIte, Nat.reduceMul, Nat.reduceAdd, Nat.reduceLT, Nat.reduceLeDiff, Int.reduceLT, Int.reduceLE, Int.reduceToNat, Nat.reduceBEq, *]; (first | refine hK.go _ ?_ | refine ⟨by omega, hK.go _ ?_⟩ | refine ⟨by omega, by omega, hK.go _ ?_⟩ | refine ⟨by omega, by omega, by omega, hK.go _ ?_⟩); clear hK K)
      | (refine d_reg (by kernel_rfl) fun K hK => ?_; simp only [go_sem, Nat.reduceEqDiff, reduceCtorEq, ↓reduceIte, Nat.reduceMul, Nat.reduceAdd, Nat.reduceLT, Nat.reduceLeDiff, Int.reduceLT, Int.reduceLE, Int.reduceToNat, Nat.reduceBEq, *]; (first | refine hK.go _ ?_ | refine ⟨by omega, hK.go _ ?_⟩ | refine ⟨by omega, by omega, hK.go _ ?_⟩ | refine ⟨by omega, by omega, by omega, hK.go _ ?_⟩); clear hK K)
      | (refine d_scond true rfl (fun _ => ?_) (fun h => by cases h))
      | (refine d_scond false rfl (fun h => by cases h) (fun _ => ?_))
      | (refine d_cond true rfl (fun _ => ?_) (fun h => by cases h))
      | (refine d_cond false rfl (fun h => by cases h) (fun _ => ?_))
      | refine d_exit ?_
      | refine d_sexit ?_
      | refine d_ret ?_
      | refine d_sret ?_
      | refine d_skip ?_)
    repeat (first | simp only [thenD, blockD, Nat.reduceEqDiff, reduceCtorEq, ↓reduceIte] | refine Imp.go (by assumption) _ ?_)
    repeat (first
      | refine d_assoc ?_
      | refine d_sskip ?_
      | (refine d_sreg (by kernel_rfl) fun K hK => ?_; simp only [go_sem, Nat.reduceEqDiff, reduceCtorEq, ↓reduceIte, Nat.reduceMul, Nat.reduceAdd, Nat.reduceLT, Nat.reduceLeDiff, Int.reduceLT, Int.reduceLE, Int.reduceToNat, Nat.reduceBEq, *]; (first | refine hK.go _ ?_ | refine ⟨by omega, hK.go _ ?_⟩ | refine ⟨by omega, by omega, hK.go _ ?_⟩ | refine ⟨by omega, by omega, by omega, hK.go _ ?_⟩); clear hK K)
      | (refine d_reg (by kernel_rfl) fun K hK => ?_; simp only [go_sem, Nat.reduceEqDiff, reduceCtorEq, ↓reduceIte, Nat.reduceMul, Nat.reduceAdd, Nat.reduceLT, Nat.reduceLeDiff, Int.reduceLT, Int.reduceLE, Int.reduceToNat, Nat.reduceBEq, *]; (first | refine hK.go _ ?_ | refine ⟨by omega, hK.go _ ?_⟩ | refine ⟨by omega, by omega, hK.go _ ?_⟩ | refine ⟨by omega, by omega, by omega, hK.go _ ?_⟩); clear hK K)
      | (refine d_scond true rfl (fun _ => ?_) (fun h => by cases h))
      | (refine d_scond false rfl (fun h => by cases h) (fun _ => ?_))
      | (refine d_cond true rfl (fun _ => ?_) (fun h => by cases h))
      | (refine d_cond false rfl (fun h => by cases h) (fun _ => ?_))
      | refine d_exit ?_
      | refine d_sexit ?_
      | refine d_ret ?_
      | refine d_sret ?_
      | refine d_skip ?_)
    exact fin1 (.inr rfl) Try.results49 (by simp only [go_sem, Nat.reduceEqDiff, reduceCtorEq, ↓reduceIte, Nat.reduceMul, Nat.reduceAdd, Nat.reduceLT, Nat.reduceLeDiff, Int.reduceLT, Int.reduceLE, Int.reduceToNat, Nat.reduceBEq, *] <;> rfl) rfl

theorem rising_fn (l : List Int) (hl : l.length ≤ 1000) : FnD Try.prog 50 [U l] (bv (decide (l.Pairwise (· < ·)))) := by
  refine fn1 mixed Try.func50 (by kernel_rfl) rfl Try.ntmps50 (by decide) fun s e0 => ?_
  unfold U at e0
  repeat (first
    | refine d_assoc ?_
    | refine d_sskip ?_
    | (refine d_sreg (by kernel_rfl) fun K hK => ?_; simp only [go_sem, Nat.reduceEqDiff, reduceCtorEq, ↓reduceIte, Nat.reduceMul, Nat.reduceAdd, Nat.reduceLT, Nat.reduceLeDiff, Int.reduceLT, Int.reduceLE, Int.reduceToNat, Nat.reduceBEq, *]; (first | refine hK.go _ ?_ | refine ⟨by omega, hK.go _ ?_⟩ | refine ⟨by omega, by omega, hK.go _ ?_⟩ | refine ⟨by omega, by omega, by omega, hK.go _ ?_⟩); clear hK K)
    | (refine d_reg (by kernel_rfl) fun K hK => ?_; simp only [go_sem, Nat.reduceEqDiff, reduceCtorEq, ↓reduceIte, Nat.reduceMul, Nat.reduceAdd, Nat.reduceLT, Nat.reduceLeDiff, Int.reduceLT, Int.reduceLE, Int.reduceToNat, Nat.reduceBEq, *]; (first | refine hK.go _ ?_ | refine ⟨by omega, hK.go _ ?_⟩ | refine ⟨by omega, by omega, hK.go _ ?_⟩ | refine ⟨by omega, by omega, by omega, hK.go _ ?_⟩); clear hK K)
    | (refine d_scond true rfl (fun _ => ?_) (fun h => by cases h))
    | (refine d_scond false rfl (fun h => by cases h) (fun _ => ?_))
    | (refine d_cond true rfl (fun _ => ?_) (fun h => by cases h))
    | (refine d_cond false rfl (fun h => by cases h) (fun _ => ?_))
    | refine d_exit ?_
    | refine d_sexit ?_
    | refine d_ret ?_
    | refine d_sret ?_
    | refine d_skip ?_)
  refine d_sblock fun K hK => ?_
  refine d_loop (fun s => ∃ (i : Nat), s.env 0 = .sl (sl1 (iv .u64) l) ∧ s.env 5 = iv .i64 l.length ∧ s.env 6 = iv .i64 i ∧ i ≤ l.length ∧ Sec ((l.take i).Pairwise (· < ·))) (fun s => l.length - idx (s.env 6)) ?_ ?_
  · exact ⟨0, by simp only [go_sem, Nat.reduceEqDiff, reduceCtorEq, ↓reduceIte, Nat.reduceMul, Nat.reduceAdd, Nat.reduceLT, Nat.reduceLeDiff, Int.reduceLT, Int.reduceLE, Int.reduceToNat, Nat.reduceBEq, *], by simp only [go_sem, Nat.reduceEqDiff, reduceCtorEq, ↓reduceIte, Nat.reduceMul, Nat.reduceAdd, Nat.reduceLT, Nat.reduceLeDiff, Int.reduceLT, Int.reduceLE, Int.reduceToNat, Nat.reduceBEq, *], by simp only [go_sem, Nat.reduceEqDiff, reduceCtorEq, ↓reduceIte, Nat.reduceMul, Nat.reduceAdd, Nat.reduceLT, Nat.reduceLeDiff, Int.reduceLT, Int.reduceLE, Int.reduceToNat, Nat.reduceBEq, *] <;> rfl, Nat.zero_le _, ⟨by simp⟩⟩
  clear e0
  rintro s1 K1 ⟨i, e0, e5, e6, hi, hS⟩ hK1
  have hw := wi i (by omega)
  by_cases h1 : i < l.length
  · cases i with
    | zero =>
      have h0 : ¬ (0 : Int) < ((0 : Nat) : Int) := by omega
      have hN := Sec.mk (show (l.take 1).Pairwise (· < ·) by rw [take_nth l 0 h1]; simp)
      repeat (first
        | refine d_assoc ?_
        | refine d_sskip ?_
        | (refine d_sreg (by kernel_rfl) fun K hK => ?_; simp only [go_sem, Nat.reduceEqDiff, reduceCtorEq, ↓reduceIte, Nat.reduceMul, Nat.reduceAdd, Nat.reduceLT, Nat.reduceLeDiff, Int.reduceLT, Int.reduceLE, Int.reduceToNat, Nat.reduceBEq, *]; (first | refine hK.go _ ?_ | refine ⟨by omega, hK.go _ ?_⟩ | refine ⟨by omega, by omega, hK.go _ ?_⟩ | refine ⟨by omega, by omega, by omega, hK.go _ ?_⟩); clear hK K)
        | (refine d_reg (by kernel_rfl) fun K hK => ?_; simp only [go_sem, Nat.reduceEqDiff, reduceCtorEq, ↓reduceIte, Nat.reduceMul, Nat.reduceAdd, Nat.reduceLT, Nat.reduceLeDiff, Int.reduceLT, Int.reduceLE, Int.reduceToNat, Nat.reduceBEq, *]; (first | refine hK.go _ ?_ | refine ⟨by omega, hK.go _ ?_⟩ | refine ⟨by omega, by omega, hK.go _ ?_⟩ | refine ⟨by omega, by omega, by omega, hK.go _ ?_⟩); clear hK K)
        | (refine d_scond true rfl (fun _ => ?_) (fun h => by cases h))
        | (refine d_scond false rfl (fun h => by cases h) (fun _ => ?_))
        | (refine d_cond true rfl (fun _ => ?_) (fun h => by cases h))
        | (refine d_cond false rfl (fun h => by cases h) (fun _ => ?_))
        | refine d_exit ?_
        | refine d_sexit ?_
        | refine d_ret ?_
        | refine d_sret ?_
        | refine d_skip ?_)
      refine d_sblock fun K2 hK2 => ?_
      repeat (first
        | refine d_assoc ?_
        | refine d_sskip ?_
        | (refine d_sreg (by kernel_rfl) fun K hK => ?_; simp only [go_sem, Nat.reduceEqDiff, reduceCtorEq, ↓reduceIte, Nat.reduceMul, Nat.reduceAdd, Nat.reduceLT, Nat.reduceLeDiff, Int.reduceLT, Int.reduceLE, Int.reduceToNat, Nat.reduceBEq, *]; (first | refine hK.go _ ?_ | refine ⟨by omega, hK.go _ ?_⟩ | refine ⟨by omega, by omega, hK.go _ ?_⟩ | refine ⟨by omega, by omega, by omega, hK.go _ ?_⟩); clear hK K)
        | (refine d_reg (by kernel_rfl) fun K hK => ?_; simp only [go_sem, Nat.reduceEqDiff, reduceCtorEq, ↓reduceIte, Nat.reduceMul, Nat.reduceAdd, Nat.reduceLT, Nat.reduceLeDiff, Int.reduceLT, Int.reduceLE, Int.reduceToNat, Nat.reduceBEq, *]; (first | refine hK.go _ ?_ | refine ⟨by omega, hK.go _ ?_⟩ | refine ⟨by omega, by omega, hK.go _ ?_⟩ | refine ⟨by omega, by omega, by omega, hK.go _ ?_⟩); clear hK K)
        | (refine d_scond true rfl (fun _ => ?_) (fun h => by cases h))
        | (refine d_scond false rfl (fun h => by cases h) (fun _ => ?_))
        | (refine d_cond true rfl (fun _ => ?_) (fun h => by cases h))
        | (refine d_cond false rfl (fun h => by cases h) (fun _ => ?_))
        | refine d_exit ?_
        | refine d_sexit ?_
        | refine d_ret ?_
        | refine d_sret ?_
        | refine d_skip ?_)
      repeat (first | simp only [thenD, blockD, Nat.reduceEqDiff, reduceCtorEq, ↓reduceIte] | refine Imp.go (by assumption) _ ?_)
      repeat (first
        | refine d_assoc ?_
        | refine d_sskip ?_
        | (refine d_sreg (by kernel_rfl) fun K hK => ?_; simp only [go_sem, Nat.reduceEqDiff, reduceCtorEq, ↓reduceIte, Nat.reduceMul, Nat.reduceAdd, Nat.reduceLT, Nat.reduceLeDiff, Int.reduceLT, Int.reduceLE, Int.reduceToNat, Nat.reduceBEq, *]; (first | refine hK.go _ ?_ | refine ⟨by omega, hK.go _ ?_⟩ | refine ⟨by omega, by omega, hK.go _ ?_⟩ | refine ⟨by omega, by omega, by omega, hK.go _ ?_⟩); clear hK K)
        | (refine d_reg (by kernel_rfl) fun K hK => ?_; simp only [go_sem, Nat.reduceEqDiff, reduceCtorEq, ↓reduceIte, Nat.reduceMul, Nat.reduceAdd, Nat.reduceLT, Nat.reduceLeDiff, Int.reduceLT, Int.reduceLE, Int.reduceToNat, Nat.reduceBEq, *]; (first | refine hK.go _ ?_ | refine ⟨by omega, hK.go _ ?_⟩ | refine ⟨by omega, by omega, hK.go _ ?_⟩ | refine ⟨by omega, by omega, by omega, hK.go _ ?_⟩); clear hK K)
        | (refine d_scond true rfl (fun _ => ?_) (fun h => by cases h))
        | (refine d_scond false rfl (fun h => by cases h) (fun _ => ?_))
        | (refine d_cond true rfl (fun _ => ?_) (fun h => by cases h))
        | (refine d_cond false rfl (fun h => by cases h) (fun _ => ?_))
        | refine d_exit ?_
        | refine d_sexit ?_
        | refine d_ret ?_
        | refine d_sret ?_
        | refine d_skip ?_)
      repeat (first | simp only [thenD, blockD, Nat.reduceEqDiff, reduceCtorEq, ↓reduceIte] | refine Imp.go (by assumption) _ ?_)
      exact ⟨⟨1, by simp only [go_sem, Nat.reduceEqDiff, reduceCtorEq, ↓reduceIte, Nat.reduceMul, Nat.reduceAdd, Nat.reduceLT, Nat.reduceLeDiff, Int.reduceLT, Int.reduceLE, Int.reduceToNat, Nat.reduceBEq, *], by simp only [go_sem, Nat.reduceEqDiff, reduceCtorEq, ↓reduceIte, Nat.reduceMul, Nat.reduceAdd, Nat.reduceLT, Nat.reduceLeDiff, Int.reduceLT, Int.reduceLE, Int.reduceToNat, Nat.reduceBEq, *], by simp only [go_sem, Nat.reduceEqDiff, reduceCtorEq, ↓reduceIte, Nat.reduceMul, Nat.reduceAdd, Nat.reduceLT, Nat.reduceLeDiff, Int.reduceLT, Int.reduceLE, Int.reduceToNat, Nat.reduceBEq, *], h1, hN⟩, by simp only [go_sem, Nat.reduceEqDiff, reduceCtorEq, ↓reduceIte, Nat.reduceMul, Nat.reduceAdd, Nat.reduceLT, Nat.reduceLeDiff, Int.reduceLT, Int.reduceLE, Int.reduceToNat, Nat.reduceBEq, *, idx]; exact mlt h1⟩
    | succ i =>
      have h0 : (0 : Int) < ((i + 1 : Nat) : Int) := by omega
      have hw2 : IntKind.i64.wrap (((i + 1 : Nat) : Int) - 1) = (i : Int) := by rw [IntWalk.i64_in _ (by omega)]; omega
      have h1' : i < l.length := by omega
      by_cases he : nth l (i + 1) ≤ nth l i
      · have hne : decide (l.Pairwise (· < ·)) = false := decide_eq_false (fun hp => by
          have := List.pairwise_iff_getElem.1 hp i (i + 1) h1' h1 (Nat.lt_succ_self i)
          rw [nth_eq l _ h1, nth_eq l _ h1'] at he
          omega)
        repeat (first
          | refine d_assoc ?_
          | refine d_sskip ?_
          | (refine d_sreg (by kernel_rfl) fun K hK => ?_; simp only [go_sem, Nat.reduceEqDiff, reduceCtorEq, ↓reduceIte, Nat.reduceMul, Nat.reduceAdd, Nat.reduceLT, Nat.reduceLeDiff, Int.reduceLT, Int.reduceLE, Int.reduceToNat, Nat.reduceBEq, *]; (first | refine hK.go _ ?_ | refine ⟨by omega, hK.go _ ?_⟩ | refine ⟨by omega, by omega, hK.go _ ?_⟩ | refine ⟨by omega, by omega, by omega, hK.go _ ?_⟩); clear hK K)
          | (refine d_reg (by kernel_rfl) fun K hK => ?_; simp only [go_sem, Nat.reduceEqDiff, reduceCtorEq, ↓reduceIte, Nat.reduceMul, Nat.reduceAdd, Nat.reduceLT, Nat.reduceLeDiff, Int.reduceLT, Int.reduceLE, Int.reduceToNat, Nat.reduceBEq, *]; (first | refine hK.go _ ?_ | refine ⟨by omega, hK.go _ ?_⟩ | refine ⟨by omega, by omega, hK.go _ ?_⟩ | refine ⟨by omega, by omega, by omega, hK.go _ ?_⟩); clear hK K)
          | (refine d_scond true rfl (fun _ => ?_) (fun h => by cases h))
          | (refine d_scond false rfl (fun h => by cases h) (fun _ => ?_))
          | (refine d_cond true rfl (fun _ => ?_) (fun h => by cases h))
          | (refine d_cond false rfl (fun h => by cases h) (fun _ => ?_))
          | refine d_exit ?_
          | refine d_sexit ?_
          | refine d_ret ?_
          | refine d_sret ?_
          | refine d_skip ?_)
        refine d_sblock fun K2 hK2 => ?_
        repeat (first
          | refine d_assoc ?_
          | refine d_sskip ?_
          | (refine d_sreg (by kernel_rfl) fun K hK => ?_; simp only [go_sem, Nat.reduceEqDiff, reduceCtorEq, ↓reduceIte, Nat.reduceMul, Nat.reduceAdd, Nat.reduceLT, Nat.reduceLeDiff, Int.reduceLT, Int.reduceLE, Int.reduceToNat, Nat.reduceBEq, *]; (first | refine hK.go _ ?_ | refine ⟨by omega, hK.go _ ?_⟩ | refine ⟨by omega, by omega, hK.go _ ?_⟩ | refine ⟨by omega, by omega, by omega, hK.go _ ?_⟩); clear hK K)
          | (refine d_reg (by kernel_rfl) fun K hK => ?_; simp only [go_sem, Nat.reduceEqDiff, reduceCtorEq, ↓reduceIte, Nat.reduceMul, Nat.reduceAdd, Nat.reduceLT, Nat.reduceLeDiff, Int.reduceLT, Int.reduceLE, Int.reduceToNat, Nat.reduceBEq, *]; (first | refine hK.go _ ?_ | refine ⟨by omega, hK.go _ ?_⟩ | refine ⟨by omega, by omega, hK.go _ ?_⟩ | refine ⟨by omega, by omega, by omega, hK.go _ ?_⟩); clear hK K)
          | (refine d_scond true rfl (fun _ => ?_) (fun h => by cases h))
          | (refine d_scond false rfl (fun h => by cases h) (fun _ => ?_))
          | (refine d_cond true rfl (fun _ => ?_) (fun h => by cases h))
          | (refine d_cond false rfl (fun h => by cases h) (fun _ => ?_))
          | refine d_exit ?_
          | refine d_sexit ?_
          | refine d_ret ?_
          | refine d_sret ?_
          | refine d_skip ?_)
        repeat (first | simp only [thenD, blockD, Nat.reduceEqDiff, reduceCtorEq, ↓reduceIte] | refine Imp.go (by assumption) _ ?_)
        exact fin1 (.inr rfl) Try.results50 (by simp only [go_sem, Nat.reduceEqDiff, reduceCtorEq, ↓reduceIte, Nat.reduceMul, Nat.reduceAdd, Nat.reduceLT, Nat.reduceLeDiff, Int.reduceLT, Int.reduceLE, Int.reduceToNat, Nat.reduceBEq, *] <;> rfl) rfl
      · have hN := Sec.mk (show (l.take (i + 1 + 1)).Pairwise (· < ·) by
          rw [take_nth l (i + 1) h1, List.pairwise_append]
          refine ⟨hS.out, List.pairwise_singleton _ _, fun x hx y hy => ?_⟩
          simp at hy
          subst hy
          rw [take_nth l i h1', List.mem_append] at hx
          rcases hx with hx | hx
          · have := hS.out
            rw [take_nth l i h1', List.pairwise_append] at this
            have := this.2.2 x hx (nth l i) (by simp)
            omega
          · simp at hx; subst hx; omega)
        repeat (first
          | refine d_assoc ?_
          | refine d_sskip ?_
          | (refine d_sreg (by kernel_rfl) fun K hK => ?_; simp only [go_sem, Nat.reduceEqDiff, reduceCtorEq, ↓reduceIte, Nat.reduceMul, Nat.reduceAdd, Nat.reduceLT, Nat.reduceLeDiff, Int.reduceLT, Int.reduceLE, Int.reduceToNat, Nat.reduceBEq, *]; (first | refine hK.go _ ?_ | refine ⟨by omega, hK.go _ ?_⟩ | refine ⟨by omega, by omega, hK.go _ ?_⟩ | refine ⟨by omega, by omega, by omega, hK.go _ ?_⟩); clear hK K)
          | (refine d_reg (by kernel_rfl) fun K hK => ?_; simp only [go_sem, Nat.reduceEqDiff, reduceCtorEq, ↓reduceIte, Nat.reduceMul, Nat.reduceAdd, Nat.reduceLT, Nat.reduceLeDiff, Int.reduceLT, Int.reduceLE, Int.reduceToNat, Nat.reduceBEq, *]; (first | refine hK.go _ ?_ | refine ⟨by omega, hK.go _ ?_⟩ | refine ⟨by omega, by omega, hK.go _ ?_⟩ | refine ⟨by omega, by omega, by omega, hK.go _ ?_⟩); clear hK K)
          | (refine d_scond true rfl (fun _ => ?_) (fun h => by cases h))
          | (refine d_scond false rfl (fun h => by cases h) (fun _ => ?_))
          | (refine d_cond true rfl (fun _ => ?_) (fun h => by cases h))
          | (refine d_cond false rfl (fun h => by cases h) (fun _ => ?_))
          | refine d_exit ?_
          | refine d_sexit ?_
          | refine d_ret ?_
          | refine d_sret ?_
          | refine d_skip ?_)
        refine d_sblock fun K2 hK2 => ?_
        repeat (first
          | refine d_assoc ?_
          | refine d_sskip ?_
          | (refine d_sreg (by kernel_rfl) fun K hK => ?_; simp only [go_sem, Nat.reduceEqDiff, reduceCtorEq, ↓reduceIte, Nat.reduceMul, Nat.reduceAdd, Nat.reduceLT, Nat.reduceLeDiff, Int.reduceLT, Int.reduceLE, Int.reduceToNat, Nat.reduceBEq, *]; (first | refine hK.go _ ?_ | refine ⟨by omega, hK.go _ ?_⟩ | refine ⟨by omega, by omega, hK.go _ ?_⟩ | refine ⟨by omega, by omega, by omega, hK.go _ ?_⟩); clear hK K)
          | (refine d_reg (by kernel_rfl) fun K hK => ?_; simp only [go_sem, Nat.reduceEqDiff, reduceCtorEq, ↓reduceIte, Nat.reduceMul, Nat.reduceAdd, Nat.reduceLT, Nat.reduceLeDiff, Int.reduceLT, Int.reduceLE, Int.reduceToNat, Nat.reduceBEq, *]; (first | refine hK.go _ ?_ | refine ⟨by omega, hK.go _ ?_⟩ | refine ⟨by omega, by omega, hK.go _ ?_⟩ | refine ⟨by omega, by omega, by omega, hK.go _ ?_⟩); clear hK K)
          | (refine d_scond true rfl (fun _ => ?_) (fun h => by cases h))
          | (refine d_scond false rfl (fun h => by cases h) (fun _ => ?_))
          | (refine d_cond true rfl (fun _ => ?_) (fun h => by cases h))
          | (refine d_cond false rfl (fun h => by cases h) (fun _ => ?_))
          | refine d_exit ?_
          | refine d_sexit ?_
          | refine d_ret ?_
          | refine d_sret ?_
          | refine d_skip ?_)
        repeat (first | simp only [thenD, blockD, Nat.reduceEqDiff, reduceCtorEq, ↓reduceIte] | refine Imp.go (by assumption) _ ?_)
        repeat (first
          | refine d_assoc ?_
          | refine d_sskip ?_
          | (refine d_sreg (by kernel_rfl) fun K hK => ?_; simp only [go_sem, Nat.reduceEqDiff, reduceCtorEq, ↓reduceIte, Nat.reduceMul, Nat.reduceAdd, Nat.reduceLT, Nat.reduceLeDiff, Int.reduceLT, Int.reduceLE, Int.reduceToNat, Nat.reduceBEq, *]; (first | refine hK.go _ ?_ | refine ⟨by omega, hK.go _ ?_⟩ | refine ⟨by omega, by omega, hK.go _ ?_⟩ | refine ⟨by omega, by omega, by omega, hK.go _ ?_⟩); clear hK K)
          | (refine d_reg (by kernel_rfl) fun K hK => ?_; simp only [go_sem, Nat.reduceEqDiff, reduceCtorEq, ↓reduceIte, Nat.reduceMul, Nat.reduceAdd, Nat.reduceLT, Nat.reduceLeDiff, Int.reduceLT, Int.reduceLE, Int.reduceToNat, Nat.reduceBEq, *]; (first | refine hK.go _ ?_ | refine ⟨by omega, hK.go _ ?_⟩ | refine ⟨by omega, by omega, hK.go _ ?_⟩ | refine ⟨by omega, by omega, by omega, hK.go _ ?_⟩); clear hK K)
          | (refine d_scond true rfl (fun _ => ?_) (fun h => by cases h))
          | (refine d_scond false rfl (fun h => by cases h) (fun _ => ?_))
          | (refine d_cond true rfl (fun _ => ?_) (fun h => by cases h))
          | (refine d_cond false rfl (fun h => by cases h) (fun _ => ?_))
          | refine d_exit ?_
          | refine d_sexit ?_
          | refine d_ret ?_
          | refine d_sret ?_
          | refine d_skip ?_)
        repeat (first | simp only [thenD, blockD, Nat.reduceEqDiff, reduceCtorEq, ↓reduceIte] | refine Imp.go (by assumption) _ ?_)
        exact ⟨⟨i + 1 + 1, by simp only [go_sem, Nat.reduceEqDiff, reduceCtorEq, ↓reduceIte, Nat.reduceMul, Nat.reduceAdd, Nat.reduceLT, Nat.reduceLeDiff, Int.reduceLT, Int.reduceLE, Int.reduceToNat, Nat.reduceBEq, *], by simp only [go_sem, Nat.reduceEqDiff, reduceCtorEq, ↓reduceIte, Nat.reduceMul, Nat.reduceAdd, Nat.reduceLT, Nat.reduceLeDiff, Int.reduceLT, Int.reduceLE, Int.reduceToNat, Nat.reduceBEq, *], by simp only [go_sem, Nat.reduceEqDiff, reduceCtorEq, ↓reduceIte, Nat.reduceMul, Nat.reduceAdd, Nat.reduceLT, Nat.reduceLeDiff, Int.reduceLT, Int.reduceLE, Int.reduceToNat, Nat.reduceBEq, *], h1, hN⟩, by simp only [go_sem, Nat.reduceEqDiff, reduceCtorEq, ↓reduceIte, Nat.reduceMul, Nat.reduceAdd, Nat.reduceLT, Nat.reduceLeDiff, Int.reduceLT, Int.reduceLE, Int.reduceToNat, Nat.reduceBEq, *, idx]; exact mlt h1⟩
  · have he : decide (l.Pairwise (· < ·)) = true := decide_eq_true (by have := hS.out; rwa [List.take_of_length_le (by omega)] at this)
    repeat (first
      | refine d_assoc ?_
      | refine d_sskip ?_
      | (refine d_sreg (by kernel_rfl) fun K hK => ?_; simp only [go_sem, Nat.reduceEqDiff, reduceCtorEq, ↓reduceIte, Nat.reduceMul, Nat.reduceAdd, Nat.reduceLT, Nat.reduceLeDiff, Int.reduceLT, Int.reduceLE, Int.reduceToNat, Nat.reduceBEq, *]; (first | refine hK.go _ ?_ | refine ⟨by omega, hK.go _ ?_⟩ | refine ⟨by omega, by omega, hK.go _ ?_⟩ | refine ⟨by omega, by omega, by omega, hK.go _ ?_⟩); clear hK K)
      | (refine d_reg (by kernel_rfl) fun K hK => ?_; simp only [go_sem, Nat.reduceEqDiff, reduceCtorEq, ↓reduceIte, Nat.reduceMul, Nat.reduceAdd, Nat.reduceLT, Nat.reduceLeDiff, Int.reduceLT, Int.reduceLE, Int.reduceToNat, Nat.reduceBEq, *]; (first | refine hK.go _ ?_ | refine ⟨by omega, hK.go _ ?_⟩ | refine ⟨by omega, by omega, hK.go _ ?_⟩ | refine ⟨by omega, by omega, by omega, hK.go _ ?_⟩); clear hK K)
      | (refine d_scond true rfl (fun _ => ?_) (fun h => by cases h))
      | (refine d_scond false rfl (fun h => by cases h) (fun _ => ?_))
      | (refine d_cond true rfl (fun _ => ?_) (fun h => by cases h))
      | (refine d_cond false rfl (fun h => by cases h) (fun _ => ?_))
      | refine d_exit ?_
      | refine d_sexit ?_
      | refine d_ret ?_
      | refine d_sret ?_
      | refine d_skip ?_)
    repeat (first | simp only [thenD, blockD, Nat.reduceEqDiff, reduceCtorEq, ↓reduceIte] | refine Imp.go (by assumption) _ ?_)
    repeat (first
      | refine d_assoc ?_
      | refine d_sskip ?_
      | (refine d_sreg (by kernel_rfl) fun K hK => ?_; simp only [go_sem, Nat.reduceEqDiff, reduceCtorEq, ↓reduceIte, Nat.reduceMul, Nat.reduceAdd, Nat.reduceLT, Nat.reduceLeDiff, Int.reduceLT, Int.reduceLE, Int.reduceToNat, Nat.reduceBEq, *]; (first | refine hK.go _ ?_ | refine ⟨by omega, hK.go _ ?_⟩ | refine ⟨by omega, by omega, hK.go _ ?_⟩ | refine ⟨by omega, by omega, by omega, hK.go _ ?_⟩); clear hK K)
      | (refine d_reg (by kernel_rfl) fun K hK => ?_; simp only [go_sem, Nat.reduceEqDiff, reduceCtorEq, ↓reduceIte, Nat.reduceMul, Nat.reduceAdd, Nat.reduceLT, Nat.reduceLeDiff, Int.reduceLT, Int.reduceLE, Int.reduceToNat, Nat.reduceBEq, *]; (first | refine hK.go _ ?_ | refine ⟨by omega, hK.go _ ?_⟩ | refine ⟨by omega, by omega, hK.go _ ?_⟩ | refine ⟨by omega, by omega, by omega, hK.go _ ?_⟩); clear hK K)
      | (refine d_scond true rfl (fun _ => ?_) (fun h => by cases h))
      | (refine d_scond false rfl (fun h => by cases h) (fun _ => ?_))
      | (refine d_cond true rfl (fun _ => ?_) (fun h => by cases h))
      | (refine d_cond false rfl (fun h => by cases h) (fun _ => ?_))
      | refine d_exit ?_
      | refine d_sexit ?_
      | refine d_ret ?_
      | refine d_sret ?_
      | refine d_skip ?_)
    exact fin1 (.inr rfl) Try.results50 (by simp only [go_sem, Nat.reduceEqDiff, reduceCtorEq, ↓reduceIte, Nat.reduceMul, Nat.reduceAdd, Nat.reduceLT, Nat.reduceLeDiff, Int.reduceLT, Int.reduceLE, Int.reduceToNat, Nat.reduceBEq, *] <;> rfl) rfl

theorem bits1 : IntKind.bits .u64 = 64 := rfl
theorem half (a b : Nat) (h : a + b ≤ 1000000) : IntKind.i64.wrap ((IntKind.u64.wrap (IntKind.i64.wrap ((a : Int) + (b : Int)))).fdiv (2 ^ min 1 64)) = (((a + b) / 2 : Nat) : Int) := by
  have e1 : IntKind.i64.wrap ((a : Int) + b) = ((a + b : Nat) : Int) := by rw [IntWalk.i64_in _ (by omega)]; simp
  have e2 : IntKind.u64.wrap ((a + b : Nat) : Int) = ((a + b : Nat) : Int) := by
    simp only [IntKind.wrap, IntKind.bits, IntKind.signed, Bool.false_and, Bool.false_eq_true, if_false]
    omega
  rw [e1, e2]
  have e3 : (((a + b : Nat) : Int)).fdiv (2 ^ min 1 64) = (((a + b) / 2 : Nat) : Int) := by
    show (((a + b : Nat) : Int)).fdiv 2 = _
    rw [Int.fdiv_eq_ediv_of_nonneg _ (by omega)]
    omega
  rw [e3, IntWalk.i64_in _ (by omega)]

/-- How many of a list are below a number. -/
def lowS (l : List Int) (x : Int) : Nat := (l.takeWhile (decide <| · < x)).length
theorem lowS_le (l : List Int) (x : Int) : lowS l x ≤ l.length := by
  unfold lowS
  exact List.Sublist.length_le (List.takeWhile_sublist _)
theorem lowS_iff (x : Int) : ∀ (l : List Int), l.Pairwise (· < ·) → ∀ i, i < l.length → (nth l i < x ↔ i < lowS l x) := by
  intro l
  induction l with
  | nil => intro _ i hi; simp at hi
  | cons y l ih =>
    intro hp i hi
    rw [List.pairwise_cons] at hp
    unfold lowS at ih ⊢
    rw [List.takeWhile_cons]
    by_cases hy : y < x
    · simp only [hy, decide_true, if_true, List.length_cons]
      cases i with
      | zero => rw [nth_zero]; simp [hy]
      | succ i => rw [nth_succ, ih hp.2 i (by simpa using hi)]; omega
    · simp only [hy, decide_false]
      cases i with
      | zero => rw [nth_zero]; simp [hy]
      | succ i =>
        have h2 : i < l.length := by simpa using hi
        rw [nth_succ, nth_eq l i h2]
        have := hp.1 _ (List.getElem_mem h2)
        simp
        omega

theorem lower_fn (l : List Int) (x : Int) (hp : l.Pairwise (· < ·)) (hl : l.length ≤ 1000) : FnD Try.prog 66 [U l, iv .u64 x] (iv .i64 (lowS l x)) := by
  refine fn2 mixed Try.func66 (by kernel_rfl) rfl Try.ntmps66 (by decide) fun s e0 e1 => ?_
  unfold U at e0
  have hP := Sec.mk hp
  clear hp
  repeat (first
    | refine d_assoc ?_
    | refine d_sskip ?_
    | (refine d_sreg (by kernel_rfl) fun K hK => ?_; simp only [go_sem, Nat.reduceEqDiff, reduceCtorEq, ↓reduceIte, Nat.reduceMul, Nat.reduceAdd, Nat.reduceLT, Nat.reduceLeDiff, Int.reduceLT, Int.reduceLE, Int.reduceToNat, Nat.reduceBEq, *]; (first | refine hK.go _ ?_ | refine ⟨by omega, hK.go _ ?_⟩ | refine ⟨by omega, by omega, hK.go _ ?_⟩ | refine ⟨by omega, by omega, by omega, hK.go _ ?_⟩); clear hK K)
    | (refine d_reg (by kernel_rfl) fun K hK => ?_; simp only [go_sem, Nat.reduceEqDiff, reduceCtorEq, ↓reduceIte, Nat.reduceMul, Nat.reduceAdd, Nat.reduceLT, Nat.reduceLeDiff, Int.reduceLT, Int.reduceLE, Int.reduceToNat, Nat.reduceBEq, *]; (first | refine hK.go _ ?_ | refine ⟨by omega, hK.go _ ?_⟩ | refine ⟨by omega, by omega, hK.go _ ?_⟩ | refine ⟨by omega, by omega, by omega, hK.go _ ?_⟩); clear hK K)
    | (refine d_scond true rfl (fun _ => ?_) (fun h => by cases h))
    | (refine d_scond false rfl (fun h => by cases h) (fun _ => ?_))
    | (refine d_cond true rfl (fun _ => ?_) (fun h => by cases h))
    | (refine d_cond false rfl (fun h => by cases h) (fun _ => ?_))
    | refine d_exit ?_
    | refine d_sexit ?_
    | refine d_ret ?_
    | refine d_sret ?_
    | refine d_skip ?_)
  refine d_sblock fun K hK => ?_
  refine d_loop (fun s => ∃ (a b : Nat), s.env 0 = .sl (sl1 (iv .u64) l) ∧ s.env 1 = iv .u64 x ∧ s.env 5 = iv .i64 a ∧ s.env 6 = iv .i64 b ∧ a ≤ lowS l x ∧ lowS l x ≤ b ∧ b ≤ l.length) (fun s => idx (s.env 6) - idx (s.env 5)) ?_ ?_
  · exact ⟨0, l.length, by simp only [go_sem, Nat.reduceEqDiff, reduceCtorEq, ↓reduceIte, Nat.reduceMul, Nat.reduceAdd, Nat.reduceLT, Nat.reduceLeDiff, Int.reduceLT, Int.reduceLE, Int.reduceToNat, Nat.reduceBEq, *], by simp only [go_sem, Nat.reduceEqDiff, reduceCtorEq, ↓reduceIte, Nat.reduceMul, Nat.reduceAdd, Nat.reduceLT, Nat.reduceLeDiff, Int.reduceLT, Int.reduceLE, Int.reduceToNat, Nat.reduceBEq, *], by simp only [go_sem, Nat.reduceEqDiff, reduceCtorEq, ↓reduceIte, Nat.reduceMul, Nat.reduceAdd, Nat.reduceLT, Nat.reduceLeDiff, Int.reduceLT, Int.reduceLE, Int.reduceToNat, Nat.reduceBEq, *] <;> rfl, by simp only [go_sem, Nat.reduceEqDiff, reduceCtorEq, ↓reduceIte, Nat.reduceMul, Nat.reduceAdd, Nat.reduceLT, Nat.reduceLeDiff, Int.reduceLT, Int.reduceLE, Int.reduceToNat, Nat.reduceBEq, *], Nat.zero_le _, lowS_le l x, Nat.le_refl _⟩
  clear e0 e1
  rintro s1 K1 ⟨a, b, e0, e1, e5, e6, ha, hb, hbl⟩ hK1
  by_cases h1 : a < b
  · have hw := half a b (by omega)
    have hw2 := wi ((a + b) / 2) (by omega)
    have hm1 : a ≤ (a + b) / 2 := by omega
    have hm2 : (a + b) / 2 < b := by omega
    have hm3 : (a + b) / 2 < l.length := by omega
    have hI := lowS_iff x l hP.out ((a + b) / 2) hm3
    generalize (a + b) / 2 = c at hw hw2 hm1 hm2 hm3 hI
    by_cases hx : nth l c < x
    · have hc := hI.1 hx
      clear hI
      repeat (first
        | refine d_assoc ?_
        | refine d_sskip ?_
        | (refine d_sreg (by kernel_rfl) fun K hK => ?_; simp only [go_sem, Nat.reduceEqDiff, reduceCtorEq, ↓reduceIte, Nat.reduceMul, Nat.reduceAdd, Nat.reduceLT, Nat.reduceLeDiff, Int.reduceLT, Int.reduceLE, Int.reduceToNat, Nat.reduceBEq, *]; (first | refine hK.go _ ?_ | refine ⟨by omega, hK.go _ ?_⟩ | refine ⟨by omega, by omega, hK.go _ ?_⟩ | refine ⟨by omega, by omega, by omega, hK.go _ ?_⟩); clear hK K)
        | (refine d_reg (by kernel_rfl) fun K hK => ?_; simp only [go_sem, Nat.reduceEqDiff, reduceCtorEq, ↓reduceIte, Nat.reduceMul, Nat.reduceAdd, Nat.reduceLT, Nat.reduceLeDiff, Int.reduceLT, Int.reduceLE, Int.reduceToNat, Nat.reduceBEq, *]; (first | refine hK.go _ ?_ | refine ⟨by omega, hK.go _ ?_⟩ | refine ⟨by omega, by omega, hK.go _ ?_⟩ | refine ⟨by omega, by omega, by omega, hK.go _ ?_⟩); clear hK K)
        | (refine d_scond true rfl (fun _ => ?_) (fun h => by cases h))
        | (refine d_scond false rfl (fun h => by cases h) (fun _ => ?_))
        | (refine d_cond true rfl (fun _ => ?_) (fun h => by cases h))
        | (refine d_cond false rfl (fun h => by cases h) (fun _ => ?_))
        | refine d_exit ?_
        | refine d_sexit ?_
        | refine d_ret ?_
        | refine d_sret ?_
        | refine d_skip ?_)
      refine d_block fun K2 hK2 => ?_
      repeat (first
        | refine d_assoc ?_
        | refine d_sskip ?_
        | (refine d_sreg (by kernel_rfl) fun K hK => ?_; simp only [go_sem, Nat.reduceEqDiff, reduceCtorEq, ↓reduceIte, Nat.reduceMul, Nat.reduceAdd, Nat.reduceLT, Nat.reduceLeDiff, Int.reduceLT, Int.reduceLE, Int.reduceToNat, Nat.reduceBEq, *]; (first | refine hK.go _ ?_ | refine ⟨by omega, hK.go _ ?_⟩ | refine ⟨by omega, by omega, hK.go _ ?_⟩ | refine ⟨by omega, by omega, by omega, hK.go _ ?_⟩); clear hK K)
        | (refine d_reg (by kernel_rfl) fun K hK => ?_; simp only [go_sem, Nat.reduceEqDiff, reduceCtorEq, ↓reduceIte, Nat.reduceMul, Nat.reduceAdd, Nat.reduceLT, Nat.reduceLeDiff, Int.reduceLT, Int.reduceLE, Int.reduceToNat, Nat.reduceBEq, *]; (first | refine hK.go _ ?_ | refine ⟨by omega, hK.go _ ?_⟩ | refine ⟨by omega, by omega, hK.go _ ?_⟩ | refine ⟨by omega, by omega, by omega, hK.go _ ?_⟩); clear hK K)
        | (refine d_scond true rfl (fun _ => ?_) (fun h => by cases h))
        | (refine d_scond false rfl (fun h => by cases h) (fun _ => ?_))
        | (refine d_cond true rfl (fun _ => ?_) (fun h => by cases h))
        | (refine d_cond false rfl (fun h => by cases h) (fun _ => ?_))
        | refine d_exit ?_
        | refine d_sexit ?_
        | refine d_ret ?_
        | refine d_sret ?_
        | refine d_skip ?_)
      repeat (first | simp only [thenD, blockD, Nat.reduceEqDiff, reduceCtorEq, ↓reduceIte] | refine Imp.go (by assumption) _ ?_)
      exact ⟨⟨c + 1, b, by simp only [go_sem, Nat.reduceEqDiff, reduceCtorEq, ↓reduceIte, Nat.reduceMul, Nat.reduceAdd, Nat.reduceLT, Nat.reduceLeDiff, Int.reduceLT, Int.reduceLE, Int.reduceToNat, Nat.reduceBEq, *], by simp only [go_sem, Nat.reduceEqDiff, reduceCtorEq, ↓reduceIte, Nat.reduceMul, Nat.reduceAdd, Nat.reduceLT, Nat.reduceLeDiff, Int.reduceLT, Int.reduceLE, Int.reduceToNat, Nat.reduceBEq, *], by simp only [go_sem, Nat.reduceEqDiff, reduceCtorEq, ↓reduceIte, Nat.reduceMul, Nat.reduceAdd, Nat.reduceLT, Nat.reduceLeDiff, Int.reduceLT, Int.reduceLE, Int.reduceToNat, Nat.reduceBEq, *], by simp only [go_sem, Nat.reduceEqDiff, reduceCtorEq, ↓reduceIte, Nat.reduceMul, Nat.reduceAdd, Nat.reduceLT, Nat.reduceLeDiff, Int.reduceLT, Int.reduceLE, Int.reduceToNat, Nat.reduceBEq, *], hc, hb, hbl⟩, by simp only [go_sem, Nat.reduceEqDiff, reduceCtorEq, ↓reduceIte, Nat.reduceMul, Nat.reduceAdd, Nat.reduceLT, Nat.reduceLeDiff, Int.reduceLT, Int.reduceLE, Int.reduceToNat, Nat.reduceBEq, *, idx]; exact mlt2 h1 hm1⟩
    · have hc : lowS l x ≤ c := Nat.le_of_not_lt (fun h => hx (hI.2 h))
      clear hI
      repeat (first
        | refine d_assoc ?_
        | refine d_sskip ?_
        | (refine d_sreg (by kernel_rfl) fun K hK => ?_; simp only [go_sem, Nat.reduceEqDiff, reduceCtorEq, ↓reduceIte, Nat.reduceMul, Nat.reduceAdd, Nat.reduceLT, Nat.reduceLeDiff, Int.reduceLT, Int.reduceLE, Int.reduceToNat, Nat.reduceBEq, *]; (first | refine hK.go _ ?_ | refine ⟨by omega, hK.go _ ?_⟩ | refine ⟨by omega, by omega, hK.go _ ?_⟩ | refine ⟨by omega, by omega, by omega, hK.go _ ?_⟩); clear hK K)
        | (refine d_reg (by kernel_rfl) fun K hK => ?_; simp only [go_sem, Nat.reduceEqDiff, reduceCtorEq, ↓reduceIte, Nat.reduceMul, Nat.reduceAdd, Nat.reduceLT, Nat.reduceLeDiff, Int.reduceLT, Int.reduceLE, Int.reduceToNat, Nat.reduceBEq, *]; (first | refine hK.go _ ?_ | refine ⟨by omega, hK.go _ ?_⟩ | refine ⟨by omega, by omega, hK.go _ ?_⟩ | refine ⟨by omega, by omega, by omega, hK.go _ ?_⟩); clear hK K)
        | (refine d_scond true rfl (fun _ => ?_) (fun h => by cases h))
        | (refine d_scond false rfl (fun h => by cases h) (fun _ => ?_))
        | (refine d_cond true rfl (fun _ => ?_) (fun h => by cases h))
        | (refine d_cond false rfl (fun h => by cases h) (fun _ => ?_))
        | refine d_exit ?_
        | refine d_sexit ?_
        | refine d_ret ?_
        | refine d_sret ?_
        | refine d_skip ?_)
      refine d_block fun K2 hK2 => ?_
      repeat (first
        | refine d_assoc ?_
        | refine d_sskip ?_
        | (refine d_sreg (by kernel_rfl) fun K hK => ?_; simp only [go_sem, Nat.reduceEqDiff, reduceCtorEq, ↓reduceIte, Nat.reduceMul, Nat.reduceAdd, Nat.reduceLT, Nat.reduceLeDiff, Int.reduceLT, Int.reduceLE, Int.reduceToNat, Nat.reduceBEq, *]; (first | refine hK.go _ ?_ | refine ⟨by omega, hK.go _ ?_⟩ | refine ⟨by omega, by omega, hK.go _ ?_⟩ | refine ⟨by omega, by omega, by omega, hK.go _ ?_⟩); clear hK K)
        | (refine d_reg (by kernel_rfl) fun K hK => ?_; simp only [go_sem, Nat.reduceEqDiff, reduceCtorEq, ↓reduceIte, Nat.reduceMul, Nat.reduceAdd, Nat.reduceLT, Nat.reduceLeDiff, Int.reduceLT, Int.reduceLE, Int.reduceToNat, Nat.reduceBEq, *]; (first | refine hK.go _ ?_ | refine ⟨by omega, hK.go _ ?_⟩ | refine ⟨by omega, by omega, hK.go _ ?_⟩ | refine ⟨by omega, by omega, by omega, hK.go _ ?_⟩); clear hK K)
        | (refine d_scond true rfl (fun _ => ?_) (fun h => by cases h))
        | (refine d_scond false rfl (fun h => by cases h) (fun _ => ?_))
        | (refine d_cond true rfl (fun _ => ?_) (fun h => by cases h))
        | (refine d_cond false rfl (fun h => by cases h) (fun _ => ?_))
        | refine d_exit ?_
        | refine d_sexit ?_
        | refine d_ret ?_
        | refine d_sret ?_
        | refine d_skip ?_)
      repeat (first | simp only [thenD, blockD, Nat.reduceEqDiff, reduceCtorEq, ↓reduceIte] | refine Imp.go (by assumption) _ ?_)
      exact ⟨⟨a, c, by simp only [go_sem, Nat.reduceEqDiff, reduceCtorEq, ↓reduceIte, Nat.reduceMul, Nat.reduceAdd, Nat.reduceLT, Nat.reduceLeDiff, Int.reduceLT, Int.reduceLE, Int.reduceToNat, Nat.reduceBEq, *], by simp only [go_sem, Nat.reduceEqDiff, reduceCtorEq, ↓reduceIte, Nat.reduceMul, Nat.reduceAdd, Nat.reduceLT, Nat.reduceLeDiff, Int.reduceLT, Int.reduceLE, Int.reduceToNat, Nat.reduceBEq, *], by simp only [go_sem, Nat.reduceEqDiff, reduceCtorEq, ↓reduceIte, Nat.reduceMul, Nat.reduceAdd, Nat.reduceLT, Nat.reduceLeDiff, Int.reduceLT, Int.reduceLE, Int.reduceToNat, Nat.reduceBEq, *], by simp only [go_sem, Nat.reduceEqDiff, reduceCtorEq, ↓reduceIte, Nat.reduceMul, Nat.reduceAdd, Nat.reduceLT, Nat.reduceLeDiff, Int.reduceLT, Int.reduceLE, Int.reduceToNat, Nat.reduceBEq, *], ha, hc, by omega⟩, by simp only [go_sem, Nat.reduceEqDiff, reduceCtorEq, ↓reduceIte, Nat.reduceMul, Nat.reduceAdd, Nat.reduceLT, Nat.reduceLeDiff, Int.reduceLT, Int.reduceLE, Int.reduceToNat, Nat.reduceBEq, *, idx]; exact mlt3 hm1 hm2⟩
  · obtain rfl : a = lowS l x := by omega
    repeat (first
      | refine d_assoc ?_
      | refine d_sskip ?_
      | (refine d_sreg (by kernel_rfl) fun K hK => ?_; simp only [go_sem, Nat.reduceEqDiff, reduceCtorEq, ↓reduceIte, Nat.reduceMul, Nat.reduceAdd, Nat.reduceLT, Nat.reduceLeDiff, Int.reduceLT, Int.reduceLE, Int.reduceToNat, Nat.reduceBEq, *]; (first | refine hK.go _ ?_ | refine ⟨by omega, hK.go _ ?_⟩ | refine ⟨by omega, by omega, hK.go _ ?_⟩ | refine ⟨by omega, by omega, by omega, hK.go _ ?_⟩); clear hK K)
      | (refine d_reg (by kernel_rfl) fun K hK => ?_; simp only [go_sem, Nat.reduceEqDiff, reduceCtorEq, ↓reduceIte, Nat.reduceMul, Nat.reduceAdd, Nat.reduceLT, Nat.reduceLeDiff, Int.reduceLT, Int.reduceLE, Int.reduceToNat, Nat.reduceBEq, *]; (first | refine hK.go _ ?_ | refine ⟨by omega, hK.go _ ?_⟩ | refine ⟨by omega, by omega, hK.go _ ?_⟩ | refine ⟨by omega, by omega, by omega, hK.go _ ?_⟩); clear hK K)
      | (refine d_scond true rfl (fun _ => ?_) (fun h => by cases h))
      | (refine d_scond false rfl (fun h => by cases h) (fun _ => ?_))
      | (refine d_cond true rfl (fun _ => ?_) (fun h => by cases h))
      | (refine d_cond false rfl (fun h => by cases h) (fun _ => ?_))
      | refine d_exit ?_
      | refine d_sexit ?_
      | refine d_ret ?_
      | refine d_sret ?_
      | refine d_skip ?_)
    repeat (first | simp only [thenD, blockD, Nat.reduceEqDiff, reduceCtorEq, ↓reduceIte] | refine Imp.go (by assumption) _ ?_)
    repeat (first
      | refine d_assoc ?_
      | refine d_sskip ?_
      | (refine d_sreg (by kernel_rfl) fun K hK => ?_; simp only [go_sem, Nat.reduceEqDiff, reduceCtorEq, ↓reduceIte, Nat.reduceMul, Nat.reduceAdd, Nat.reduceLT, Nat.reduceLeDiff, Int.reduceLT, Int.reduceLE, Int.reduceToNat, Nat.reduceBEq, *]; (first | refine hK.go _ ?_ | refine ⟨by omega, hK.go _ ?_⟩ | refine ⟨by omega, by omega, hK.go _ ?_⟩ | refine ⟨by omega, by omega, by omega, hK.go _ ?_⟩); clear hK K)
      | (refine d_reg (by kernel_rfl) fun K hK => ?_; simp only [go_sem, Nat.reduceEqDiff, reduceCtorEq, ↓reduceIte, Nat.reduceMul, Nat.reduceAdd, Nat.reduceLT, Nat.reduceLeDiff, Int.reduceLT, Int.reduceLE, Int.reduceToNat, Nat.reduceBEq, *]; (first | refine hK.go _ ?_ | refine ⟨by omega, hK.go _ ?_⟩ | refine ⟨by omega, by omega, hK.go _ ?_⟩ | refine ⟨by omega, by omega, by omega, hK.go _ ?_⟩); clear hK K)
      | (refine d_scond true rfl (fun _ => ?_) (fun h => by cases h))
      | (refine d_scond false rfl (fun h => by cases h) (fun _ => ?_))
      | (refine d_cond true rfl (fun _ => ?_) (fun h => by cases h))
      | (refine d_cond false rfl (fun h => by cases h) (fun _ => ?_))
      | refine d_exit ?_
      | refine d_sexit ?_
      | refine d_ret ?_
      | refine d_sret ?_
      | refine d_skip ?_)
    exact fin1 (.inr rfl) Try.results66 (by simp only [go_sem, Nat.reduceEqDiff, reduceCtorEq, ↓reduceIte, Nat.reduceMul, Nat.reduceAdd, Nat.reduceLT, Nat.reduceLeDiff, Int.reduceLT, Int.reduceLE, Int.reduceToNat, Nat.reduceBEq, *] <;> rfl) rfl

theorem Lower_fn (l : List Int) (x : Int) (hp : l.Pairwise (· < ·)) (hl : l.length ≤ 1000) : FnD Try.prog 46 [U l, iv .u64 x] (iv .i64 (lowS l x)) := by
  have hc := lower_fn l x hp hl
  clear hp
  refine fn2 mixed Try.func46 (by kernel_rfl) rfl Try.ntmps46 (by decide) fun s e0 e1 => ?_
  unfold U at e0
  repeat (first
    | refine d_assoc ?_
    | refine d_sskip ?_
    | (refine d_sreg (by kernel_rfl) fun K hK => ?_; simp only [go_sem, Nat.reduceEqDiff, reduceCtorEq, ↓reduceIte, Nat.reduceMul, Nat.reduceAdd, Nat.reduceLT, Nat.reduceLeDiff, Int.reduceLT, Int.reduceLE, Int.reduceToNat, Nat.reduceBEq, *]; (first | refine hK.go _ ?_ | refine ⟨by omega, hK.go _ ?_⟩ | refine ⟨by omega, by omega, hK.go _ ?_⟩ | refine ⟨by omega, by omega, by omega, hK.go _ ?_⟩); clear hK K)
    | (refine d_reg (by kernel_rfl) fun K hK => ?_; simp only [go_sem, Nat.reduceEqDiff, reduceCtorEq, ↓reduceIte, Nat.reduceMul, Nat.reduceAdd, Nat.reduceLT, Nat.reduceLeDiff, Int.reduceLT, Int.reduceLE, Int.reduceToNat, Nat.reduceBEq, *]; (first | refine hK.go _ ?_ | refine ⟨by omega, hK.go _ ?_⟩ | refine ⟨by omega, by omega, hK.go _ ?_⟩ | refine ⟨by omega, by omega, by omega, hK.go _ ?_⟩); clear hK K)
    | (refine d_scond true rfl (fun _ => ?_) (fun h => by cases h))
    | (refine d_scond false rfl (fun h => by cases h) (fun _ => ?_))
    | (refine d_cond true rfl (fun _ => ?_) (fun h => by cases h))
    | (refine d_cond false rfl (fun h => by cases h) (fun _ => ?_))
    | refine d_exit ?_
    | refine d_sexit ?_
    | refine d_ret ?_
    | refine d_sret ?_
    | refine d_skip ?_)
  refine d_sreg (by kernel_rfl) fun K hK => ?_
  simp only [go_sem, Nat.reduceEqDiff, reduceCtorEq, ↓reduceIte, Nat.reduceMul, Nat.reduceAdd, Nat.reduceLT, Nat.reduceLeDiff, Int.reduceLT, Int.reduceLE, Int.reduceToNat, Nat.reduceBEq, *]
  refine wp_call rfl (hc) (by first | exact .inl rfl | exact .inr rfl) ?_
  simp only [go_sem, Nat.reduceEqDiff, reduceCtorEq, ↓reduceIte, Nat.reduceMul, Nat.reduceAdd, Nat.reduceLT, Nat.reduceLeDiff, Int.reduceLT, Int.reduceLE, Int.reduceToNat, Nat.reduceBEq, *]
  (first | refine hK.go _ ?_ | refine ⟨by omega, hK.go _ ?_⟩ | refine ⟨by omega, by omega, hK.go _ ?_⟩); clear hK K
  repeat (first
    | refine d_assoc ?_
    | refine d_sskip ?_
    | (refine d_sreg (by kernel_rfl) fun K hK => ?_; simp only [go_sem, Nat.reduceEqDiff, reduceCtorEq, ↓reduceIte, Nat.reduceMul, Nat.reduceAdd, Nat.reduceLT, Nat.reduceLeDiff, Int.reduceLT, Int.reduceLE, Int.reduceToNat, Nat.reduceBEq, *]; (first | refine hK.go _ ?_ | refine ⟨by omega, hK.go _ ?_⟩ | refine ⟨by omega, by omega, hK.go _ ?_⟩ | refine ⟨by omega, by omega, by omega, hK.go _ ?_⟩); clear hK K)
    | (refine d_reg (by kernel_rfl) fun K hK => ?_; simp only [go_sem, Nat.reduceEqDiff, reduceCtorEq, ↓reduceIte, Nat.reduceMul, Nat.reduceAdd, Nat.reduceLT, Nat.reduceLeDiff, Int.reduceLT, Int.reduceLE, Int.reduceToNat, Nat.reduceBEq, *]; (first | refine hK.go _ ?_ | refine ⟨by omega, hK.go _ ?_⟩ | refine ⟨by omega, by omega, hK.go _ ?_⟩ | refine ⟨by omega, by omega, by omega, hK.go _ ?_⟩); clear hK K)
    | (refine d_scond true rfl (fun _ => ?_) (fun h => by cases h))
    | (refine d_scond false rfl (fun h => by cases h) (fun _ => ?_))
    | (refine d_cond true rfl (fun _ => ?_) (fun h => by cases h))
    | (refine d_cond false rfl (fun h => by cases h) (fun _ => ?_))
    | refine d_exit ?_
    | refine d_sexit ?_
    | refine d_ret ?_
    | refine d_sret ?_
    | refine d_skip ?_)
  exact fin1 (.inr rfl) Try.results46 (by simp only [go_sem, Nat.reduceEqDiff, reduceCtorEq, ↓reduceIte, Nat.reduceMul, Nat.reduceAdd, Nat.reduceLT, Nat.reduceLeDiff, Int.reduceLT, Int.reduceLE, Int.reduceToNat, Nat.reduceBEq, *] <;> rfl) rfl

theorem low_cons (y : Int) (L : List Int) (k : Int) : lowS (y :: L) k = if y < k then lowS L k + 1 else 0 := by
  unfold lowS
  rw [List.takeWhile_cons]
  by_cases h : y < k <;> simp [h]
theorem drop_low (k : Int) : ∀ L : List Int, L.Pairwise (· < ·) → (k ∈ L ↔ 0 < (L.drop (lowS L k)).length ∧ nth (L.drop (lowS L k)) 0 = k) ∧ ∀ x, k < x → (x ∈ L ↔ x ∈ L.drop (lowS L k)) := by
  intro L
  induction L with
  | nil => intro _; exact ⟨by simp [lowS], fun x _ => by simp [lowS]⟩
  | cons y L ih =>
    intro hp
    rw [List.pairwise_cons] at hp
    obtain ⟨i1, i2⟩ := ih hp.2
    rw [low_cons]
    by_cases h : y < k
    · rw [if_pos h, List.drop_succ_cons]
      refine ⟨?_, fun x hx => ?_⟩
      · rw [← i1, List.mem_cons]
        constructor
        · rintro (h1 | h1)
          · omega
          · exact h1
        · exact .inr
      · rw [← i2 x hx, List.mem_cons]
        constructor
        · rintro (h1 | h1)
          · omega
          · exact h1
        · exact .inr
    · rw [if_neg h, List.drop_zero]
      refine ⟨?_, fun x _ => Iff.rfl⟩
      rw [nth_zero, List.mem_cons]
      constructor
      · rintro (h1 | h1)
        · exact ⟨by simp, h1.symm⟩
        · have := hp.1 k h1; omega
      · rintro ⟨_, h1⟩
        exact .inl h1.symm

theorem common_fn (a b : List Int) (ha : a.Pairwise (· < ·)) (hb : b.Pairwise (· < ·)) (hal : a.length ≤ 1000) (hbl : b.length ≤ 1000) : ∃ O, FnD Try.prog 48 [U a, U b] (U O) ∧ O.Pairwise (· < ·) ∧ ∀ x, x ∈ O ↔ x ∈ a ∧ x ∈ b := by
  obtain ⟨p, q, hp, hq, hpl, hql, hpq, hsw⟩ : ∃ p q : List Int, p.Pairwise (· < ·) ∧ q.Pairwise (· < ·) ∧ p.length ≤ 1000 ∧ q.length ≤ 1000 ∧ (∀ x, (x ∈ p ∧ x ∈ q) ↔ (x ∈ a ∧ x ∈ b)) ∧ ((b.length < a.length ∧ p = b ∧ q = a) ∨ (¬ b.length < a.length ∧ p = a ∧ q = b)) := by
    by_cases h : b.length < a.length
    · exact ⟨b, a, hb, ha, hbl, hal, fun x => And.comm, .inl ⟨h, rfl, rfl⟩⟩
    · exact ⟨a, b, ha, hb, hal, hbl, fun x => Iff.rfl, .inr ⟨h, rfl, rfl⟩⟩
  refine ⟨p.filter (decide <| · ∈ q), ?_, hp.filter _, fun x => by rw [List.mem_filter, ← hpq x]; simp⟩
  have HP := Sec.mk hp
  have HQ := Sec.mk hq
  clear hp hq ha hb hpq
  refine fn2 mixed Try.func48 (by kernel_rfl) rfl Try.ntmps48 (by decide) fun s e0 e1 => ?_
  unfold U at e0 e1
  refine d_sreg (by kernel_rfl) fun K hK => ?_
  simp only [go_sem, Nat.reduceEqDiff, reduceCtorEq, ↓reduceIte, Nat.reduceMul, Nat.reduceAdd, Nat.reduceLT, Nat.reduceLeDiff, Int.reduceLT, Int.reduceLE, Int.reduceToNat, Nat.reduceBEq, *]
  (first | refine hK.go _ ?_ | refine ⟨by omega, hK.go _ ?_⟩ | refine ⟨by omega, by omega, hK.go _ ?_⟩); clear hK K
  refine d_sreg (by kernel_rfl) fun K hK => ?_
  simp only [go_sem, Nat.reduceEqDiff, reduceCtorEq, ↓reduceIte, Nat.reduceMul, Nat.reduceAdd, Nat.reduceLT, Nat.reduceLeDiff, Int.reduceLT, Int.reduceLE, Int.reduceToNat, Nat.reduceBEq, *]
  (first | refine hK.go _ ?_ | refine ⟨by omega, hK.go _ ?_⟩ | refine ⟨by omega, by omega, hK.go _ ?_⟩); clear hK K
  refine d_cut (fun s => s.env 0 = .sl (sl1 (iv .u64) p) ∧ s.env 1 = .sl (sl1 (iv .u64) q) ∧ s.env 5 = .raw (.slice none 0 0)) ?_ ?_
  rotate_left
  · rcases hsw with ⟨h, rfl, rfl⟩ | ⟨h, rfl, rfl⟩
    · repeat (first
  | refine d_assoc ?_
  | refine d_sskip ?_
  | (refine d_sreg (by kernel_rfl) fun K hK => ?_; simp only [go_sem, Nat.reduceEqDiff, reduceCtorEq, ↓reduceIte, Nat.reduceMul, Nat.reduceAdd, Nat.reduceLT, Nat.reduceLeDiff, Int.reduceLT, Int.reduceLE, Int.reduceToNat, Nat.reduceBEq, *]; (first | refine hK.go _ ?_ | refine ⟨by omega, hK.go _ ?_⟩ | refine ⟨by omega, by omega, hK.go _ ?_⟩ | refine ⟨by omega, by omega, by omega, hK.go _ ?_⟩); clear hK K)
  | (refine d_reg (by kernel_rfl) fun K hK => ?_; simp only [go_sem, Nat.reduceEqDiff, reduceCtorEq, ↓reduceIte, Nat.reduceMul, Nat.reduceAdd, Nat.reduceLT, Nat.reduceLeDiff, Int.reduceLT, Int.reduceLE, Int.reduceToNat, Nat.reduceBEq, *]; (first | refine hK.go _ ?_ | refine ⟨by omega, hK.go _ ?_⟩ | refine ⟨by omega, by omega, hK.go _ ?_⟩ | refine ⟨by omega, by omega, by omega, hK.go _ ?_⟩); clear hK K)
  | (refine d_scond true rfl (fun _ => ?_) (fun h => by cases h))
  | (refine d_scond false rfl (fun h => by cases h) (fun _ => ?_))
  | (refine d_cond true rfl (fun _ => ?_) (fun h => by cases h))
  | (refine d_cond false rfl (fun h => by cases h) (fun _ => ?_))
  | refine d_exit ?_
  | refine d_sexit ?_
  | refine d_ret ?_
  | refine d_sret ?_
  | refine d_skip ?_)
      repeat (first | simp only [thenD, blockD, Nat.reduceEqDiff, reduceCtorEq, ↓reduceIte] | refine Imp.go (by assumption) _ ?_)
      exact ⟨by simp only [go_sem, Nat.reduceEqDiff, reduceCtorEq, ↓reduceIte, Nat.reduceMul, Nat.reduceAdd, Nat.reduceLT, Nat.reduceLeDiff, Int.reduceLT, Int.reduceLE, Int.reduceToNat, Nat.reduceBEq, *], by simp only [go_sem, Nat.reduceEqDiff, reduceCtorEq, ↓reduceIte, Nat.reduceMul, Nat.reduceAdd, Nat.reduceLT, Nat.reduceLeDiff, Int.reduceLT, Int.reduceLE, Int.reduceToNat, Nat.reduceBEq, *], by simp only [go_sem, Nat.reduceEqDiff, reduceCtorEq, ↓reduceIte, Nat.reduceMul, Nat.reduceAdd, Nat.reduceLT, Nat.reduceLeDiff, Int.reduceLT, Int.reduceLE, Int.reduceToNat, Nat.reduceBEq, *]⟩
    · repeat (first
  | refine d_assoc ?_
  | refine d_sskip ?_
  | (refine d_sreg (by kernel_rfl) fun K hK => ?_; simp only [go_sem, Nat.reduceEqDiff, reduceCtorEq, ↓reduceIte, Nat.reduceMul, Nat.reduceAdd, Nat.reduceLT, Nat.reduceLeDiff, Int.reduceLT, Int.reduceLE, Int.reduceToNat, Nat.reduceBEq, *]; (first | refine hK.go _ ?_ | refine ⟨by omega, hK.go _ ?_⟩ | refine ⟨by omega, by omega, hK.go _ ?_⟩ | refine ⟨by omega, by omega, by omega, hK.go _ ?_⟩); clear hK K)
  | (refine d_reg (by kernel_rfl) fun K hK => ?_; simp only [go_sem, Nat.reduceEqDiff, reduceCtorEq, ↓reduceIte, Nat.reduceMul, Nat.reduceAdd, Nat.reduceLT, Nat.reduceLeDiff, Int.reduceLT, Int.reduceLE, Int.reduceToNat, Nat.reduceBEq, *]; (first | refine hK.go _ ?_ | refine ⟨by omega, hK.go _ ?_⟩ | refine ⟨by omega, by omega, hK.go _ ?_⟩ | refine ⟨by omega, by omega, by omega, hK.go _ ?_⟩); clear hK K)
  | (refine d_scond true rfl (fun _ => ?_) (fun h => by cases h))
  | (refine d_scond false rfl (fun h => by cases h) (fun _ => ?_))
  | (refine d_cond true rfl (fun _ => ?_) (fun h => by cases h))
  | (refine d_cond false rfl (fun h => by cases h) (fun _ => ?_))
  | refine d_exit ?_
  | refine d_sexit ?_
  | refine d_ret ?_
  | refine d_sret ?_
  | refine d_skip ?_)
      repeat (first | simp only [thenD, blockD, Nat.reduceEqDiff, reduceCtorEq, ↓reduceIte] | refine Imp.go (by assumption) _ ?_)
      exact ⟨by simp only [go_sem, Nat.reduceEqDiff, reduceCtorEq, ↓reduceIte, Nat.reduceMul, Nat.reduceAdd, Nat.reduceLT, Nat.reduceLeDiff, Int.reduceLT, Int.reduceLE, Int.reduceToNat, Nat.reduceBEq, *], by simp only [go_sem, Nat.reduceEqDiff, reduceCtorEq, ↓reduceIte, Nat.reduceMul, Nat.reduceAdd, Nat.reduceLT, Nat.reduceLeDiff, Int.reduceLT, Int.reduceLE, Int.reduceToNat, Nat.reduceBEq, *], by simp only [go_sem, Nat.reduceEqDiff, reduceCtorEq, ↓reduceIte, Nat.reduceMul, Nat.reduceAdd, Nat.reduceLT, Nat.reduceLeDiff, Int.reduceLT, Int.reduceLE, Int.reduceToNat, Nat.reduceBEq, *]⟩
  clear e0 e1 hsw hal hbl
  rintro s ⟨e0, e1, e5⟩
  repeat (first
    | refine d_assoc ?_
    | refine d_sskip ?_
    | (refine d_sreg (by kernel_rfl) fun K hK => ?_; simp only [go_sem, Nat.reduceEqDiff, reduceCtorEq, ↓reduceIte, Nat.reduceMul, Nat.reduceAdd, Nat.reduceLT, Nat.reduceLeDiff, Int.reduceLT, Int.reduceLE, Int.reduceToNat, Nat.reduceBEq, *]; (first | refine hK.go _ ?_ | refine ⟨by omega, hK.go _ ?_⟩ | refine ⟨by omega, by omega, hK.go _ ?_⟩ | refine ⟨by omega, by omega, by omega, hK.go _ ?_⟩); clear hK K)
    | (refine d_reg (by kernel_rfl) fun K hK => ?_; simp only [go_sem, Nat.reduceEqDiff, reduceCtorEq, ↓reduceIte, Nat.reduceMul, Nat.reduceAdd, Nat.reduceLT, Nat.reduceLeDiff, Int.reduceLT, Int.reduceLE, Int.reduceToNat, Nat.reduceBEq, *]; (first | refine hK.go _ ?_ | refine ⟨by omega, hK.go _ ?_⟩ | refine ⟨by omega, by omega, hK.go _ ?_⟩ | refine ⟨by omega, by omega, by omega, hK.go _ ?_⟩); clear hK K)
    | (refine d_scond true rfl (fun _ => ?_) (fun h => by cases h))
    | (refine d_scond false rfl (fun h => by cases h) (fun _ => ?_))
    | (refine d_cond true rfl (fun _ => ?_) (fun h => by cases h))
    | (refine d_cond false rfl (fun h => by cases h) (fun _ => ?_))
    | refine d_exit ?_
    | refine d_sexit ?_
    | refine d_ret ?_
    | refine d_sret ?_
    | refine d_skip ?_)
  refine d_sblock fun K hK => ?_
  refine d_loop (fun s => ∃ (i : Nat) (L O : List Int), s.env 15 = .sl (sl1 (iv .u64) p) ∧ s.env 16 = iv .i64 p.length ∧ s.env 17 = iv .i64 i ∧ s.env 1 = .sl (sl1 (iv .u64) L) ∧ i ≤ p.length ∧ L.length ≤ q.length ∧ O.length ≤ i ∧ Sec (L.Pairwise (· < ·) ∧ O = (p.take i).filter (decide <| · ∈ q) ∧ ∀ j, i ≤ j → j < p.length → (nth p j ∈ q ↔ nth p j ∈ L)) ∧ ((s.env 5 = .raw (.slice none 0 0) ∧ O = []) ∨ ∃ g v, s.env 5 = .own (39, g) v (sl1 (iv .u64) O) ∧ s.tip (39, g) = some (v, 28))) (fun s => p.length - idx (s.env 17)) ?_ ?_
  · exact ⟨0, q, [], by simp only [go_sem, Nat.reduceEqDiff, reduceCtorEq, ↓reduceIte, Nat.reduceMul, Nat.reduceAdd, Nat.reduceLT, Nat.reduceLeDiff, Int.reduceLT, Int.reduceLE, Int.reduceToNat, Nat.reduceBEq, *], by simp only [go_sem, Nat.reduceEqDiff, reduceCtorEq, ↓reduceIte, Nat.reduceMul, Nat.reduceAdd, Nat.reduceLT, Nat.reduceLeDiff, Int.reduceLT, Int.reduceLE, Int.reduceToNat, Nat.reduceBEq, *], by simp only [go_sem, Nat.reduceEqDiff, reduceCtorEq, ↓reduceIte, Nat.reduceMul, Nat.reduceAdd, Nat.reduceLT, Nat.reduceLeDiff, Int.reduceLT, Int.reduceLE, Int.reduceToNat, Nat.reduceBEq, *] <;> rfl, by simp only [go_sem, Nat.reduceEqDiff, reduceCtorEq, ↓reduceIte, Nat.reduceMul, Nat.reduceAdd, Nat.reduceLT, Nat.reduceLeDiff, Int.reduceLT, Int.reduceLE, Int.reduceToNat, Nat.reduceBEq, *], Nat.zero_le _, Nat.le_refl _, Nat.zero_le _, ⟨HQ.out, rfl, fun j _ _ => Iff.rfl⟩, .inl ⟨by simp only [go_sem, Nat.reduceEqDiff, reduceCtorEq, ↓reduceIte, Nat.reduceMul, Nat.reduceAdd, Nat.reduceLT, Nat.reduceLeDiff, Int.reduceLT, Int.reduceLE, Int.reduceToNat, Nat.reduceBEq, *], rfl⟩⟩
  clear e0 e1 e5
  rintro s1 K1 ⟨i, L, O, e15, e16, e17, e1, hi, hL, hO, hS, h5⟩ hK1
  have hw := wi i (by omega)
  by_cases h1 : i < p.length
  · have hc := lower_fn L (nth p i) hS.out.1 (by omega)
    have hm := (drop_low (nth p i) L hS.out.1).1
    have hle := lowS_le L (nth p i)
    have hlen : (L.drop (lowS L (nth p i))).length ≤ q.length := by rw [List.length_drop]; omega
    have hN : ∀ O', O' = (p.take (i + 1)).filter (decide <| · ∈ q) → Sec ((L.drop (lowS L (nth p i))).Pairwise (· < ·) ∧ O' = (p.take (i + 1)).filter (decide <| · ∈ q) ∧ ∀ j, i + 1 ≤ j → j < p.length → (nth p j ∈ q ↔ nth p j ∈ L.drop (lowS L (nth p i)))) := fun O' hO' =>
      ⟨hS.out.1.sublist (List.drop_sublist _ _), hO', fun j hj1 hj2 => by
        rw [hS.out.2.2 j (by omega) hj2]
        refine (drop_low (nth p i) L hS.out.1).2 _ ?_
        have := List.pairwise_iff_getElem.1 HP.out i j h1 hj2 (by omega)
        rw [nth_eq p i h1, nth_eq p j hj2]
        exact this⟩
    have hq := hS.out.2.2 i (Nat.le_refl _) h1
    have hOe := hS.out.2.1
    have hHN := Sec.mk hN
    clear hN hS
    generalize hX : L.drop (lowS L (nth p i)) = X at hm hlen hHN
    have HX := Sec.mk hX
    clear hX
    by_cases hX0 : 0 < X.length
    · by_cases hX1 : nth X 0 = nth p i
      · have hin : nth p i ∈ q := hq.2 (hm.2 ⟨hX0, hX1⟩)
        have hOn := Sec.mk (show O ++ [nth p i] = (p.take (i + 1)).filter (decide <| · ∈ q) by rw [take_nth p i h1, List.filter_append, ← hOe]; simp [hin])
        clear hm hq hOe hin
        have hX0' : (0 : Int) < ((X.length : Nat) : Int) := by omega
        have HL := hHN
        clear hHN
        have hX := HX.out
        rcases h5 with ⟨h5, h0⟩ | ⟨g, v, h5, ht⟩
        · subst h0
          repeat (first
            | refine d_assoc ?_
            | refine d_sskip ?_
            | (refine d_sreg (by kernel_rfl) fun K hK => ?_; simp only [go_sem, Nat.reduceEqDiff, reduceCtorEq, ↓reduceIte, Nat.reduceMul, Nat.reduceAdd, Nat.reduceLT, Nat.reduceLeDiff, Int.reduceLT, Int.reduceLE, Int.reduceToNat, Nat.reduceBEq, *]; (first | refine hK.go _ ?_ | refine ⟨by omega, hK.go _ ?_⟩ | refine ⟨by omega, by omega, hK.go _ ?_⟩ | refine ⟨by omega, by omega, by omega, hK.go _ ?_⟩); clear hK K)
            | (refine d_reg (by kernel_rfl) fun K hK => ?_; simp only [go_sem, Nat.reduceEqDiff, reduceCtorEq, ↓reduceIte, Nat.reduceMul, Nat.reduceAdd, Nat.reduceLT, Nat.reduceLeDiff, Int.reduceLT, Int.reduceLE, Int.reduceToNat, Nat.reduceBEq, *]; (first | refine hK.go _ ?_ | refine ⟨by omega, hK.go _ ?_⟩ | refine ⟨by omega, by omega, hK.go _ ?_⟩ | refine ⟨by omega, by omega, by omega, hK.go _ ?_⟩); clear hK K)
            | (refine d_scond true rfl (fun _ => ?_) (fun h => by cases h))
            | (refine d_scond false rfl (fun h => by cases h) (fun _ => ?_))
            | (refine d_cond true rfl (fun _ => ?_) (fun h => by cases h))
            | (refine d_cond false rfl (fun h => by cases h) (fun _ => ?_))
            | refine d_exit ?_
            | refine d_sexit ?_
            | refine d_ret ?_
            | refine d_sret ?_
            | refine d_skip ?_)
          refine d_sblock fun K2 hK2 => ?_
          repeat (first
            | refine d_assoc ?_
            | refine d_sskip ?_
            | (refine d_sreg (by kernel_rfl) fun K hK => ?_; simp only [go_sem, Nat.reduceEqDiff, reduceCtorEq, ↓reduceIte, Nat.reduceMul, Nat.reduceAdd, Nat.reduceLT, Nat.reduceLeDiff, Int.reduceLT, Int.reduceLE, Int.reduceToNat, Nat.reduceBEq, *]; (first | refine hK.go _ ?_ | refine ⟨by omega, hK.go _ ?_⟩ | refine ⟨by omega, by omega, hK.go _ ?_⟩ | refine ⟨by omega, by omega, by omega, hK.go _ ?_⟩); clear hK K)
            | (refine d_reg (by kernel_rfl) fun K hK => ?_; simp only [go_sem, Nat.reduceEqDiff, reduceCtorEq, ↓reduceIte, Nat.reduceMul, Nat.reduceAdd, Nat.reduceLT, Nat.reduceLeDiff, Int.reduceLT, Int.reduceLE, Int.reduceToNat, Nat.reduceBEq, *]; (first | refine hK.go _ ?_ | refine ⟨by omega, hK.go _ ?_⟩ | refine ⟨by omega, by omega, hK.go _ ?_⟩ | refine ⟨by omega, by omega, by omega, hK.go _ ?_⟩); clear hK K)
            | (refine d_scond true rfl (fun _ => ?_) (fun h => by cases h))
            | (refine d_scond false rfl (fun h => by cases h) (fun _ => ?_))
            | (refine d_cond true rfl (fun _ => ?_) (fun h => by cases h))
            | (refine d_cond false rfl (fun h => by cases h) (fun _ => ?_))
            | refine d_exit ?_
            | refine d_sexit ?_
            | refine d_ret ?_
            | refine d_sret ?_
            | refine d_skip ?_)
          refine d_sreg (by kernel_rfl) fun K hK => ?_
          simp only [go_sem, Nat.reduceEqDiff, reduceCtorEq, ↓reduceIte, Nat.reduceMul, Nat.reduceAdd, Nat.reduceLT, Nat.reduceLeDiff, Int.reduceLT, Int.reduceLE, Int.reduceToNat, Nat.reduceBEq, *]
          refine wp_call rfl (hc) (by first | exact .inl rfl | exact .inr rfl) ?_
          simp only [go_sem, Nat.reduceEqDiff, reduceCtorEq, ↓reduceIte, Nat.reduceMul, Nat.reduceAdd, Nat.reduceLT, Nat.reduceLeDiff, Int.reduceLT, Int.reduceLE, Int.reduceToNat, Nat.reduceBEq, *]
          (first | refine hK.go _ ?_ | refine ⟨by omega, hK.go _ ?_⟩ | refine ⟨by omega, by omega, hK.go _ ?_⟩); clear hK K
          clear hX hc hle
          repeat (first
            | refine d_assoc ?_
            | refine d_sskip ?_
            | (refine d_sreg (by kernel_rfl) fun K hK => ?_; simp only [go_sem, Nat.reduceEqDiff, reduceCtorEq, ↓reduceIte, Nat.reduceMul, Nat.reduceAdd, Nat.reduceLT, Nat.reduceLeDiff, Int.reduceLT, Int.reduceLE, Int.reduceToNat, Nat.reduceBEq, *]; (first | refine hK.go _ ?_ | refine ⟨by omega, hK.go _ ?_⟩ | refine ⟨by omega, by omega, hK.go _ ?_⟩ | refine ⟨by omega, by omega, by omega, hK.go _ ?_⟩); clear hK K)
            | (refine d_reg (by kernel_rfl) fun K hK => ?_; simp only [go_sem, Nat.reduceEqDiff, reduceCtorEq, ↓reduceIte, Nat.reduceMul, Nat.reduceAdd, Nat.reduceLT, Nat.reduceLeDiff, Int.reduceLT, Int.reduceLE, Int.reduceToNat, Nat.reduceBEq, *]; (first | refine hK.go _ ?_ | refine ⟨by omega, hK.go _ ?_⟩ | refine ⟨by omega, by omega, hK.go _ ?_⟩ | refine ⟨by omega, by omega, by omega, hK.go _ ?_⟩); clear hK K)
            | (refine d_scond true rfl (fun _ => ?_) (fun h => by cases h))
            | (refine d_scond false rfl (fun h => by cases h) (fun _ => ?_))
            | (refine d_cond true rfl (fun _ => ?_) (fun h => by cases h))
            | (refine d_cond false rfl (fun h => by cases h) (fun _ => ?_))
            | refine d_exit ?_
            | refine d_sexit ?_
            | refine d_ret ?_
            | refine d_sret ?_
            | refine d_skip ?_)
          repeat (first | simp only [thenD, blockD, Nat.reduceEqDiff, reduceCtorEq, ↓reduceIte] | refine Imp.go (by assumption) _ ?_)
          repeat (first
            | refine d_assoc ?_
            | refine d_sskip ?_
            | (refine d_sreg (by kernel_rfl) fun K hK => ?_; simp only [go_sem, Nat.reduceEqDiff, reduceCtorEq, ↓reduceIte, Nat.reduceMul, Nat.reduceAdd, Nat.reduceLT, Nat.reduceLeDiff, Int.reduceLT, Int.reduceLE, Int.reduceToNat, Nat.reduceBEq, *]; (first | refine hK.go _ ?_ | refine ⟨by omega, hK.go _ ?_⟩ | refine ⟨by omega, by omega, hK.go _ ?_⟩ | refine ⟨by omega, by omega, by omega, hK.go _ ?_⟩); clear hK K)
            | (refine d_reg (by kernel_rfl) fun K hK => ?_; simp only [go_sem, Nat.reduceEqDiff, reduceCtorEq, ↓reduceIte, Nat.reduceMul, Nat.reduceAdd, Nat.reduceLT, Nat.reduceLeDiff, Int.reduceLT, Int.reduceLE, Int.reduceToNat, Nat.reduceBEq, *]; (first | refine hK.go _ ?_ | refine ⟨by omega, hK.go _ ?_⟩ | refine ⟨by omega, by omega, hK.go _ ?_⟩ | refine ⟨by omega, by omega, by omega, hK.go _ ?_⟩); clear hK K)
            | (refine d_scond true rfl (fun _ => ?_) (fun h => by cases h))
            | (refine d_scond false rfl (fun h => by cases h) (fun _ => ?_))
            | (refine d_cond true rfl (fun _ => ?_) (fun h => by cases h))
            | (refine d_cond false rfl (fun h => by cases h) (fun _ => ?_))
            | refine d_exit ?_
            | refine d_sexit ?_
            | refine d_ret ?_
            | refine d_sret ?_
            | refine d_skip ?_)
          repeat (first | simp only [thenD, blockD, Nat.reduceEqDiff, reduceCtorEq, ↓reduceIte] | refine Imp.go (by assumption) _ ?_)
          exact ⟨⟨i + 1, X, [nth p i], by simp only [go_sem, Nat.reduceEqDiff, reduceCtorEq, ↓reduceIte, Nat.reduceMul, Nat.reduceAdd, Nat.reduceLT, Nat.reduceLeDiff, Int.reduceLT, Int.reduceLE, Int.reduceToNat, Nat.reduceBEq, *], by simp only [go_sem, Nat.reduceEqDiff, reduceCtorEq, ↓reduceIte, Nat.reduceMul, Nat.reduceAdd, Nat.reduceLT, Nat.reduceLeDiff, Int.reduceLT, Int.reduceLE, Int.reduceToNat, Nat.reduceBEq, *], by simp only [go_sem, Nat.reduceEqDiff, reduceCtorEq, ↓reduceIte, Nat.reduceMul, Nat.reduceAdd, Nat.reduceLT, Nat.reduceLeDiff, Int.reduceLT, Int.reduceLE, Int.reduceToNat, Nat.reduceBEq, *], by simp only [go_sem, Nat.reduceEqDiff, reduceCtorEq, ↓reduceIte, Nat.reduceMul, Nat.reduceAdd, Nat.reduceLT, Nat.reduceLeDiff, Int.reduceLT, Int.reduceLE, Int.reduceToNat, Nat.reduceBEq, *], h1, hlen, by simp, HL.out _ hOn.out, .inr ⟨s1.gen 39, 0, by simp only [go_sem, Nat.reduceEqDiff, reduceCtorEq, ↓reduceIte, Nat.reduceMul, Nat.reduceAdd, Nat.reduceLT, Nat.reduceLeDiff, Int.reduceLT, Int.reduceLE, Int.reduceToNat, Nat.reduceBEq, *] <;> rfl, by simp only [go_sem, Nat.reduceEqDiff, reduceCtorEq, ↓reduceIte, Nat.reduceMul, Nat.reduceAdd, Nat.reduceLT, Nat.reduceLeDiff, Int.reduceLT, Int.reduceLE, Int.reduceToNat, Nat.reduceBEq, *]⟩⟩, by simp only [go_sem, Nat.reduceEqDiff, reduceCtorEq, ↓reduceIte, Nat.reduceMul, Nat.reduceAdd, Nat.reduceLT, Nat.reduceLeDiff, Int.reduceLT, Int.reduceLE, Int.reduceToNat, Nat.reduceBEq, *, idx]; exact mlt h1⟩
        · have hl8 : (O.length + 1) * 8 ≤ 140737488355328 := by omega
          repeat (first
            | refine d_assoc ?_
            | refine d_sskip ?_
            | (refine d_sreg (by kernel_rfl) fun K hK => ?_; simp only [go_sem, Nat.reduceEqDiff, reduceCtorEq, ↓reduceIte, Nat.reduceMul, Nat.reduceAdd, Nat.reduceLT, Nat.reduceLeDiff, Int.reduceLT, Int.reduceLE, Int.reduceToNat, Nat.reduceBEq, *]; (first | refine hK.go _ ?_ | refine ⟨by omega, hK.go _ ?_⟩ | refine ⟨by omega, by omega, hK.go _ ?_⟩ | refine ⟨by omega, by omega, by omega, hK.go _ ?_⟩); clear hK K)
            | (refine d_reg (by kernel_rfl) fun K hK => ?_; simp only [go_sem, Nat.reduceEqDiff, reduceCtorEq, ↓reduceIte, Nat.reduceMul, Nat.reduceAdd, Nat.reduceLT, Nat.reduceLeDiff, Int.reduceLT, Int.reduceLE, Int.reduceToNat, Nat.reduceBEq, *]; (first | refine hK.go _ ?_ | refine ⟨by omega, hK.go _ ?_⟩ | refine ⟨by omega, by omega, hK.go _ ?_⟩ | refine ⟨by omega, by omega, by omega, hK.go _ ?_⟩); clear hK K)
            | (refine d_scond true rfl (fun _ => ?_) (fun h => by cases h))
            | (refine d_scond false rfl (fun h => by cases h) (fun _ => ?_))
            | (refine d_cond true rfl (fun _ => ?_) (fun h => by cases h))
            | (refine d_cond false rfl (fun h => by cases h) (fun _ => ?_))
            | refine d_exit ?_
            | refine d_sexit ?_
            | refine d_ret ?_
            | refine d_sret ?_
            | refine d_skip ?_)
          refine d_sblock fun K2 hK2 => ?_
          repeat (first
            | refine d_assoc ?_
            | refine d_sskip ?_
            | (refine d_sreg (by kernel_rfl) fun K hK => ?_; simp only [go_sem, Nat.reduceEqDiff, reduceCtorEq, ↓reduceIte, Nat.reduceMul, Nat.reduceAdd, Nat.reduceLT, Nat.reduceLeDiff, Int.reduceLT, Int.reduceLE, Int.reduceToNat, Nat.reduceBEq, *]; (first | refine hK.go _ ?_ | refine ⟨by omega, hK.go _ ?_⟩ | refine ⟨by omega, by omega, hK.go _ ?_⟩ | refine ⟨by omega, by omega, by omega, hK.go _ ?_⟩); clear hK K)
            | (refine d_reg (by kernel_rfl) fun K hK => ?_; simp only [go_sem, Nat.reduceEqDiff, reduceCtorEq, ↓reduceIte, Nat.reduceMul, Nat.reduceAdd, Nat.reduceLT, Nat.reduceLeDiff, Int.reduceLT, Int.reduceLE, Int.reduceToNat, Nat.reduceBEq, *]; (first | refine hK.go _ ?_ | refine ⟨by omega, hK.go _ ?_⟩ | refine ⟨by omega, by omega, hK.go _ ?_⟩ | refine ⟨by omega, by omega, by omega, hK.go _ ?_⟩); clear hK K)
            | (refine d_scond true rfl (fun _ => ?_) (fun h => by cases h))
            | (refine d_scond false rfl (fun h => by cases h) (fun _ => ?_))
            | (refine d_cond true rfl (fun _ => ?_) (fun h => by cases h))
            | (refine d_cond false rfl (fun h => by cases h) (fun _ => ?_))
            | refine d_exit ?_
            | refine d_sexit ?_
            | refine d_ret ?_
            | refine d_sret ?_
            | refine d_skip ?_)
          refine d_sreg (by kernel_rfl) fun K hK => ?_
          simp only [go_sem, Nat.reduceEqDiff, reduceCtorEq, ↓reduceIte, Nat.reduceMul, Nat.reduceAdd, Nat.reduceLT, Nat.reduceLeDiff, Int.reduceLT, Int.reduceLE, Int.reduceToNat, Nat.reduceBEq, *]
          refine wp_call rfl (hc) (by first | exact .inl rfl | exact .inr rfl) ?_
          simp only [go_sem, Nat.reduceEqDiff, reduceCtorEq, ↓reduceIte, Nat.reduceMul, Nat.reduceAdd, Nat.reduceLT, Nat.reduceLeDiff, Int.reduceLT, Int.reduceLE, Int.reduceToNat, Nat.reduceBEq, *]
          (first | refine hK.go _ ?_ | refine ⟨by omega, hK.go _ ?_⟩ | refine ⟨by omega, by omega, hK.go _ ?_⟩); clear hK K
          clear hX hc hle
          repeat (first
            | refine d_assoc ?_
            | refine d_sskip ?_
            | (refine d_sreg (by kernel_rfl) fun K hK => ?_; simp only [go_sem, Nat.reduceEqDiff, reduceCtorEq, ↓reduceIte, Nat.reduceMul, Nat.reduceAdd, Nat.reduceLT, Nat.reduceLeDiff, Int.reduceLT, Int.reduceLE, Int.reduceToNat, Nat.reduceBEq, *]; (first | refine hK.go _ ?_ | refine ⟨by omega, hK.go _ ?_⟩ | refine ⟨by omega, by omega, hK.go _ ?_⟩ | refine ⟨by omega, by omega, by omega, hK.go _ ?_⟩); clear hK K)
            | (refine d_reg (by kernel_rfl) fun K hK => ?_; simp only [go_sem, Nat.reduceEqDiff, reduceCtorEq, ↓reduceIte, Nat.reduceMul, Nat.reduceAdd, Nat.reduceLT, Nat.reduceLeDiff, Int.reduceLT, Int.reduceLE, Int.reduceToNat, Nat.reduceBEq, *]; (first | refine hK.go _ ?_ | refine ⟨by omega, hK.go _ ?_⟩ | refine ⟨by omega, by omega, hK.go _ ?_⟩ | refine ⟨by omega, by omega, by omega, hK.go _ ?_⟩); clear hK K)
            | (refine d_scond true rfl (fun _ => ?_) (fun h => by cases h))
            | (refine d_scond false rfl (fun h => by cases h) (fun _ => ?_))
            | (refine d_cond true rfl (fun _ => ?_) (fun h => by cases h))
            | (refine d_cond false rfl (fun h => by cases h) (fun _ => ?_))
            | refine d_exit ?_
            | refine d_sexit ?_
            | refine d_ret ?_
            | refine d_sret ?_
            | refine d_skip ?_)
          repeat (first | simp only [thenD, blockD, Nat.reduceEqDiff, reduceCtorEq, ↓reduceIte] | refine Imp.go (by assumption) _ ?_)
          repeat (first
            | refine d_assoc ?_
            | refine d_sskip ?_
            | (refine d_sreg (by kernel_rfl) fun K hK => ?_; simp only [go_sem, Nat.reduceEqDiff, reduceCtorEq, ↓reduceIte, Nat.reduceMul, Nat.reduceAdd, Nat.reduceLT, Nat.reduceLeDiff, Int.reduceLT, Int.reduceLE, Int.reduceToNat, Nat.reduceBEq, *]; (first | refine hK.go _ ?_ | refine ⟨by omega, hK.go _ ?_⟩ | refine ⟨by omega, by omega, hK.go _ ?_⟩ | refine ⟨by omega, by omega, by omega, hK.go _ ?_⟩); clear hK K)
            | (refine d_reg (by kernel_rfl) fun K hK => ?_; simp only [go_sem, Nat.reduceEqDiff, reduceCtorEq, ↓reduceIte, Nat.reduceMul, Nat.reduceAdd, Nat.reduceLT, Nat.reduceLeDiff, Int.reduceLT, Int.reduceLE, Int.reduceToNat, Nat.reduceBEq, *]; (first | refine hK.go _ ?_ | refine ⟨by omega, hK.go _ ?_⟩ | refine ⟨by omega, by omega, hK.go _ ?_⟩ | refine ⟨by omega, by omega, by omega, hK.go _ ?_⟩); clear hK K)
            | (refine d_scond true rfl (fun _ => ?_) (fun h => by cases h))
            | (refine d_scond false rfl (fun h => by cases h) (fun _ => ?_))
            | (refine d_cond true rfl (fun _ => ?_) (fun h => by cases h))
            | (refine d_cond false rfl (fun h => by cases h) (fun _ => ?_))
            | refine d_exit ?_
            | refine d_sexit ?_
            | refine d_ret ?_
            | refine d_sret ?_
            | refine d_skip ?_)
          repeat (first | simp only [thenD, blockD, Nat.reduceEqDiff, reduceCtorEq, ↓reduceIte] | refine Imp.go (by assumption) _ ?_)
          exact ⟨⟨i + 1, X, O ++ [nth p i], by simp only [go_sem, Nat.reduceEqDiff, reduceCtorEq, ↓reduceIte, Nat.reduceMul, Nat.reduceAdd, Nat.reduceLT, Nat.reduceLeDiff, Int.reduceLT, Int.reduceLE, Int.reduceToNat, Nat.reduceBEq, *], by simp only [go_sem, Nat.reduceEqDiff, reduceCtorEq, ↓reduceIte, Nat.reduceMul, Nat.reduceAdd, Nat.reduceLT, Nat.reduceLeDiff, Int.reduceLT, Int.reduceLE, Int.reduceToNat, Nat.reduceBEq, *], by simp only [go_sem, Nat.reduceEqDiff, reduceCtorEq, ↓reduceIte, Nat.reduceMul, Nat.reduceAdd, Nat.reduceLT, Nat.reduceLeDiff, Int.reduceLT, Int.reduceLE, Int.reduceToNat, Nat.reduceBEq, *], by simp only [go_sem, Nat.reduceEqDiff, reduceCtorEq, ↓reduceIte, Nat.reduceMul, Nat.reduceAdd, Nat.reduceLT, Nat.reduceLeDiff, Int.reduceLT, Int.reduceLE, Int.reduceToNat, Nat.reduceBEq, *], h1, hlen, by simp; exact hO, HL.out _ hOn.out, .inr ⟨g, v + 1, by simp only [go_sem, Nat.reduceEqDiff, reduceCtorEq, ↓reduceIte, Nat.reduceMul, Nat.reduceAdd, Nat.reduceLT, Nat.reduceLeDiff, Int.reduceLT, Int.reduceLE, Int.reduceToNat, Nat.reduceBEq, *], by simp only [go_sem, Nat.reduceEqDiff, reduceCtorEq, ↓reduceIte, Nat.reduceMul, Nat.reduceAdd, Nat.reduceLT, Nat.reduceLeDiff, Int.reduceLT, Int.reduceLE, Int.reduceToNat, Nat.reduceBEq, *]⟩⟩, by simp only [go_sem, Nat.reduceEqDiff, reduceCtorEq, ↓reduceIte, Nat.reduceMul, Nat.reduceAdd, Nat.reduceLT, Nat.reduceLeDiff, Int.reduceLT, Int.reduceLE, Int.reduceToNat, Nat.reduceBEq, *, idx]; exact mlt h1⟩
      · have hin : nth p i ∉ q := fun h => hX1 (hm.1 (hq.1 h)).2
        have hOn := Sec.mk (show O = (p.take (i + 1)).filter (decide <| · ∈ q) by rw [take_nth p i h1, List.filter_append, ← hOe]; simp [hin])
        clear hm hq hOe hin
        have hX0' : (0 : Int) < ((X.length : Nat) : Int) := by omega
        have HL := hHN
        clear hHN
        have hX := HX.out
        have H5 := Sec.mk h5
        clear h5
        repeat (first
          | refine d_assoc ?_
          | refine d_sskip ?_
          | (refine d_sreg (by kernel_rfl) fun K hK => ?_; simp only [go_sem, Nat.reduceEqDiff, reduceCtorEq, ↓reduceIte, Nat.reduceMul, Nat.reduceAdd, Nat.reduceLT, Nat.reduceLeDiff, Int.reduceLT, Int.reduceLE, Int.reduceToNat, Nat.reduceBEq, *]; (first | refine hK.go _ ?_ | refine ⟨by omega, hK.go _ ?_⟩ | refine ⟨by omega, by omega, hK.go _ ?_⟩ | refine ⟨by omega, by omega, by omega, hK.go _ ?_⟩); clear hK K)
          | (refine d_reg (by kernel_rfl) fun K hK => ?_; simp only [go_sem, Nat.reduceEqDiff, reduceCtorEq, ↓reduceIte, Nat.reduceMul, Nat.reduceAdd, Nat.reduceLT, Nat.reduceLeDiff, Int.reduceLT, Int.reduceLE, Int.reduceToNat, Nat.reduceBEq, *]; (first | refine hK.go _ ?_ | refine ⟨by omega, hK.go _ ?_⟩ | refine ⟨by omega, by omega, hK.go _ ?_⟩ | refine ⟨by omega, by omega, by omega, hK.go _ ?_⟩); clear hK K)
          | (refine d_scond true rfl (fun _ => ?_) (fun h => by cases h))
          | (refine d_scond false rfl (fun h => by cases h) (fun _ => ?_))
          | (refine d_cond true rfl (fun _ => ?_) (fun h => by cases h))
          | (refine d_cond false rfl (fun h => by cases h) (fun _ => ?_))
          | refine d_exit ?_
          | refine d_sexit ?_
          | refine d_ret ?_
          | refine d_sret ?_
          | refine d_skip ?_)
        refine d_sblock fun K2 hK2 => ?_
        repeat (first
          | refine d_assoc ?_
          | refine d_sskip ?_
          | (refine d_sreg (by kernel_rfl) fun K hK => ?_; simp only [go_sem, Nat.reduceEqDiff, reduceCtorEq, ↓reduceIte, Nat.reduceMul, Nat.reduceAdd, Nat.reduceLT, Nat.reduceLeDiff, Int.reduceLT, Int.reduceLE, Int.reduceToNat, Nat.reduceBEq, *]; (first | refine hK.go _ ?_ | refine ⟨by omega, hK.go _ ?_⟩ | refine ⟨by omega, by omega, hK.go _ ?_⟩ | refine ⟨by omega, by omega, by omega, hK.go _ ?_⟩); clear hK K)
          | (refine d_reg (by kernel_rfl) fun K hK => ?_; simp only [go_sem, Nat.reduceEqDiff, reduceCtorEq, ↓reduceIte, Nat.reduceMul, Nat.reduceAdd, Nat.reduceLT, Nat.reduceLeDiff, Int.reduceLT, Int.reduceLE, Int.reduceToNat, Nat.reduceBEq, *]; (first | refine hK.go _ ?_ | refine ⟨by omega, hK.go _ ?_⟩ | refine ⟨by omega, by omega, hK.go _ ?_⟩ | refine ⟨by omega, by omega, by omega, hK.go _ ?_⟩); clear hK K)
          | (refine d_scond true rfl (fun _ => ?_) (fun h => by cases h))
          | (refine d_scond false rfl (fun h => by cases h) (fun _ => ?_))
          | (refine d_cond true rfl (fun _ => ?_) (fun h => by cases h))
          | (refine d_cond false rfl (fun h => by cases h) (fun _ => ?_))
          | refine d_exit ?_
          | refine d_sexit ?_
          | refine d_ret ?_
          | refine d_sret ?_
          | refine d_skip ?_)
        refine d_sreg (by kernel_rfl) fun K hK => ?_
        simp only [go_sem, Nat.reduceEqDiff, reduceCtorEq, ↓reduceIte, Nat.reduceMul, Nat.reduceAdd, Nat.reduceLT, Nat.reduceLeDiff, Int.reduceLT, Int.reduceLE, Int.reduceToNat, Nat.reduceBEq, *]
        refine wp_call rfl (hc) (by first | exact .inl rfl | exact .inr rfl) ?_
        simp only [go_sem, Nat.reduceEqDiff, reduceCtorEq, ↓reduceIte, Nat.reduceMul, Nat.reduceAdd, Nat.reduceLT, Nat.reduceLeDiff, Int.reduceLT, Int.reduceLE, Int.reduceToNat, Nat.reduceBEq, *]
        (first | refine hK.go _ ?_ | refine ⟨by omega, hK.go _ ?_⟩ | refine ⟨by omega, by omega, hK.go _ ?_⟩); clear hK K
        clear hX hc hle
        repeat (first
          | refine d_assoc ?_
          | refine d_sskip ?_
          | (refine d_sreg (by kernel_rfl) fun K hK => ?_; simp only [go_sem, Nat.reduceEqDiff, reduceCtorEq, ↓reduceIte, Nat.reduceMul, Nat.reduceAdd, Nat.reduceLT, Nat.reduceLeDiff, Int.reduceLT, Int.reduceLE, Int.reduceToNat, Nat.reduceBEq, *]; (first | refine hK.go _ ?_ | refine ⟨by omega, hK.go _ ?_⟩ | refine ⟨by omega, by omega, hK.go _ ?_⟩ | refine ⟨by omega, by omega, by omega, hK.go _ ?_⟩); clear hK K)
          | (refine d_reg (by kernel_rfl) fun K hK => ?_; simp only [go_sem, Nat.reduceEqDiff, reduceCtorEq, ↓reduceIte, Nat.reduceMul, Nat.reduceAdd, Nat.reduceLT, Nat.reduceLeDiff, Int.reduceLT, Int.reduceLE, Int.reduceToNat, Nat.reduceBEq, *]; (first | refine hK.go _ ?_ | refine ⟨by omega, hK.go _ ?_⟩ | refine ⟨by omega, by omega, hK.go _ ?_⟩ | refine ⟨by omega, by omega, by omega, hK.go _ ?_⟩); clear hK K)
          | (refine d_scond true rfl (fun _ => ?_) (fun h => by cases h))
          | (refine d_scond false rfl (fun h => by cases h) (fun _ => ?_))
          | (refine d_cond true rfl (fun _ => ?_) (fun h => by cases h))
          | (refine d_cond false rfl (fun h => by cases h) (fun _ => ?_))
          | refine d_exit ?_
          | refine d_sexit ?_
          | refine d_ret ?_
          | refine d_sret ?_
          | refine d_skip ?_)
        repeat (first | simp only [thenD, blockD, Nat.reduceEqDiff, reduceCtorEq, ↓reduceIte] | refine Imp.go (by assumption) _ ?_)
        repeat (first
          | refine d_assoc ?_
          | refine d_sskip ?_
          | (refine d_sreg (by kernel_rfl) fun K hK => ?_; simp only [go_sem, Nat.reduceEqDiff, reduceCtorEq, ↓reduceIte, Nat.reduceMul, Nat.reduceAdd, Nat.reduceLT, Nat.reduceLeDiff, Int.reduceLT, Int.reduceLE, Int.reduceToNat, Nat.reduceBEq, *]; (first | refine hK.go _ ?_ | refine ⟨by omega, hK.go _ ?_⟩ | refine ⟨by omega, by omega, hK.go _ ?_⟩ | refine ⟨by omega, by omega, by omega, hK.go _ ?_⟩); clear hK K)
          | (refine d_reg (by kernel_rfl) fun K hK => ?_; simp only [go_sem, Nat.reduceEqDiff, reduceCtorEq, ↓reduceIte, Nat.reduceMul, Nat.reduceAdd, Nat.reduceLT, Nat.reduceLeDiff, Int.reduceLT, Int.reduceLE, Int.reduceToNat, Nat.reduceBEq, *]; (first | refine hK.go _ ?_ | refine ⟨by omega, hK.go _ ?_⟩ | refine ⟨by omega, by omega, hK.go _ ?_⟩ | refine ⟨by omega, by omega, by omega, hK.go _ ?_⟩); clear hK K)
          | (refine d_scond true rfl (fun _ => ?_) (fun h => by cases h))
          | (refine d_scond false rfl (fun h => by cases h) (fun _ => ?_))
          | (refine d_cond true rfl (fun _ => ?_) (fun h => by cases h))
          | (refine d_cond false rfl (fun h => by cases h) (fun _ => ?_))
          | refine d_exit ?_
          | refine d_sexit ?_
          | refine d_ret ?_
          | refine d_sret ?_
          | refine d_skip ?_)
        repeat (first | simp only [thenD, blockD, Nat.reduceEqDiff, reduceCtorEq, ↓reduceIte] | refine Imp.go (by assumption) _ ?_)
        exact ⟨⟨i + 1, X, O, by simp only [go_sem, Nat.reduceEqDiff, reduceCtorEq, ↓reduceIte, Nat.reduceMul, Nat.reduceAdd, Nat.reduceLT, Nat.reduceLeDiff, Int.reduceLT, Int.reduceLE, Int.reduceToNat, Nat.reduceBEq, *], by simp only [go_sem, Nat.reduceEqDiff, reduceCtorEq, ↓reduceIte, Nat.reduceMul, Nat.reduceAdd, Nat.reduceLT, Nat.reduceLeDiff, Int.reduceLT, Int.reduceLE, Int.reduceToNat, Nat.reduceBEq, *], by simp only [go_sem, Nat.reduceEqDiff, reduceCtorEq, ↓reduceIte, Nat.reduceMul, Nat.reduceAdd, Nat.reduceLT, Nat.reduceLeDiff, Int.reduceLT, Int.reduceLE, Int.reduceToNat, Nat.reduceBEq, *], by simp only [go_sem, Nat.reduceEqDiff, reduceCtorEq, ↓reduceIte, Nat.reduceMul, Nat.reduceAdd, Nat.reduceLT, Nat.reduceLeDiff, Int.reduceLT, Int.reduceLE, Int.reduceToNat, Nat.reduceBEq, *], h1, hlen, by omega, HL.out _ hOn.out, by simp only [go_sem, Nat.reduceEqDiff, reduceCtorEq, ↓reduceIte, Nat.reduceMul, Nat.reduceAdd, Nat.reduceLT, Nat.reduceLeDiff, Int.reduceLT, Int.reduceLE, Int.reduceToNat, Nat.reduceBEq, *]; exact H5.out⟩, by simp only [go_sem, Nat.reduceEqDiff, reduceCtorEq, ↓reduceIte, Nat.reduceMul, Nat.reduceAdd, Nat.reduceLT, Nat.reduceLeDiff, Int.reduceLT, Int.reduceLE, Int.reduceToNat, Nat.reduceBEq, *, idx]; exact mlt h1⟩
    · have hin : nth p i ∉ q := fun h => hX0 (hm.1 (hq.1 h)).1
      have hOn := Sec.mk (show O = (p.take (i + 1)).filter (decide <| · ∈ q) by rw [take_nth p i h1, List.filter_append, ← hOe]; simp [hin])
      clear hm hq hOe hin
      have hX0' : ¬ (0 : Int) < ((X.length : Nat) : Int) := by omega
      have HL := hHN
      clear hHN
      have hX := HX.out
      have H5 := Sec.mk h5
      clear h5
      repeat (first
        | refine d_assoc ?_
        | refine d_sskip ?_
        | (refine d_sreg (by kernel_rfl) fun K hK => ?_; simp only [go_sem, Nat.reduceEqDiff, reduceCtorEq, ↓reduceIte, Nat.reduceMul, Nat.reduceAdd, Nat.reduceLT, Nat.reduceLeDiff, Int.reduceLT, Int.reduceLE, Int.reduceToNat, Nat.reduceBEq, *]; (first | refine hK.go _ ?_ | refine ⟨by omega, hK.go _ ?_⟩ | refine ⟨by omega, by omega, hK.go _ ?_⟩ | refine ⟨by omega, by omega, by omega, hK.go _ ?_⟩); clear hK K)
        | (refine d_reg (by kernel_rfl) fun K hK => ?_; simp only [go_sem, Nat.reduceEqDiff, reduceCtorEq, ↓reduceIte, Nat.reduceMul, Nat.reduceAdd, Nat.reduceLT, Nat.reduceLeDiff, Int.reduceLT, Int.reduceLE, Int.reduceToNat, Nat.reduceBEq, *]; (first | refine hK.go _ ?_ | refine ⟨by omega, hK.go _ ?_⟩ | refine ⟨by omega, by omega, hK.go _ ?_⟩ | refine ⟨by omega, by omega, by omega, hK.go _ ?_⟩); clear hK K)
        | (refine d_scond true rfl (fun _ => ?_) (fun h => by cases h))
        | (refine d_scond false rfl (fun h => by cases h) (fun _ => ?_))
        | (refine d_cond true rfl (fun _ => ?_) (fun h => by cases h))
        | (refine d_cond false rfl (fun h => by cases h) (fun _ => ?_))
        | refine d_exit ?_
        | refine d_sexit ?_
        | refine d_ret ?_
        | refine d_sret ?_
        | refine d_skip ?_)
      refine d_sblock fun K2 hK2 => ?_
      repeat (first
        | refine d_assoc ?_
        | refine d_sskip ?_
        | (refine d_sreg (by kernel_rfl) fun K hK => ?_; simp only [go_sem, Nat.reduceEqDiff, reduceCtorEq, ↓reduceIte, Nat.reduceMul, Nat.reduceAdd, Nat.reduceLT, Nat.reduceLeDiff, Int.reduceLT, Int.reduceLE, Int.reduceToNat, Nat.reduceBEq, *]; (first | refine hK.go _ ?_ | refine ⟨by omega, hK.go _ ?_⟩ | refine ⟨by omega, by omega, hK.go _ ?_⟩ | refine ⟨by omega, by omega, by omega, hK.go _ ?_⟩); clear hK K)
        | (refine d_reg (by kernel_rfl) fun K hK => ?_; simp only [go_sem, Nat.reduceEqDiff, reduceCtorEq, ↓reduceIte, Nat.reduceMul, Nat.reduceAdd, Nat.reduceLT, Nat.reduceLeDiff, Int.reduceLT, Int.reduceLE, Int.reduceToNat, Nat.reduceBEq, *]; (first | refine hK.go _ ?_ | refine ⟨by omega, hK.go _ ?_⟩ | refine ⟨by omega, by omega, hK.go _ ?_⟩ | refine ⟨by omega, by omega, by omega, hK.go _ ?_⟩); clear hK K)
        | (refine d_scond true rfl (fun _ => ?_) (fun h => by cases h))
        | (refine d_scond false rfl (fun h => by cases h) (fun _ => ?_))
        | (refine d_cond true rfl (fun _ => ?_) (fun h => by cases h))
        | (refine d_cond false rfl (fun h => by cases h) (fun _ => ?_))
        | refine d_exit ?_
        | refine d_sexit ?_
        | refine d_ret ?_
        | refine d_sret ?_
        | refine d_skip ?_)
      refine d_sreg (by kernel_rfl) fun K hK => ?_
      simp only [go_sem, Nat.reduceEqDiff, reduceCtorEq, ↓reduceIte, Nat.reduceMul, Nat.reduceAdd, Nat.reduceLT, Nat.reduceLeDiff, Int.reduceLT, Int.reduceLE, Int.reduceToNat, Nat.reduceBEq, *]
      refine wp_call rfl (hc) (by first | exact .inl rfl | exact .inr rfl) ?_
      simp only [go_sem, Nat.reduceEqDiff, reduceCtorEq, ↓reduceIte, Nat.reduceMul, Nat.reduceAdd, Nat.reduceLT, Nat.reduceLeDiff, Int.reduceLT, Int.reduceLE, Int.reduceToNat, Nat.reduceBEq, *]
      (first | refine hK.go _ ?_ | refine ⟨by omega, hK.go _ ?_⟩ | refine ⟨by omega, by omega, hK.go _ ?_⟩); clear hK K
      clear hX hc hle
      repeat (first
        | refine d_assoc ?_
        | refine d_sskip ?_
        | (refine d_sreg (by kernel_rfl) fun K hK => ?_; simp only [go_sem, Nat.reduceEqDiff, reduceCtorEq, ↓reduceIte, Nat.reduceMul, Nat.reduceAdd, Nat.reduceLT, Nat.reduceLeDiff, Int.reduceLT, Int.reduceLE, Int.reduceToNat, Nat.reduceBEq, *]; (first | refine hK.go _ ?_ | refine ⟨by omega, hK.go _ ?_⟩ | refine ⟨by omega, by omega, hK.go _ ?_⟩ | refine ⟨by omega, by omega, by omega, hK.go _ ?_⟩); clear hK K)
        | (refine d_reg (by kernel_rfl) fun K hK => ?_; simp only [go_sem, Nat.reduceEqDiff, reduceCtorEq, ↓reduceIte, Nat.reduceMul, Nat.reduceAdd, Nat.reduceLT, Nat.reduceLeDiff, Int.reduceLT, Int.reduceLE, Int.reduceToNat, Nat.reduceBEq, *]; (first | refine hK.go _ ?_ | refine ⟨by omega, hK.go _ ?_⟩ | refine ⟨by omega, by omega, hK.go _ ?_⟩ | refine ⟨by omega, by omega, by omega, hK.go _ ?_⟩); clear hK K)
        | (refine d_scond true rfl (fun _ => ?_) (fun h => by cases h))
        | (refine d_scond false rfl (fun h => by cases h) (fun _ => ?_))
        | (refine d_cond true rfl (fun _ => ?_) (fun h => by cases h))
        | (refine d_cond false rfl (fun h => by cases h) (fun _ => ?_))
        | refine d_exit ?_
        | refine d_sexit ?_
        | refine d_ret ?_
        | refine d_sret ?_
        | refine d_skip ?_)
      repeat (first | simp only [thenD, blockD, Nat.reduceEqDiff, reduceCtorEq, ↓reduceIte] | refine Imp.go (by assumption) _ ?_)
      repeat (first
        | refine d_assoc ?_
        | refine d_sskip ?_
        | (refine d_sreg (by kernel_rfl) fun K hK => ?_; simp only [go_sem, Nat.reduceEqDiff, reduceCtorEq, ↓reduceIte, Nat.reduceMul, Nat.reduceAdd, Nat.reduceLT, Nat.reduceLeDiff, Int.reduceLT, Int.reduceLE, Int.reduceToNat, Nat.reduceBEq, *]; (first | refine hK.go _ ?_ | refine ⟨by omega, hK.go _ ?_⟩ | refine ⟨by omega, by omega, hK.go _ ?_⟩ | refine ⟨by omega, by omega, by omega, hK.go _ ?_⟩); clear hK K)
        | (refine d_reg (by kernel_rfl) fun K hK => ?_; simp only [go_sem, Nat.reduceEqDiff, reduceCtorEq, ↓reduceIte, Nat.reduceMul, Nat.reduceAdd, Nat.reduceLT, Nat.reduceLeDiff, Int.reduceLT, Int.reduceLE, Int.reduceToNat, Nat.reduceBEq, *]; (first | refine hK.go _ ?_ | refine ⟨by omega, hK.go _ ?_⟩ | refine ⟨by omega, by omega, hK.go _ ?_⟩ | refine ⟨by omega, by omega, by omega, hK.go _ ?_⟩); clear hK K)
        | (refine d_scond true rfl (fun _ => ?_) (fun h => by cases h))
        | (refine d_scond false rfl (fun h => by cases h) (fun _ => ?_))
        | (refine d_cond true rfl (fun _ => ?_) (fun h => by cases h))
        | (refine d_cond false rfl (fun h => by cases h) (fun _ => ?_))
        | refine d_exit ?_
        | refine d_sexit ?_
        | refine d_ret ?_
        | refine d_sret ?_
        | refine d_skip ?_)
      repeat (first | simp only [thenD, blockD, Nat.reduceEqDiff, reduceCtorEq, ↓reduceIte] | refine Imp.go (by assumption) _ ?_)
      exact ⟨⟨i + 1, X, O, by simp only [go_sem, Nat.reduceEqDiff, reduceCtorEq, ↓reduceIte, Nat.reduceMul, Nat.reduceAdd, Nat.reduceLT, Nat.reduceLeDiff, Int.reduceLT, Int.reduceLE, Int.reduceToNat, Nat.reduceBEq, *], by simp only [go_sem, Nat.reduceEqDiff, reduceCtorEq, ↓reduceIte, Nat.reduceMul, Nat.reduceAdd, Nat.reduceLT, Nat.reduceLeDiff, Int.reduceLT, Int.reduceLE, Int.reduceToNat, Nat.reduceBEq, *], by simp only [go_sem, Nat.reduceEqDiff, reduceCtorEq, ↓reduceIte, Nat.reduceMul, Nat.reduceAdd, Nat.reduceLT, Nat.reduceLeDiff, Int.reduceLT, Int.reduceLE, Int.reduceToNat, Nat.reduceBEq, *], by simp only [go_sem, Nat.reduceEqDiff, reduceCtorEq, ↓reduceIte, Nat.reduceMul, Nat.reduceAdd, Nat.reduceLT, Nat.reduceLeDiff, Int.reduceLT, Int.reduceLE, Int.reduceToNat, Nat.reduceBEq, *], h1, hlen, by omega, HL.out _ hOn.out, by simp only [go_sem, Nat.reduceEqDiff, reduceCtorEq, ↓reduceIte, Nat.reduceMul, Nat.reduceAdd, Nat.reduceLT, Nat.reduceLeDiff, Int.reduceLT, Int.reduceLE, Int.reduceToNat, Nat.reduceBEq, *]; exact H5.out⟩, by simp only [go_sem, Nat.reduceEqDiff, reduceCtorEq, ↓reduceIte, Nat.reduceMul, Nat.reduceAdd, Nat.reduceLT, Nat.reduceLeDiff, Int.reduceLT, Int.reduceLE, Int.reduceToNat, Nat.reduceBEq, *, idx]; exact mlt h1⟩
  · have hf : O = p.filter (decide <| · ∈ q) := by rw [hS.out.2.1, List.take_of_length_le (by omega)]
    rcases h5 with ⟨h5, h0⟩ | ⟨g, v, h5, ht⟩
    · have hf' : p.filter (decide <| · ∈ q) = [] := by rw [← hf, h0]
      clear hf h0
      repeat (first
        | refine d_assoc ?_
        | refine d_sskip ?_
        | (refine d_sreg (by kernel_rfl) fun K hK => ?_; simp only [go_sem, Nat.reduceEqDiff, reduceCtorEq, ↓reduceIte, Nat.reduceMul, Nat.reduceAdd, Nat.reduceLT, Nat.reduceLeDiff, Int.reduceLT, Int.reduceLE, Int.reduceToNat, Nat.reduceBEq, *]; (first | refine hK.go _ ?_ | refine ⟨by omega, hK.go _ ?_⟩ | refine ⟨by omega, by omega, hK.go _ ?_⟩ | refine ⟨by omega, by omega, by omega, hK.go _ ?_⟩); clear hK K)
        | (refine d_reg (by kernel_rfl) fun K hK => ?_; simp only [go_sem, Nat.reduceEqDiff, reduceCtorEq, ↓reduceIte, Nat.reduceMul, Nat.reduceAdd, Nat.reduceLT, Nat.reduceLeDiff, Int.reduceLT, Int.reduceLE, Int.reduceToNat, Nat.reduceBEq, *]; (first | refine hK.go _ ?_ | refine ⟨by omega, hK.go _ ?_⟩ | refine ⟨by omega, by omega, hK.go _ ?_⟩ | refine ⟨by omega, by omega, by omega, hK.go _ ?_⟩); clear hK K)
        | (refine d_scond true rfl (fun _ => ?_) (fun h => by cases h))
        | (refine d_scond false rfl (fun h => by cases h) (fun _ => ?_))
        | (refine d_cond true rfl (fun _ => ?_) (fun h => by cases h))
        | (refine d_cond false rfl (fun h => by cases h) (fun _ => ?_))
        | refine d_exit ?_
        | refine d_sexit ?_
        | refine d_ret ?_
        | refine d_sret ?_
        | refine d_skip ?_)
      repeat (first | simp only [thenD, blockD, Nat.reduceEqDiff, reduceCtorEq, ↓reduceIte] | refine Imp.go (by assumption) _ ?_)
      repeat (first
        | refine d_assoc ?_
        | refine d_sskip ?_
        | (refine d_sreg (by kernel_rfl) fun K hK => ?_; simp only [go_sem, Nat.reduceEqDiff, reduceCtorEq, ↓reduceIte, Nat.reduceMul, Nat.reduceAdd, Nat.reduceLT, Nat.reduceLeDiff, Int.reduceLT, Int.reduceLE, Int.reduceToNat, Nat.reduceBEq, *]; (first | refine hK.go _ ?_ | refine ⟨by omega, hK.go _ ?_⟩ | refine ⟨by omega, by omega, hK.go _ ?_⟩ | refine ⟨by omega, by omega, by omega, hK.go _ ?_⟩); clear hK K)
        | (refine d_reg (by kernel_rfl) fun K hK => ?_; simp only [go_sem, Nat.reduceEqDiff, reduceCtorEq, ↓reduceIte, Nat.reduceMul, Nat.reduceAdd, Nat.reduceLT, Nat.reduceLeDiff, Int.reduceLT, Int.reduceLE, Int.reduceToNat, Nat.reduceBEq, *]; (first | refine hK.go _ ?_ | refine ⟨by omega, hK.go _ ?_⟩ | refine ⟨by omega, by omega, hK.go _ ?_⟩ | refine ⟨by omega, by omega, by omega, hK.go _ ?_⟩); clear hK K)
        | (refine d_scond true rfl (fun _ => ?_) (fun h => by cases h))
        | (refine d_scond false rfl (fun h => by cases h) (fun _ => ?_))
        | (refine d_cond true rfl (fun _ => ?_) (fun h => by cases h))
        | (refine d_cond false rfl (fun h => by cases h) (fun _ => ?_))
        | refine d_exit ?_
        | refine d_sexit ?_
        | refine d_ret ?_
        | refine d_sret ?_
        | refine d_skip ?_)
      exact fin1 (.inr rfl) Try.results48 (by simp only [go_sem, Nat.reduceEqDiff, reduceCtorEq, ↓reduceIte, Nat.reduceMul, Nat.reduceAdd, Nat.reduceLT, Nat.reduceLeDiff, Int.reduceLT, Int.reduceLE, Int.reduceToNat, Nat.reduceBEq, *] <;> rfl) rfl
    · repeat (first
  | refine d_assoc ?_
  | refine d_sskip ?_
  | (refine d_sreg (by kernel_rfl) fun K hK => ?_; simp only [go_sem, Nat.reduceEqDiff, reduceCtorEq, ↓reduceIte, Nat.reduceMul, Nat.reduceAdd, Nat.reduceLT, Nat.reduceLeDiff, Int.reduceLT, Int.reduceLE, Int.reduceToNat, Nat.reduceBEq, *]; (first | refine hK.go _ ?_ | refine ⟨by omega, hK.go _ ?_⟩ | refine ⟨by omega, by omega, hK.go _ ?_⟩ | refine ⟨by omega, by omega, by omega, hK.go _ ?_⟩); clear hK K)
  | (refine d_reg (by kernel_rfl) fun K hK => ?_; simp only [go_sem, Nat.reduceEqDiff, reduceCtorEq, ↓reduceIte, Nat.reduceMul, Nat.reduceAdd, Nat.reduceLT, Nat.reduceLeDiff, Int.reduceLT, Int.reduceLE, Int.reduceToNat, Nat.reduceBEq, *]; (first | refine hK.go _ ?_ | refine ⟨by omega, hK.go _ ?_⟩ | refine ⟨by omega, by omega, hK.go _ ?_⟩ | refine ⟨by omega, by omega, by omega, hK.go _ ?_⟩); clear hK K)
  | (refine d_scond true rfl (fun _ => ?_) (fun h => by cases h))
  | (refine d_scond false rfl (fun h => by cases h) (fun _ => ?_))
  | (refine d_cond true rfl (fun _ => ?_) (fun h => by cases h))
  | (refine d_cond false rfl (fun h => by cases h) (fun _ => ?_))
  | refine d_exit ?_
  | refine d_sexit ?_
  | refine d_ret ?_
  | refine d_sret ?_
  | refine d_skip ?_)
      repeat (first | simp only [thenD, blockD, Nat.reduceEqDiff, reduceCtorEq, ↓reduceIte] | refine Imp.go (by assumption) _ ?_)
      repeat (first
        | refine d_assoc ?_
        | refine d_sskip ?_
        | (refine d_sreg (by kernel_rfl) fun K hK => ?_; simp only [go_sem, Nat.reduceEqDiff, reduceCtorEq, ↓reduceIte, Nat.reduceMul, Nat.reduceAdd, Nat.reduceLT, Nat.reduceLeDiff, Int.reduceLT, Int.reduceLE, Int.reduceToNat, Nat.reduceBEq, *]; (first | refine hK.go _ ?_ | refine ⟨by omega, hK.go _ ?_⟩ | refine ⟨by omega, by omega, hK.go _ ?_⟩ | refine ⟨by omega, by omega, by omega, hK.go _ ?_⟩); clear hK K)
        | (refine d_reg (by kernel_rfl) fun K hK => ?_; simp only [go_sem, Nat.reduceEqDiff, reduceCtorEq, ↓reduceIte, Nat.reduceMul, Nat.reduceAdd, Nat.reduceLT, Nat.reduceLeDiff, Int.reduceLT, Int.reduceLE, Int.reduceToNat, Nat.reduceBEq, *]; (first | refine hK.go _ ?_ | refine ⟨by omega, hK.go _ ?_⟩ | refine ⟨by omega, by omega, hK.go _ ?_⟩ | refine ⟨by omega, by omega, by omega, hK.go _ ?_⟩); clear hK K)
        | (refine d_scond true rfl (fun _ => ?_) (fun h => by cases h))
        | (refine d_scond false rfl (fun h => by cases h) (fun _ => ?_))
        | (refine d_cond true rfl (fun _ => ?_) (fun h => by cases h))
        | (refine d_cond false rfl (fun h => by cases h) (fun _ => ?_))
        | refine d_exit ?_
        | refine d_sexit ?_
        | refine d_ret ?_
        | refine d_sret ?_
        | refine d_skip ?_)
      exact fin1 (.inr rfl) Try.results48 (by simp only [go_sem, Nat.reduceEqDiff, reduceCtorEq, ↓reduceIte, Nat.reduceMul, Nat.reduceAdd, Nat.reduceLT, Nat.reduceLeDiff, Int.reduceLT, Int.reduceLE, Int.reduceToNat, Nat.reduceBEq, *] <;> rfl) rfl
end Go.Proofs.Ytndlcfdlhliljaa.D
