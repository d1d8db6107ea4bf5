/- Graphs on plain data: the law's Few. Conditions: none. -/
import Derived.Test.YtnlodeadhnonpaaDoorGD13
namespace Go.Proofs.YtnlodeadhnonpaaDoor.D
open Go.RowKit Go.Proofs.YtnlodeadhnonpaaDoor.Mem
set_option linter.unusedVariables false
set_option linter.unusedSimpArgs false
attribute [local irreducible] wpD wpL
attribute [local go_sem] ne_eq not_true_eq_false not_false_eq_true List.getD_cons_zero Int.lt_irrefl bs_mk str cast0 beq_decide bne_decide beqL natCast_inj' nat_zero bs_nil bt_eq List.length_map rowsN rowsE rowsP rowN rowE rowP
/-- A field that is the nil slice first, then rows of the call's own. -/
def Grw (s : St) (slot : Nat) (ty : TypeId) (d : DV) (rows : List (List DV)) : Prop := (rows = [] ∧ d = .raw (.slice none 0 0)) ∨ (rows ≠ [] ∧ ∃ g v, d = .own (slot, g) v rows ∧ s.tip (slot, g) = some (v, ty))
theorem stepP (l : List PP) (j : Nat) (h : j < l.length) : ((l.take (j + 1)).map fewP).map rowP = ((l.take j).map fewP).map rowP ++ [rowP (fewP (nth l j))] := by rw [take_nth l j h]; simp
theorem stepN (l : List PN) (j : Nat) (h : j < l.length) : ((l.take (j + 1)).map fewN).map rowN = ((l.take j).map fewN).map rowN ++ [rowN (fewN (nth l j))] := by rw [take_nth l j h]; simp
theorem stepE (l : List PE) (j : Nat) (h : j < l.length) : ((l.take (j + 1)).map fewE).map rowE = ((l.take j).map fewE).map rowE ++ [rowE (fewE (nth l j))] := by rw [take_nth l j h]; simp
set_option maxHeartbeats 2000000 in
theorem fewG_fn (g : PG) : FnD Tryd.prog 32 [G2 g] (G2 (fewG g)) := by
  obtain ⟨ns, es⟩ := g
  refine fn1 mixed Tryd.func32 (by kernel_rfl) rfl Tryd.ntmps32 (by decide) fun s e0 => ?_
  unfold G2 at e0
  simp only at e0
  repeat (first
    | refine d_assoc ?_
    | refine d_sskip ?_
    | (refine d_sreg (by kernel_rfl) fun K hK => ?_; simp only [go_sem, Nat.reduceEqDiff, reduceCtorEq, ↓reduceIte, Nat.reduceMul, Nat.reduceAdd, Nat.reduceLT, Nat.reduceLeDiff, Int.reduceLT, Int.reduceLE, Int.reduceToNat, Nat.reduceBEq, String.reduceNe, String.reduceEq, *]; (first | refine hK.go _ ?_ | refine ⟨by omega, hK.go _ ?_⟩ | refine ⟨by omega, by omega, hK.go _ ?_⟩ | refine ⟨by omega, by omega, by omega, hK.go _ ?_⟩); clear hK K)
    | (refine d_reg (by kernel_rfl) fun K hK => ?_; simp only [go_sem, Nat.reduceEqDiff, reduceCtorEq, ↓reduceIte, Nat.reduceMul, Nat.reduceAdd, Nat.reduceLT, Nat.reduceLeDiff, Int.reduceLT, Int.reduceLE, Int.reduceToNat, Nat.reduceBEq, String.reduceNe, String.reduceEq, *]; (first | refine hK.go _ ?_ | refine ⟨by omega, hK.go _ ?_⟩ | refine ⟨by omega, by omega, hK.go _ ?_⟩ | refine ⟨by omega, by omega, by omega, hK.go _ ?_⟩); clear hK K)
    | (refine d_scond true rfl (fun _ => ?_) (fun h => by cases h))
    | (refine d_scond false rfl (fun h => by cases h) (fun _ => ?_))
    | (refine d_cond true rfl (fun _ => ?_) (fun h => by cases h))
    | (refine d_cond false rfl (fun h => by cases h) (fun _ => ?_))
    | refine d_exit ?_
    | refine d_sexit ?_
    | refine d_ret ?_
    | refine d_sret ?_
    | refine d_skip ?_)
  refine d_cut (fun s => ∃ (g1 g2 g3 : Nat) (fN : DV) (c2 : List DV), s.env 1 = .ref (1, g1) 0 ∧ s.heap (1, g1) = some [.sl (ns.map rowN), .sl (es.map rowE)] ∧ s.env 2 = .ref (2, g2) 0 ∧ s.heap (2, g2) = some c2 ∧ c2.length = 2 ∧ s.env 3 = .ref (3, g3) 0 ∧ s.heap (3, g3) = some [fN, .raw (.slice none 0 0)] ∧ Grw s 70 58 fN (((ns.take 10).map fewN).map rowN)) ?_ ?_
  · clear e0
    rintro s1 ⟨g1, g2, g3, fN, c2, e1, eh1, e2, eh2, hc2, e3, eh3, hG⟩
    obtain ⟨x0, x1, rfl⟩ : ∃ x0 x1, c2 = [x0, x1] := by
      match c2, hc2 with
      | [a, b], _ => exact ⟨a, b, rfl⟩
    repeat (first
      | refine d_assoc ?_
      | refine d_sskip ?_
      | (refine d_sreg (by kernel_rfl) fun K hK => ?_; simp only [go_sem, Nat.reduceEqDiff, reduceCtorEq, ↓reduceIte, Nat.reduceMul, Nat.reduceAdd, Nat.reduceLT, Nat.reduceLeDiff, Int.reduceLT, Int.reduceLE, Int.reduceToNat, Nat.reduceBEq, String.reduceNe, String.reduceEq, *]; (first | refine hK.go _ ?_ | refine ⟨by omega, hK.go _ ?_⟩ | refine ⟨by omega, by omega, hK.go _ ?_⟩ | refine ⟨by omega, by omega, by omega, hK.go _ ?_⟩); clear hK K)
      | (refine d_reg (by kernel_rfl) fun K hK => ?_; simp only [go_sem, Nat.reduceEqDiff, reduceCtorEq, ↓reduceIte, Nat.reduceMul, Nat.reduceAdd, Nat.reduceLT, Nat.reduceLeDiff, Int.reduceLT, Int.reduceLE, Int.reduceToNat, Nat.reduceBEq, String.reduceNe, String.reduceEq, *]; (first | refine hK.go _ ?_ | refine ⟨by omega, hK.go _ ?_⟩ | refine ⟨by omega, by omega, hK.go _ ?_⟩ | refine ⟨by omega, by omega, by omega, hK.go _ ?_⟩); clear hK K)
      | (refine d_scond true rfl (fun _ => ?_) (fun h => by cases h))
      | (refine d_scond false rfl (fun h => by cases h) (fun _ => ?_))
      | (refine d_cond true rfl (fun _ => ?_) (fun h => by cases h))
      | (refine d_cond false rfl (fun h => by cases h) (fun _ => ?_))
      | refine d_exit ?_
      | refine d_sexit ?_
      | refine d_ret ?_
      | refine d_sret ?_
      | refine d_skip ?_)
    refine d_sblock fun K hK => ?_
    refine d_loop (fun s => ∃ (i : Nat) (fE : DV), s.env 1 = .ref (1, g1) 0 ∧ s.heap (1, g1) = some [.sl (ns.map rowN), .sl (es.map rowE)] ∧ s.env 2 = .ref (2, g2) 0 ∧ s.heap (2, g2) = some [x0, x1] ∧ s.env 3 = .ref (3, g3) 0 ∧ s.heap (3, g3) = some [fN, fE] ∧ s.env 8 = iv .i64 i ∧ i ≤ es.length ∧ i ≤ 30 ∧ Grw s 70 58 fN (((ns.take 10).map fewN).map rowN) ∧ Grw s 96 61 fE (((es.take i).map fewE).map rowE)) (fun s => es.length - idx (s.env 8)) ?_ ?_
    · refine ⟨0, _, by simp only [go_sem, Nat.reduceEqDiff, reduceCtorEq, ↓reduceIte, *], by simp only [go_sem, Nat.reduceEqDiff, reduceCtorEq, ↓reduceIte, *], by simp only [go_sem, Nat.reduceEqDiff, reduceCtorEq, ↓reduceIte, *], by simp only [go_sem, Nat.reduceEqDiff, reduceCtorEq, ↓reduceIte, *], by simp only [go_sem, Nat.reduceEqDiff, reduceCtorEq, ↓reduceIte, *], by simp only [go_sem, Nat.reduceEqDiff, reduceCtorEq, ↓reduceIte, *] <;> rfl, by simp only [go_sem, Nat.reduceEqDiff, reduceCtorEq, ↓reduceIte, *] <;> rfl, Nat.zero_le _, Nat.zero_le _, ?_, .inl ⟨rfl, rfl⟩⟩
      rcases hG with ⟨a, b⟩ | ⟨a, g, v, b, c⟩
      · exact .inl ⟨a, b⟩
      · exact .inr ⟨a, g, v, b, by simp only [go_sem, Nat.reduceEqDiff, reduceCtorEq, ↓reduceIte, *]⟩
    clear e1 eh1 e2 eh2 e3 eh3 hG
    rintro s4 K4 ⟨i, fE, e1, eh1, e2, eh2, e3, eh3, e8, hi, him, hG, hE⟩ hK4
    have hw := wi i (by omega)
    have hcut : ∀ l, FnD Tryd.prog 10 [sv l, iv .i64 35] (sv (l.take 35)) := fun l => cut_fn l 35
    by_cases h1 : i < es.length
    · by_cases h2 : i < 30
      · have h2' : (i : Int) < 30 := by omega
        have hN := Sec.mk (stepE es i h1)
        have hlE : (es.take i).length ≤ 30 := by rw [List.length_take]; omega
        have hc1 := hcut (nth es i).label
        repeat (first
          | refine d_assoc ?_
          | refine d_sskip ?_
          | (refine d_sreg (by kernel_rfl) fun K hK => ?_; simp only [go_sem, Nat.reduceEqDiff, reduceCtorEq, ↓reduceIte, Nat.reduceMul, Nat.reduceAdd, Nat.reduceLT, Nat.reduceLeDiff, Int.reduceLT, Int.reduceLE, Int.reduceToNat, Nat.reduceBEq, String.reduceNe, String.reduceEq, *]; (first | refine hK.go _ ?_ | refine ⟨by omega, hK.go _ ?_⟩ | refine ⟨by omega, by omega, hK.go _ ?_⟩ | refine ⟨by omega, by omega, by omega, hK.go _ ?_⟩); clear hK K)
          | (refine d_reg (by kernel_rfl) fun K hK => ?_; simp only [go_sem, Nat.reduceEqDiff, reduceCtorEq, ↓reduceIte, Nat.reduceMul, Nat.reduceAdd, Nat.reduceLT, Nat.reduceLeDiff, Int.reduceLT, Int.reduceLE, Int.reduceToNat, Nat.reduceBEq, String.reduceNe, String.reduceEq, *]; (first | refine hK.go _ ?_ | refine ⟨by omega, hK.go _ ?_⟩ | refine ⟨by omega, by omega, hK.go _ ?_⟩ | refine ⟨by omega, by omega, by omega, hK.go _ ?_⟩); clear hK K)
          | (refine d_scond true rfl (fun _ => ?_) (fun h => by cases h))
          | (refine d_scond false rfl (fun h => by cases h) (fun _ => ?_))
          | (refine d_cond true rfl (fun _ => ?_) (fun h => by cases h))
          | (refine d_cond false rfl (fun h => by cases h) (fun _ => ?_))
          | refine d_exit ?_
          | refine d_sexit ?_
          | refine d_ret ?_
          | refine d_sret ?_
          | refine d_skip ?_)
        refine d_sblock fun K2 hK2 => ?_
        repeat (first
          | refine d_assoc ?_
          | refine d_sskip ?_
          | (refine d_sreg (by kernel_rfl) fun K hK => ?_; simp only [go_sem, Nat.reduceEqDiff, reduceCtorEq, ↓reduceIte, Nat.reduceMul, Nat.reduceAdd, Nat.reduceLT, Nat.reduceLeDiff, Int.reduceLT, Int.reduceLE, Int.reduceToNat, Nat.reduceBEq, String.reduceNe, String.reduceEq, *]; (first | refine hK.go _ ?_ | refine ⟨by omega, hK.go _ ?_⟩ | refine ⟨by omega, by omega, hK.go _ ?_⟩ | refine ⟨by omega, by omega, by omega, hK.go _ ?_⟩); clear hK K)
          | (refine d_reg (by kernel_rfl) fun K hK => ?_; simp only [go_sem, Nat.reduceEqDiff, reduceCtorEq, ↓reduceIte, Nat.reduceMul, Nat.reduceAdd, Nat.reduceLT, Nat.reduceLeDiff, Int.reduceLT, Int.reduceLE, Int.reduceToNat, Nat.reduceBEq, String.reduceNe, String.reduceEq, *]; (first | refine hK.go _ ?_ | refine ⟨by omega, hK.go _ ?_⟩ | refine ⟨by omega, by omega, hK.go _ ?_⟩ | refine ⟨by omega, by omega, by omega, hK.go _ ?_⟩); clear hK K)
          | (refine d_scond true rfl (fun _ => ?_) (fun h => by cases h))
          | (refine d_scond false rfl (fun h => by cases h) (fun _ => ?_))
          | (refine d_cond true rfl (fun _ => ?_) (fun h => by cases h))
          | (refine d_cond false rfl (fun h => by cases h) (fun _ => ?_))
          | refine d_exit ?_
          | refine d_sexit ?_
          | refine d_ret ?_
          | refine d_sret ?_
          | refine d_skip ?_)
        refine d_sreg (by kernel_rfl) fun K hK => ?_
        simp only [go_sem, Nat.reduceEqDiff, reduceCtorEq, ↓reduceIte, Nat.reduceMul, Nat.reduceAdd, Nat.reduceLT, Nat.reduceLeDiff, Int.reduceLT, Int.reduceLE, Int.reduceToNat, Nat.reduceBEq, String.reduceNe, String.reduceEq, *]
        rw [if_pos (by rfl)]
        refine wp_call (xs := [sv (nth es i).label, iv .i64 35]) (b := false) (by rfl) hc1 (.inl rfl) ?_
        simp only [go_sem, Nat.reduceEqDiff, reduceCtorEq, ↓reduceIte, Nat.reduceMul, Nat.reduceAdd, Nat.reduceLT, Nat.reduceLeDiff, Int.reduceLT, Int.reduceLE, Int.reduceToNat, Nat.reduceBEq, String.reduceNe, String.reduceEq, *]
        (first | refine hK.go _ ?_ | refine ⟨by omega, hK.go _ ?_⟩ | refine ⟨by omega, by omega, hK.go _ ?_⟩); clear hK K
        rcases hE with ⟨hz, rfl⟩ | ⟨hz, g, v, rfl, htn⟩
        · skip
          repeat (first
            | refine d_assoc ?_
            | refine d_sskip ?_
            | (refine d_sreg (by kernel_rfl) fun K hK => ?_; simp only [go_sem, Nat.reduceEqDiff, reduceCtorEq, ↓reduceIte, Nat.reduceMul, Nat.reduceAdd, Nat.reduceLT, Nat.reduceLeDiff, Int.reduceLT, Int.reduceLE, Int.reduceToNat, Nat.reduceBEq, String.reduceNe, String.reduceEq, *]; (first | refine hK.go _ ?_ | refine ⟨by omega, hK.go _ ?_⟩ | refine ⟨by omega, by omega, hK.go _ ?_⟩ | refine ⟨by omega, by omega, by omega, hK.go _ ?_⟩); clear hK K)
            | (refine d_reg (by kernel_rfl) fun K hK => ?_; simp only [go_sem, Nat.reduceEqDiff, reduceCtorEq, ↓reduceIte, Nat.reduceMul, Nat.reduceAdd, Nat.reduceLT, Nat.reduceLeDiff, Int.reduceLT, Int.reduceLE, Int.reduceToNat, Nat.reduceBEq, String.reduceNe, String.reduceEq, *]; (first | refine hK.go _ ?_ | refine ⟨by omega, hK.go _ ?_⟩ | refine ⟨by omega, by omega, hK.go _ ?_⟩ | refine ⟨by omega, by omega, by omega, hK.go _ ?_⟩); clear hK K)
            | (refine d_scond true rfl (fun _ => ?_) (fun h => by cases h))
            | (refine d_scond false rfl (fun h => by cases h) (fun _ => ?_))
            | (refine d_cond true rfl (fun _ => ?_) (fun h => by cases h))
            | (refine d_cond false rfl (fun h => by cases h) (fun _ => ?_))
            | refine d_exit ?_
            | refine d_sexit ?_
            | refine d_ret ?_
            | refine d_sret ?_
            | refine d_skip ?_)
          repeat (first | simp only [thenD, blockD, Nat.reduceEqDiff, reduceCtorEq, ↓reduceIte] | refine Imp.go (by assumption) _ ?_)
          repeat (first
            | refine d_assoc ?_
            | refine d_sskip ?_
            | (refine d_sreg (by kernel_rfl) fun K hK => ?_; simp only [go_sem, Nat.reduceEqDiff, reduceCtorEq, ↓reduceIte, Nat.reduceMul, Nat.reduceAdd, Nat.reduceLT, Nat.reduceLeDiff, Int.reduceLT, Int.reduceLE, Int.reduceToNat, Nat.reduceBEq, String.reduceNe, String.reduceEq, *]; (first | refine hK.go _ ?_ | refine ⟨by omega, hK.go _ ?_⟩ | refine ⟨by omega, by omega, hK.go _ ?_⟩ | refine ⟨by omega, by omega, by omega, hK.go _ ?_⟩); clear hK K)
            | (refine d_reg (by kernel_rfl) fun K hK => ?_; simp only [go_sem, Nat.reduceEqDiff, reduceCtorEq, ↓reduceIte, Nat.reduceMul, Nat.reduceAdd, Nat.reduceLT, Nat.reduceLeDiff, Int.reduceLT, Int.reduceLE, Int.reduceToNat, Nat.reduceBEq, String.reduceNe, String.reduceEq, *]; (first | refine hK.go _ ?_ | refine ⟨by omega, hK.go _ ?_⟩ | refine ⟨by omega, by omega, hK.go _ ?_⟩ | refine ⟨by omega, by omega, by omega, hK.go _ ?_⟩); clear hK K)
            | (refine d_scond true rfl (fun _ => ?_) (fun h => by cases h))
            | (refine d_scond false rfl (fun h => by cases h) (fun _ => ?_))
            | (refine d_cond true rfl (fun _ => ?_) (fun h => by cases h))
            | (refine d_cond false rfl (fun h => by cases h) (fun _ => ?_))
            | refine d_exit ?_
            | refine d_sexit ?_
            | refine d_ret ?_
            | refine d_sret ?_
            | refine d_skip ?_)
          repeat (first | simp only [thenD, blockD, Nat.reduceEqDiff, reduceCtorEq, ↓reduceIte] | refine Imp.go (by assumption) _ ?_)
          refine ⟨⟨i + 1, _, by simp only [go_sem, Nat.reduceEqDiff, reduceCtorEq, ↓reduceIte, *], by simp only [go_sem, Nat.reduceEqDiff, reduceCtorEq, ↓reduceIte, *], by simp only [go_sem, Nat.reduceEqDiff, reduceCtorEq, ↓reduceIte, *], by simp only [go_sem, Nat.reduceEqDiff, reduceCtorEq, ↓reduceIte, *], by simp only [go_sem, Nat.reduceEqDiff, reduceCtorEq, ↓reduceIte, *], by simp only [go_sem, Nat.reduceEqDiff, reduceCtorEq, ↓reduceIte, *] <;> rfl, by simp only [go_sem, Nat.reduceEqDiff, reduceCtorEq, ↓reduceIte, *] <;> rfl, h1, h2, ?_, .inr ⟨by rw [hN.out]; simp, s4.gen 96, 0, by rw [hN.out, hz]; rfl, by simp only [go_sem, Nat.reduceEqDiff, reduceCtorEq, ↓reduceIte, *]⟩⟩, by simp only [go_sem, Nat.reduceEqDiff, reduceCtorEq, ↓reduceIte, *]; exact mlt h1⟩
          rcases hG with ⟨a, b⟩ | ⟨a, g, v, b, c⟩
          · exact .inl ⟨a, b⟩
          · exact .inr ⟨a, g, v, b, by simp only [go_sem, Nat.reduceEqDiff, reduceCtorEq, ↓reduceIte, *]⟩
        · skip
          refine d_reg (by kernel_rfl) fun K hK => ?_
          simp only [go_sem, Nat.reduceEqDiff, reduceCtorEq, ↓reduceIte, Nat.reduceMul, Nat.reduceAdd, Nat.reduceLT, Nat.reduceLeDiff, Int.reduceLT, Int.reduceLE, Int.reduceToNat, Nat.reduceBEq, String.reduceNe, String.reduceEq, *]
          refine ⟨⟨fun r hr => by obtain ⟨q, _, rfl⟩ := List.mem_map.1 hr; rfl, by omega⟩, hK.go _ ?_⟩; clear hK K
          repeat (first
            | refine d_assoc ?_
            | refine d_sskip ?_
            | (refine d_sreg (by kernel_rfl) fun K hK => ?_; simp only [go_sem, Nat.reduceEqDiff, reduceCtorEq, ↓reduceIte, Nat.reduceMul, Nat.reduceAdd, Nat.reduceLT, Nat.reduceLeDiff, Int.reduceLT, Int.reduceLE, Int.reduceToNat, Nat.reduceBEq, String.reduceNe, String.reduceEq, *]; (first | refine hK.go _ ?_ | refine ⟨by omega, hK.go _ ?_⟩ | refine ⟨by omega, by omega, hK.go _ ?_⟩ | refine ⟨by omega, by omega, by omega, hK.go _ ?_⟩); clear hK K)
            | (refine d_reg (by kernel_rfl) fun K hK => ?_; simp only [go_sem, Nat.reduceEqDiff, reduceCtorEq, ↓reduceIte, Nat.reduceMul, Nat.reduceAdd, Nat.reduceLT, Nat.reduceLeDiff, Int.reduceLT, Int.reduceLE, Int.reduceToNat, Nat.reduceBEq, String.reduceNe, String.reduceEq, *]; (first | refine hK.go _ ?_ | refine ⟨by omega, hK.go _ ?_⟩ | refine ⟨by omega, by omega, hK.go _ ?_⟩ | refine ⟨by omega, by omega, by omega, hK.go _ ?_⟩); clear hK K)
            | (refine d_scond true rfl (fun _ => ?_) (fun h => by cases h))
            | (refine d_scond false rfl (fun h => by cases h) (fun _ => ?_))
            | (refine d_cond true rfl (fun _ => ?_) (fun h => by cases h))
            | (refine d_cond false rfl (fun h => by cases h) (fun _ => ?_))
            | refine d_exit ?_
            | refine d_sexit ?_
            | refine d_ret ?_
            | refine d_sret ?_
            | refine d_skip ?_)
          repeat (first | simp only [thenD, blockD, Nat.reduceEqDiff, reduceCtorEq, ↓reduceIte] | refine Imp.go (by assumption) _ ?_)
          repeat (first
            | refine d_assoc ?_
            | refine d_sskip ?_
            | (refine d_sreg (by kernel_rfl) fun K hK => ?_; simp only [go_sem, Nat.reduceEqDiff, reduceCtorEq, ↓reduceIte, Nat.reduceMul, Nat.reduceAdd, Nat.reduceLT, Nat.reduceLeDiff, Int.reduceLT, Int.reduceLE, Int.reduceToNat, Nat.reduceBEq, String.reduceNe, String.reduceEq, *]; (first | refine hK.go _ ?_ | refine ⟨by omega, hK.go _ ?_⟩ | refine ⟨by omega, by omega, hK.go _ ?_⟩ | refine ⟨by omega, by omega, by omega, hK.go _ ?_⟩); clear hK K)
            | (refine d_reg (by kernel_rfl) fun K hK => ?_; simp only [go_sem, Nat.reduceEqDiff, reduceCtorEq, ↓reduceIte, Nat.reduceMul, Nat.reduceAdd, Nat.reduceLT, Nat.reduceLeDiff, Int.reduceLT, Int.reduceLE, Int.reduceToNat, Nat.reduceBEq, String.reduceNe, String.reduceEq, *]; (first | refine hK.go _ ?_ | refine ⟨by omega, hK.go _ ?_⟩ | refine ⟨by omega, by omega, hK.go _ ?_⟩ | refine ⟨by omega, by omega, by omega, hK.go _ ?_⟩); clear hK K)
            | (refine d_scond true rfl (fun _ => ?_) (fun h => by cases h))
            | (refine d_scond false rfl (fun h => by cases h) (fun _ => ?_))
            | (refine d_cond true rfl (fun _ => ?_) (fun h => by cases h))
            | (refine d_cond false rfl (fun h => by cases h) (fun _ => ?_))
            | refine d_exit ?_
            | refine d_sexit ?_
            | refine d_ret ?_
            | refine d_sret ?_
            | refine d_skip ?_)
          repeat (first | simp only [thenD, blockD, Nat.reduceEqDiff, reduceCtorEq, ↓reduceIte] | refine Imp.go (by assumption) _ ?_)
          refine ⟨⟨i + 1, _, by simp only [go_sem, Nat.reduceEqDiff, reduceCtorEq, ↓reduceIte, *], by simp only [go_sem, Nat.reduceEqDiff, reduceCtorEq, ↓reduceIte, *], by simp only [go_sem, Nat.reduceEqDiff, reduceCtorEq, ↓reduceIte, *], by simp only [go_sem, Nat.reduceEqDiff, reduceCtorEq, ↓reduceIte, *], by simp only [go_sem, Nat.reduceEqDiff, reduceCtorEq, ↓reduceIte, *], by simp only [go_sem, Nat.reduceEqDiff, reduceCtorEq, ↓reduceIte, *] <;> rfl, by simp only [go_sem, Nat.reduceEqDiff, reduceCtorEq, ↓reduceIte, *] <;> rfl, h1, h2, ?_, .inr ⟨by rw [hN.out]; simp, g, v + 1, by rw [hN.out]; rfl, by simp only [go_sem, Nat.reduceEqDiff, reduceCtorEq, ↓reduceIte, *]⟩⟩, by simp only [go_sem, Nat.reduceEqDiff, reduceCtorEq, ↓reduceIte, *]; exact mlt h1⟩
          rcases hG with ⟨a, b⟩ | ⟨a, g, v, b, c⟩
          · exact .inl ⟨a, b⟩
          · exact .inr ⟨a, g, v, b, by simp only [go_sem, Nat.reduceEqDiff, reduceCtorEq, ↓reduceIte, *]⟩
      · have hf : es.take i = es.take 30 := by rw [show i = 30 by omega]
        rw [hf] at hE
        have h2' : ¬ (i : Int) < 30 := by omega
        repeat (first
          | refine d_assoc ?_
          | refine d_sskip ?_
          | (refine d_sreg (by kernel_rfl) fun K hK => ?_; simp only [go_sem, Nat.reduceEqDiff, reduceCtorEq, ↓reduceIte, Nat.reduceMul, Nat.reduceAdd, Nat.reduceLT, Nat.reduceLeDiff, Int.reduceLT, Int.reduceLE, Int.reduceToNat, Nat.reduceBEq, String.reduceNe, String.reduceEq, *]; (first | refine hK.go _ ?_ | refine ⟨by omega, hK.go _ ?_⟩ | refine ⟨by omega, by omega, hK.go _ ?_⟩ | refine ⟨by omega, by omega, by omega, hK.go _ ?_⟩); clear hK K)
          | (refine d_reg (by kernel_rfl) fun K hK => ?_; simp only [go_sem, Nat.reduceEqDiff, reduceCtorEq, ↓reduceIte, Nat.reduceMul, Nat.reduceAdd, Nat.reduceLT, Nat.reduceLeDiff, Int.reduceLT, Int.reduceLE, Int.reduceToNat, Nat.reduceBEq, String.reduceNe, String.reduceEq, *]; (first | refine hK.go _ ?_ | refine ⟨by omega, hK.go _ ?_⟩ | refine ⟨by omega, by omega, hK.go _ ?_⟩ | refine ⟨by omega, by omega, by omega, hK.go _ ?_⟩); clear hK K)
          | (refine d_scond true rfl (fun _ => ?_) (fun h => by cases h))
          | (refine d_scond false rfl (fun h => by cases h) (fun _ => ?_))
          | (refine d_cond true rfl (fun _ => ?_) (fun h => by cases h))
          | (refine d_cond false rfl (fun h => by cases h) (fun _ => ?_))
          | refine d_exit ?_
          | refine d_sexit ?_
          | refine d_ret ?_
          | refine d_sret ?_
          | refine d_skip ?_)
        repeat (first | simp only [thenD, blockD, Nat.reduceEqDiff, reduceCtorEq, ↓reduceIte] | refine Imp.go (by assumption) _ ?_)
        rcases hG with ⟨hz, rfl⟩ | ⟨hz, g, v, rfl, htn⟩
        · rcases hE with ⟨hy, rfl⟩ | ⟨hy, g', v', rfl, hte⟩
          · skip
            repeat (first
              | refine d_assoc ?_
              | refine d_sskip ?_
              | (refine d_sreg (by kernel_rfl) fun K hK => ?_; simp only [go_sem, Nat.reduceEqDiff, reduceCtorEq, ↓reduceIte, Nat.reduceMul, Nat.reduceAdd, Nat.reduceLT, Nat.reduceLeDiff, Int.reduceLT, Int.reduceLE, Int.reduceToNat, Nat.reduceBEq, String.reduceNe, String.reduceEq, *]; (first | refine hK.go _ ?_ | refine ⟨by omega, hK.go _ ?_⟩ | refine ⟨by omega, by omega, hK.go _ ?_⟩ | refine ⟨by omega, by omega, by omega, hK.go _ ?_⟩); clear hK K)
              | (refine d_reg (by kernel_rfl) fun K hK => ?_; simp only [go_sem, Nat.reduceEqDiff, reduceCtorEq, ↓reduceIte, Nat.reduceMul, Nat.reduceAdd, Nat.reduceLT, Nat.reduceLeDiff, Int.reduceLT, Int.reduceLE, Int.reduceToNat, Nat.reduceBEq, String.reduceNe, String.reduceEq, *]; (first | refine hK.go _ ?_ | refine ⟨by omega, hK.go _ ?_⟩ | refine ⟨by omega, by omega, hK.go _ ?_⟩ | refine ⟨by omega, by omega, by omega, hK.go _ ?_⟩); clear hK K)
              | (refine d_scond true rfl (fun _ => ?_) (fun h => by cases h))
              | (refine d_scond false rfl (fun h => by cases h) (fun _ => ?_))
              | (refine d_cond true rfl (fun _ => ?_) (fun h => by cases h))
              | (refine d_cond false rfl (fun h => by cases h) (fun _ => ?_))
              | refine d_exit ?_
              | refine d_sexit ?_
              | refine d_ret ?_
              | refine d_sret ?_
              | refine d_skip ?_)
            exact finc (k := (2, g2)) (off := 0) (cells := [.raw (.slice none 0 0), .raw (.slice none 0 0)]) (.inr rfl) Tryd.results32 (by simp only [go_sem, Nat.reduceEqDiff, reduceCtorEq, ↓reduceIte, *] <;> rfl) ti_51 (by simp only [go_sem, Nat.reduceEqDiff, reduceCtorEq, ↓reduceIte, *] <;> rfl) rfl (by show _ = DV.agg [DV.sl (((ns.take 10).map fewN).map rowN), DV.sl (((es.take 30).map fewE).map rowE)]; rw [hz, hy]; rfl) rfl
          · skip
            repeat (first
              | refine d_assoc ?_
              | refine d_sskip ?_
              | (refine d_sreg (by kernel_rfl) fun K hK => ?_; simp only [go_sem, Nat.reduceEqDiff, reduceCtorEq, ↓reduceIte, Nat.reduceMul, Nat.reduceAdd, Nat.reduceLT, Nat.reduceLeDiff, Int.reduceLT, Int.reduceLE, Int.reduceToNat, Nat.reduceBEq, String.reduceNe, String.reduceEq, *]; (first | refine hK.go _ ?_ | refine ⟨by omega, hK.go _ ?_⟩ | refine ⟨by omega, by omega, hK.go _ ?_⟩ | refine ⟨by omega, by omega, by omega, hK.go _ ?_⟩); clear hK K)
              | (refine d_reg (by kernel_rfl) fun K hK => ?_; simp only [go_sem, Nat.reduceEqDiff, reduceCtorEq, ↓reduceIte, Nat.reduceMul, Nat.reduceAdd, Nat.reduceLT, Nat.reduceLeDiff, Int.reduceLT, Int.reduceLE, Int.reduceToNat, Nat.reduceBEq, String.reduceNe, String.reduceEq, *]; (first | refine hK.go _ ?_ | refine ⟨by omega, hK.go _ ?_⟩ | refine ⟨by omega, by omega, hK.go _ ?_⟩ | refine ⟨by omega, by omega, by omega, hK.go _ ?_⟩); clear hK K)
              | (refine d_scond true rfl (fun _ => ?_) (fun h => by cases h))
              | (refine d_scond false rfl (fun h => by cases h) (fun _ => ?_))
              | (refine d_cond true rfl (fun _ => ?_) (fun h => by cases h))
              | (refine d_cond false rfl (fun h => by cases h) (fun _ => ?_))
              | refine d_exit ?_
              | refine d_sexit ?_
              | refine d_ret ?_
              | refine d_sret ?_
              | refine d_skip ?_)
            exact finc (k := (2, g2)) (off := 0) (cells := [.raw (.slice none 0 0), .own (96, g') v' (((es.take 30).map fewE).map rowE)]) (.inr rfl) Tryd.results32 (by simp only [go_sem, Nat.reduceEqDiff, reduceCtorEq, ↓reduceIte, *] <;> rfl) ti_51 (by simp only [go_sem, Nat.reduceEqDiff, reduceCtorEq, ↓reduceIte, *] <;> rfl) rfl (by show _ = DV.agg [DV.sl (((ns.take 10).map fewN).map rowN), DV.sl (((es.take 30).map fewE).map rowE)]; rw [hz]; rfl) rfl
        · rcases hE with ⟨hy, rfl⟩ | ⟨hy, g', v', rfl, hte⟩
          · skip
            repeat (first
              | refine d_assoc ?_
              | refine d_sskip ?_
              | (refine d_sreg (by kernel_rfl) fun K hK => ?_; simp only [go_sem, Nat.reduceEqDiff, reduceCtorEq, ↓reduceIte, Nat.reduceMul, Nat.reduceAdd, Nat.reduceLT, Nat.reduceLeDiff, Int.reduceLT, Int.reduceLE, Int.reduceToNat, Nat.reduceBEq, String.reduceNe, String.reduceEq, *]; (first | refine hK.go _ ?_ | refine ⟨by omega, hK.go _ ?_⟩ | refine ⟨by omega, by omega, hK.go _ ?_⟩ | refine ⟨by omega, by omega, by omega, hK.go _ ?_⟩); clear hK K)
              | (refine d_reg (by kernel_rfl) fun K hK => ?_; simp only [go_sem, Nat.reduceEqDiff, reduceCtorEq, ↓reduceIte, Nat.reduceMul, Nat.reduceAdd, Nat.reduceLT, Nat.reduceLeDiff, Int.reduceLT, Int.reduceLE, Int.reduceToNat, Nat.reduceBEq, String.reduceNe, String.reduceEq, *]; (first | refine hK.go _ ?_ | refine ⟨by omega, hK.go _ ?_⟩ | refine ⟨by omega, by omega, hK.go _ ?_⟩ | refine ⟨by omega, by omega, by omega, hK.go _ ?_⟩); clear hK K)
              | (refine d_scond true rfl (fun _ => ?_) (fun h => by cases h))
              | (refine d_scond false rfl (fun h => by cases h) (fun _ => ?_))
              | (refine d_cond true rfl (fun _ => ?_) (fun h => by cases h))
              | (refine d_cond false rfl (fun h => by cases h) (fun _ => ?_))
              | refine d_exit ?_
              | refine d_sexit ?_
              | refine d_ret ?_
              | refine d_sret ?_
              | refine d_skip ?_)
            exact finc (k := (2, g2)) (off := 0) (cells := [.own (70, g) v (((ns.take 10).map fewN).map rowN), .raw (.slice none 0 0)]) (.inr rfl) Tryd.results32 (by simp only [go_sem, Nat.reduceEqDiff, reduceCtorEq, ↓reduceIte, *] <;> rfl) ti_51 (by simp only [go_sem, Nat.reduceEqDiff, reduceCtorEq, ↓reduceIte, *] <;> rfl) rfl (by show _ = DV.agg [DV.sl (((ns.take 10).map fewN).map rowN), DV.sl (((es.take 30).map fewE).map rowE)]; rw [hy]; rfl) rfl
          · skip
            repeat (first
              | refine d_assoc ?_
              | refine d_sskip ?_
              | (refine d_sreg (by kernel_rfl) fun K hK => ?_; simp only [go_sem, Nat.reduceEqDiff, reduceCtorEq, ↓reduceIte, Nat.reduceMul, Nat.reduceAdd, Nat.reduceLT, Nat.reduceLeDiff, Int.reduceLT, Int.reduceLE, Int.reduceToNat, Nat.reduceBEq, String.reduceNe, String.reduceEq, *]; (first | refine hK.go _ ?_ | refine ⟨by omega, hK.go _ ?_⟩ | refine ⟨by omega, by omega, hK.go _ ?_⟩ | refine ⟨by omega, by omega, by omega, hK.go _ ?_⟩); clear hK K)
              | (refine d_reg (by kernel_rfl) fun K hK => ?_; simp only [go_sem, Nat.reduceEqDiff, reduceCtorEq, ↓reduceIte, Nat.reduceMul, Nat.reduceAdd, Nat.reduceLT, Nat.reduceLeDiff, Int.reduceLT, Int.reduceLE, Int.reduceToNat, Nat.reduceBEq, String.reduceNe, String.reduceEq, *]; (first | refine hK.go _ ?_ | refine ⟨by omega, hK.go _ ?_⟩ | refine ⟨by omega, by omega, hK.go _ ?_⟩ | refine ⟨by omega, by omega, by omega, hK.go _ ?_⟩); clear hK K)
              | (refine d_scond true rfl (fun _ => ?_) (fun h => by cases h))
              | (refine d_scond false rfl (fun h => by cases h) (fun _ => ?_))
              | (refine d_cond true rfl (fun _ => ?_) (fun h => by cases h))
              | (refine d_cond false rfl (fun h => by cases h) (fun _ => ?_))
              | refine d_exit ?_
              | refine d_sexit ?_
              | refine d_ret ?_
              | refine d_sret ?_
              | refine d_skip ?_)
            exact finc (k := (2, g2)) (off := 0) (cells := [.own (70, g) v (((ns.take 10).map fewN).map rowN), .own (96, g') v' (((es.take 30).map fewE).map rowE)]) (.inr rfl) Tryd.results32 (by simp only [go_sem, Nat.reduceEqDiff, reduceCtorEq, ↓reduceIte, *] <;> rfl) ti_51 (by simp only [go_sem, Nat.reduceEqDiff, reduceCtorEq, ↓reduceIte, *] <;> rfl) rfl (rfl) rfl
    · have hf : es.take i = es.take 30 := by rw [List.take_of_length_le (by omega), List.take_of_length_le (by omega)]
      rw [hf] at hE
      repeat (first
        | refine d_assoc ?_
        | refine d_sskip ?_
        | (refine d_sreg (by kernel_rfl) fun K hK => ?_; simp only [go_sem, Nat.reduceEqDiff, reduceCtorEq, ↓reduceIte, Nat.reduceMul, Nat.reduceAdd, Nat.reduceLT, Nat.reduceLeDiff, Int.reduceLT, Int.reduceLE, Int.reduceToNat, Nat.reduceBEq, String.reduceNe, String.reduceEq, *]; (first | refine hK.go _ ?_ | refine ⟨by omega, hK.go _ ?_⟩ | refine ⟨by omega, by omega, hK.go _ ?_⟩ | refine ⟨by omega, by omega, by omega, hK.go _ ?_⟩); clear hK K)
        | (refine d_reg (by kernel_rfl) fun K hK => ?_; simp only [go_sem, Nat.reduceEqDiff, reduceCtorEq, ↓reduceIte, Nat.reduceMul, Nat.reduceAdd, Nat.reduceLT, Nat.reduceLeDiff, Int.reduceLT, Int.reduceLE, Int.reduceToNat, Nat.reduceBEq, String.reduceNe, String.reduceEq, *]; (first | refine hK.go _ ?_ | refine ⟨by omega, hK.go _ ?_⟩ | refine ⟨by omega, by omega, hK.go _ ?_⟩ | refine ⟨by omega, by omega, by omega, hK.go _ ?_⟩); clear hK K)
        | (refine d_scond true rfl (fun _ => ?_) (fun h => by cases h))
        | (refine d_scond false rfl (fun h => by cases h) (fun _ => ?_))
        | (refine d_cond true rfl (fun _ => ?_) (fun h => by cases h))
        | (refine d_cond false rfl (fun h => by cases h) (fun _ => ?_))
        | refine d_exit ?_
        | refine d_sexit ?_
        | refine d_ret ?_
        | refine d_sret ?_
        | refine d_skip ?_)
      repeat (first | simp only [thenD, blockD, Nat.reduceEqDiff, reduceCtorEq, ↓reduceIte] | refine Imp.go (by assumption) _ ?_)
      rcases hG with ⟨hz, rfl⟩ | ⟨hz, g, v, rfl, htn⟩
      · rcases hE with ⟨hy, rfl⟩ | ⟨hy, g', v', rfl, hte⟩
        · skip
          repeat (first
            | refine d_assoc ?_
            | refine d_sskip ?_
            | (refine d_sreg (by kernel_rfl) fun K hK => ?_; simp only [go_sem, Nat.reduceEqDiff, reduceCtorEq, ↓reduceIte, Nat.reduceMul, Nat.reduceAdd, Nat.reduceLT, Nat.reduceLeDiff, Int.reduceLT, Int.reduceLE, Int.reduceToNat, Nat.reduceBEq, String.reduceNe, String.reduceEq, *]; (first | refine hK.go _ ?_ | refine ⟨by omega, hK.go _ ?_⟩ | refine ⟨by omega, by omega, hK.go _ ?_⟩ | refine ⟨by omega, by omega, by omega, hK.go _ ?_⟩); clear hK K)
            | (refine d_reg (by kernel_rfl) fun K hK => ?_; simp only [go_sem, Nat.reduceEqDiff, reduceCtorEq, ↓reduceIte, Nat.reduceMul, Nat.reduceAdd, Nat.reduceLT, Nat.reduceLeDiff, Int.reduceLT, Int.reduceLE, Int.reduceToNat, Nat.reduceBEq, String.reduceNe, String.reduceEq, *]; (first | refine hK.go _ ?_ | refine ⟨by omega, hK.go _ ?_⟩ | refine ⟨by omega, by omega, hK.go _ ?_⟩ | refine ⟨by omega, by omega, by omega, hK.go _ ?_⟩); clear hK K)
            | (refine d_scond true rfl (fun _ => ?_) (fun h => by cases h))
            | (refine d_scond false rfl (fun h => by cases h) (fun _ => ?_))
            | (refine d_cond true rfl (fun _ => ?_) (fun h => by cases h))
            | (refine d_cond false rfl (fun h => by cases h) (fun _ => ?_))
            | refine d_exit ?_
            | refine d_sexit ?_
            | refine d_ret ?_
            | refine d_sret ?_
            | refine d_skip ?_)
          exact finc (k := (2, g2)) (off := 0) (cells := [.raw (.slice none 0 0), .raw (.slice none 0 0)]) (.inr rfl) Tryd.results32 (by simp only [go_sem, Nat.reduceEqDiff, reduceCtorEq, ↓reduceIte, *] <;> rfl) ti_51 (by simp only [go_sem, Nat.reduceEqDiff, reduceCtorEq, ↓reduceIte, *] <;> rfl) rfl (by show _ = DV.agg [DV.sl (((ns.take 10).map fewN).map rowN), DV.sl (((es.take 30).map fewE).map rowE)]; rw [hz, hy]; rfl) rfl
        · skip
          repeat (first
            | refine d_assoc ?_
            | refine d_sskip ?_
            | (refine d_sreg (by kernel_rfl) fun K hK => ?_; simp only [go_sem, Nat.reduceEqDiff, reduceCtorEq, ↓reduceIte, Nat.reduceMul, Nat.reduceAdd, Nat.reduceLT, Nat.reduceLeDiff, Int.reduceLT, Int.reduceLE, Int.reduceToNat, Nat.reduceBEq, String.reduceNe, String.reduceEq, *]; (first | refine hK.go _ ?_ | refine ⟨by omega, hK.go _ ?_⟩ | refine ⟨by omega, by omega, hK.go _ ?_⟩ | refine ⟨by omega, by omega, by omega, hK.go _ ?_⟩); clear hK K)
            | (refine d_reg (by kernel_rfl) fun K hK => ?_; simp only [go_sem, Nat.reduceEqDiff, reduceCtorEq, ↓reduceIte, Nat.reduceMul, Nat.reduceAdd, Nat.reduceLT, Nat.reduceLeDiff, Int.reduceLT, Int.reduceLE, Int.reduceToNat, Nat.reduceBEq, String.reduceNe, String.reduceEq, *]; (first | refine hK.go _ ?_ | refine ⟨by omega, hK.go _ ?_⟩ | refine ⟨by omega, by omega, hK.go _ ?_⟩ | refine ⟨by omega, by omega, by omega, hK.go _ ?_⟩); clear hK K)
            | (refine d_scond true rfl (fun _ => ?_) (fun h => by cases h))
            | (refine d_scond false rfl (fun h => by cases h) (fun _ => ?_))
            | (refine d_cond true rfl (fun _ => ?_) (fun h => by cases h))
            | (refine d_cond false rfl (fun h => by cases h) (fun _ => ?_))
            | refine d_exit ?_
            | refine d_sexit ?_
            | refine d_ret ?_
            | refine d_sret ?_
            | refine d_skip ?_)
          exact finc (k := (2, g2)) (off := 0) (cells := [.raw (.slice none 0 0), .own (96, g') v' (((es.take 30).map fewE).map rowE)]) (.inr rfl) Tryd.results32 (by simp only [go_sem, Nat.reduceEqDiff, reduceCtorEq, ↓reduceIte, *] <;> rfl) ti_51 (by simp only [go_sem, Nat.reduceEqDiff, reduceCtorEq, ↓reduceIte, *] <;> rfl) rfl (by show _ = DV.agg [DV.sl (((ns.take 10).map fewN).map rowN), DV.sl (((es.take 30).map fewE).map rowE)]; rw [hz]; rfl) rfl
      · rcases hE with ⟨hy, rfl⟩ | ⟨hy, g', v', rfl, hte⟩
        · skip
          repeat (first
            | refine d_assoc ?_
            | refine d_sskip ?_
            | (refine d_sreg (by kernel_rfl) fun K hK => ?_; simp only [go_sem, Nat.reduceEqDiff, reduceCtorEq, ↓reduceIte, Nat.reduceMul, Nat.reduceAdd, Nat.reduceLT, Nat.reduceLeDiff, Int.reduceLT, Int.reduceLE, Int.reduceToNat, Nat.reduceBEq, String.reduceNe, String.reduceEq, *]; (first | refine hK.go _ ?_ | refine ⟨by omega, hK.go _ ?_⟩ | refine ⟨by omega, by omega, hK.go _ ?_⟩ | refine ⟨by omega, by omega, by omega, hK.go _ ?_⟩); clear hK K)
            | (refine d_reg (by kernel_rfl) fun K hK => ?_; simp only [go_sem, Nat.reduceEqDiff, reduceCtorEq, ↓reduceIte, Nat.reduceMul, Nat.reduceAdd, Nat.reduceLT, Nat.reduceLeDiff, Int.reduceLT, Int.reduceLE, Int.reduceToNat, Nat.reduceBEq, String.reduceNe, String.reduceEq, *]; (first | refine hK.go _ ?_ | refine ⟨by omega, hK.go _ ?_⟩ | refine ⟨by omega, by omega, hK.go _ ?_⟩ | refine ⟨by omega, by omega, by omega, hK.go _ ?_⟩); clear hK K)
            | (refine d_scond true rfl (fun _ => ?_) (fun h => by cases h))
            | (refine d_scond false rfl (fun h => by cases h) (fun _ => ?_))
            | (refine d_cond true rfl (fun _ => ?_) (fun h => by cases h))
            | (refine d_cond false rfl (fun h => by cases h) (fun _ => ?_))
            | refine d_exit ?_
            | refine d_sexit ?_
            | refine d_ret ?_
            | refine d_sret ?_
            | refine d_skip ?_)
          exact finc (k := (2, g2)) (off := 0) (cells := [.own (70, g) v (((ns.take 10).map fewN).map rowN), .raw (.slice none 0 0)]) (.inr rfl) Tryd.results32 (by simp only [go_sem, Nat.reduceEqDiff, reduceCtorEq, ↓reduceIte, *] <;> rfl) ti_51 (by simp only [go_sem, Nat.reduceEqDiff, reduceCtorEq, ↓reduceIte, *] <;> rfl) rfl (by show _ = DV.agg [DV.sl (((ns.take 10).map fewN).map rowN), DV.sl (((es.take 30).map fewE).map rowE)]; rw [hy]; rfl) rfl
        · skip
          repeat (first
            | refine d_assoc ?_
            | refine d_sskip ?_
            | (refine d_sreg (by kernel_rfl) fun K hK => ?_; simp only [go_sem, Nat.reduceEqDiff, reduceCtorEq, ↓reduceIte, Nat.reduceMul, Nat.reduceAdd, Nat.reduceLT, Nat.reduceLeDiff, Int.reduceLT, Int.reduceLE, Int.reduceToNat, Nat.reduceBEq, String.reduceNe, String.reduceEq, *]; (first | refine hK.go _ ?_ | refine ⟨by omega, hK.go _ ?_⟩ | refine ⟨by omega, by omega, hK.go _ ?_⟩ | refine ⟨by omega, by omega, by omega, hK.go _ ?_⟩); clear hK K)
            | (refine d_reg (by kernel_rfl) fun K hK => ?_; simp only [go_sem, Nat.reduceEqDiff, reduceCtorEq, ↓reduceIte, Nat.reduceMul, Nat.reduceAdd, Nat.reduceLT, Nat.reduceLeDiff, Int.reduceLT, Int.reduceLE, Int.reduceToNat, Nat.reduceBEq, String.reduceNe, String.reduceEq, *]; (first | refine hK.go _ ?_ | refine ⟨by omega, hK.go _ ?_⟩ | refine ⟨by omega, by omega, hK.go _ ?_⟩ | refine ⟨by omega, by omega, by omega, hK.go _ ?_⟩); clear hK K)
            | (refine d_scond true rfl (fun _ => ?_) (fun h => by cases h))
            | (refine d_scond false rfl (fun h => by cases h) (fun _ => ?_))
            | (refine d_cond true rfl (fun _ => ?_) (fun h => by cases h))
            | (refine d_cond false rfl (fun h => by cases h) (fun _ => ?_))
            | refine d_exit ?_
            | refine d_sexit ?_
            | refine d_ret ?_
            | refine d_sret ?_
            | refine d_skip ?_)
          exact finc (k := (2, g2)) (off := 0) (cells := [.own (70, g) v (((ns.take 10).map fewN).map rowN), .own (96, g') v' (((es.take 30).map fewE).map rowE)]) (.inr rfl) Tryd.results32 (by simp only [go_sem, Nat.reduceEqDiff, reduceCtorEq, ↓reduceIte, *] <;> rfl) ti_51 (by simp only [go_sem, Nat.reduceEqDiff, reduceCtorEq, ↓reduceIte, *] <;> rfl) rfl (rfl) rfl
  refine d_block fun K hK => ?_
  refine d_loop (fun s => ∃ (i g1 g2 g3 : Nat) (fN : DV) (c2 : List DV), s.env 1 = .ref (1, g1) 0 ∧ s.heap (1, g1) = some [.sl (ns.map rowN), .sl (es.map rowE)] ∧ s.env 2 = .ref (2, g2) 0 ∧ s.heap (2, g2) = some c2 ∧ c2.length = 2 ∧ s.env 3 = .ref (3, g3) 0 ∧ s.heap (3, g3) = some [fN, .raw (.slice none 0 0)] ∧ s.env 4 = iv .i64 i ∧ i ≤ ns.length ∧ i ≤ 10 ∧ Grw s 70 58 fN (((ns.take i).map fewN).map rowN)) (fun s => ns.length - idx (s.env 4)) ?_ ?_
  · refine ⟨0, s.gen 1, s.gen 2, s.gen 3, _, _, by simp only [go_sem, Nat.reduceEqDiff, reduceCtorEq, ↓reduceIte, *], by simp only [go_sem, Nat.reduceEqDiff, reduceCtorEq, ↓reduceIte, *], by simp only [go_sem, Nat.reduceEqDiff, reduceCtorEq, ↓reduceIte, *], by simp only [go_sem, Nat.reduceEqDiff, reduceCtorEq, ↓reduceIte, *] <;> rfl, rfl, by simp only [go_sem, Nat.reduceEqDiff, reduceCtorEq, ↓reduceIte, *], by simp only [go_sem, Nat.reduceEqDiff, reduceCtorEq, ↓reduceIte, *] <;> rfl, by simp only [go_sem, Nat.reduceEqDiff, reduceCtorEq, ↓reduceIte, *] <;> rfl, Nat.zero_le _, Nat.zero_le _, .inl ⟨rfl, rfl⟩⟩
  clear e0
  rintro s1 K1 ⟨i, g1, g2, g3, fN, c2, e1, eh1, e2, eh2, hc2, e3, eh3, e4, hi, him, hG⟩ hK1
  have hw := wi i (by omega)
  have hcut : ∀ l, FnD Tryd.prog 10 [sv l, iv .i64 35] (sv (l.take 35)) := fun l => cut_fn l 35
  by_cases h1 : i < ns.length
  · by_cases h2 : i < 10
    · have h2' : (i : Int) < 10 := by omega
      repeat (first
        | refine d_assoc ?_
        | refine d_sskip ?_
        | (refine d_sreg (by kernel_rfl) fun K hK => ?_; simp only [go_sem, Nat.reduceEqDiff, reduceCtorEq, ↓reduceIte, Nat.reduceMul, Nat.reduceAdd, Nat.reduceLT, Nat.reduceLeDiff, Int.reduceLT, Int.reduceLE, Int.reduceToNat, Nat.reduceBEq, String.reduceNe, String.reduceEq, *]; (first | refine hK.go _ ?_ | refine ⟨by omega, hK.go _ ?_⟩ | refine ⟨by omega, by omega, hK.go _ ?_⟩ | refine ⟨by omega, by omega, by omega, hK.go _ ?_⟩); clear hK K)
        | (refine d_reg (by kernel_rfl) fun K hK => ?_; simp only [go_sem, Nat.reduceEqDiff, reduceCtorEq, ↓reduceIte, Nat.reduceMul, Nat.reduceAdd, Nat.reduceLT, Nat.reduceLeDiff, Int.reduceLT, Int.reduceLE, Int.reduceToNat, Nat.reduceBEq, String.reduceNe, String.reduceEq, *]; (first | refine hK.go _ ?_ | refine ⟨by omega, hK.go _ ?_⟩ | refine ⟨by omega, by omega, hK.go _ ?_⟩ | refine ⟨by omega, by omega, by omega, hK.go _ ?_⟩); clear hK K)
        | (refine d_scond true rfl (fun _ => ?_) (fun h => by cases h))
        | (refine d_scond false rfl (fun h => by cases h) (fun _ => ?_))
        | (refine d_cond true rfl (fun _ => ?_) (fun h => by cases h))
        | (refine d_cond false rfl (fun h => by cases h) (fun _ => ?_))
        | refine d_exit ?_
        | refine d_sexit ?_
        | refine d_ret ?_
        | refine d_sret ?_
        | refine d_skip ?_)
      refine d_sblock fun K2 hK2 => ?_
      have hc1 := hcut (nth ns i).label
      refine d_sreg (by kernel_rfl) fun K hK => ?_
      simp only [go_sem, Nat.reduceEqDiff, reduceCtorEq, ↓reduceIte, Nat.reduceMul, Nat.reduceAdd, Nat.reduceLT, Nat.reduceLeDiff, Int.reduceLT, Int.reduceLE, Int.reduceToNat, Nat.reduceBEq, String.reduceNe, String.reduceEq, *]
      rw [if_pos (by rfl)]
      refine wp_call (xs := [sv (nth ns i).label, iv .i64 35]) (b := false) (by rfl) hc1 (.inl rfl) ?_
      simp only [go_sem, Nat.reduceEqDiff, reduceCtorEq, ↓reduceIte, Nat.reduceMul, Nat.reduceAdd, Nat.reduceLT, Nat.reduceLeDiff, Int.reduceLT, Int.reduceLE, Int.reduceToNat, Nat.reduceBEq, String.reduceNe, String.reduceEq, *]
      (first | refine hK.go _ ?_ | refine ⟨by omega, hK.go _ ?_⟩ | refine ⟨by omega, by omega, hK.go _ ?_⟩); clear hK K
      repeat (first
        | refine d_assoc ?_
        | refine d_sskip ?_
        | (refine d_sreg (by kernel_rfl) fun K hK => ?_; simp only [go_sem, Nat.reduceEqDiff, reduceCtorEq, ↓reduceIte, Nat.reduceMul, Nat.reduceAdd, Nat.reduceLT, Nat.reduceLeDiff, Int.reduceLT, Int.reduceLE, Int.reduceToNat, Nat.reduceBEq, String.reduceNe, String.reduceEq, *]; (first | refine hK.go _ ?_ | refine ⟨by omega, hK.go _ ?_⟩ | refine ⟨by omega, by omega, hK.go _ ?_⟩ | refine ⟨by omega, by omega, by omega, hK.go _ ?_⟩); clear hK K)
        | (refine d_reg (by kernel_rfl) fun K hK => ?_; simp only [go_sem, Nat.reduceEqDiff, reduceCtorEq, ↓reduceIte, Nat.reduceMul, Nat.reduceAdd, Nat.reduceLT, Nat.reduceLeDiff, Int.reduceLT, Int.reduceLE, Int.reduceToNat, Nat.reduceBEq, String.reduceNe, String.reduceEq, *]; (first | refine hK.go _ ?_ | refine ⟨by omega, hK.go _ ?_⟩ | refine ⟨by omega, by omega, hK.go _ ?_⟩ | refine ⟨by omega, by omega, by omega, hK.go _ ?_⟩); clear hK K)
        | (refine d_scond true rfl (fun _ => ?_) (fun h => by cases h))
        | (refine d_scond false rfl (fun h => by cases h) (fun _ => ?_))
        | (refine d_cond true rfl (fun _ => ?_) (fun h => by cases h))
        | (refine d_cond false rfl (fun h => by cases h) (fun _ => ?_))
        | refine d_exit ?_
        | refine d_sexit ?_
        | refine d_ret ?_
        | refine d_sret ?_
        | refine d_skip ?_)
      have hmu : idx (s1.env 4) = i := by rw [e4]; rfl
      refine d_cut (fun s => ∃ (g5 : Nat) (fP : DV), s.env 1 = .ref (1, g1) 0 ∧ s.heap (1, g1) = some [.sl (ns.map rowN), .sl (es.map rowE)] ∧ s.env 2 = .ref (2, g2) 0 ∧ s.heap (2, g2) = some c2 ∧ s.env 3 = .ref (3, g3) 0 ∧ s.heap (3, g3) = some [fN, .raw (.slice none 0 0)] ∧ s.env 4 = iv .i64 i ∧ s.env 5 = .ref (5, g5) 0 ∧ s.heap (5, g5) = some [sv ((nth ns i).label.take 35), fP] ∧ Grw s 70 58 fN (((ns.take i).map fewN).map rowN) ∧ Grw s 64 80 fP ((((nth ns i).props.take 10).map fewP).map rowP)) ?_ ?_
      · clear e1 eh1 e2 eh2 e3 eh3 e4 hG hc1
        rintro s5 ⟨g5, fP, e1, eh1, e2, eh2, e3, eh3, e4, e5, eh5, hG, hP⟩
        have hN := Sec.mk (stepN ns i h1)
        have hlN : (ns.take i).length ≤ 10 := by rw [List.length_take]; omega
        rcases hP with ⟨hr, rfl⟩ | ⟨hne, gp, vp, rfl, htp⟩
        · skip
          have hrow := Sec.mk (show rowN (fewN (nth ns i)) = [sv ((nth ns i).label.take 35), .sl []] by show [_, DV.sl _] = _; exact congrArg (fun l => [sv ((nth ns i).label.take 35), DV.sl l]) hr)
          rcases hG with ⟨hz, rfl⟩ | ⟨hz, g, v, rfl, htn⟩
          · skip
            repeat (first
              | refine d_assoc ?_
              | refine d_sskip ?_
              | (refine d_sreg (by kernel_rfl) fun K hK => ?_; simp only [go_sem, Nat.reduceEqDiff, reduceCtorEq, ↓reduceIte, Nat.reduceMul, Nat.reduceAdd, Nat.reduceLT, Nat.reduceLeDiff, Int.reduceLT, Int.reduceLE, Int.reduceToNat, Nat.reduceBEq, String.reduceNe, String.reduceEq, *]; (first | refine hK.go _ ?_ | refine ⟨by omega, hK.go _ ?_⟩ | refine ⟨by omega, by omega, hK.go _ ?_⟩ | refine ⟨by omega, by omega, by omega, hK.go _ ?_⟩); clear hK K)
              | (refine d_reg (by kernel_rfl) fun K hK => ?_; simp only [go_sem, Nat.reduceEqDiff, reduceCtorEq, ↓reduceIte, Nat.reduceMul, Nat.reduceAdd, Nat.reduceLT, Nat.reduceLeDiff, Int.reduceLT, Int.reduceLE, Int.reduceToNat, Nat.reduceBEq, String.reduceNe, String.reduceEq, *]; (first | refine hK.go _ ?_ | refine ⟨by omega, hK.go _ ?_⟩ | refine ⟨by omega, by omega, hK.go _ ?_⟩ | refine ⟨by omega, by omega, by omega, hK.go _ ?_⟩); clear hK K)
              | (refine d_scond true rfl (fun _ => ?_) (fun h => by cases h))
              | (refine d_scond false rfl (fun h => by cases h) (fun _ => ?_))
              | (refine d_cond true rfl (fun _ => ?_) (fun h => by cases h))
              | (refine d_cond false rfl (fun h => by cases h) (fun _ => ?_))
              | refine d_exit ?_
              | refine d_sexit ?_
              | refine d_ret ?_
              | refine d_sret ?_
              | refine d_skip ?_)
            repeat (first | simp only [thenD, blockD, Nat.reduceEqDiff, reduceCtorEq, ↓reduceIte] | refine Imp.go (by assumption) _ ?_)
            repeat (first
              | refine d_assoc ?_
              | refine d_sskip ?_
              | (refine d_sreg (by kernel_rfl) fun K hK => ?_; simp only [go_sem, Nat.reduceEqDiff, reduceCtorEq, ↓reduceIte, Nat.reduceMul, Nat.reduceAdd, Nat.reduceLT, Nat.reduceLeDiff, Int.reduceLT, Int.reduceLE, Int.reduceToNat, Nat.reduceBEq, String.reduceNe, String.reduceEq, *]; (first | refine hK.go _ ?_ | refine ⟨by omega, hK.go _ ?_⟩ | refine ⟨by omega, by omega, hK.go _ ?_⟩ | refine ⟨by omega, by omega, by omega, hK.go _ ?_⟩); clear hK K)
              | (refine d_reg (by kernel_rfl) fun K hK => ?_; simp only [go_sem, Nat.reduceEqDiff, reduceCtorEq, ↓reduceIte, Nat.reduceMul, Nat.reduceAdd, Nat.reduceLT, Nat.reduceLeDiff, Int.reduceLT, Int.reduceLE, Int.reduceToNat, Nat.reduceBEq, String.reduceNe, String.reduceEq, *]; (first | refine hK.go _ ?_ | refine ⟨by omega, hK.go _ ?_⟩ | refine ⟨by omega, by omega, hK.go _ ?_⟩ | refine ⟨by omega, by omega, by omega, hK.go _ ?_⟩); clear hK K)
              | (refine d_scond true rfl (fun _ => ?_) (fun h => by cases h))
              | (refine d_scond false rfl (fun h => by cases h) (fun _ => ?_))
              | (refine d_cond true rfl (fun _ => ?_) (fun h => by cases h))
              | (refine d_cond false rfl (fun h => by cases h) (fun _ => ?_))
              | refine d_exit ?_
              | refine d_sexit ?_
              | refine d_ret ?_
              | refine d_sret ?_
              | refine d_skip ?_)
            repeat (first | simp only [thenD, blockD, Nat.reduceEqDiff, reduceCtorEq, ↓reduceIte] | refine Imp.go (by assumption) _ ?_)
            exact ⟨⟨i + 1, g1, g2, g3, _, c2, by simp only [go_sem, Nat.reduceEqDiff, reduceCtorEq, ↓reduceIte, *], by simp only [go_sem, Nat.reduceEqDiff, reduceCtorEq, ↓reduceIte, *], by simp only [go_sem, Nat.reduceEqDiff, reduceCtorEq, ↓reduceIte, *], by simp only [go_sem, Nat.reduceEqDiff, reduceCtorEq, ↓reduceIte, *], hc2, by simp only [go_sem, Nat.reduceEqDiff, reduceCtorEq, ↓reduceIte, *], by simp only [go_sem, Nat.reduceEqDiff, reduceCtorEq, ↓reduceIte, *] <;> rfl, by simp only [go_sem, Nat.reduceEqDiff, reduceCtorEq, ↓reduceIte, *] <;> rfl, h1, h2, .inr ⟨by rw [hN.out]; simp, s5.gen 70, 0, by rw [hN.out, hrow.out, hz]; rfl, by simp only [go_sem, Nat.reduceEqDiff, reduceCtorEq, ↓reduceIte, *]⟩⟩, by simp only [go_sem, Nat.reduceEqDiff, reduceCtorEq, ↓reduceIte, *]; exact mlt h1⟩
          · skip
            refine d_reg (by kernel_rfl) fun K hK => ?_
            simp only [go_sem, Nat.reduceEqDiff, reduceCtorEq, ↓reduceIte, Nat.reduceMul, Nat.reduceAdd, Nat.reduceLT, Nat.reduceLeDiff, Int.reduceLT, Int.reduceLE, Int.reduceToNat, Nat.reduceBEq, String.reduceNe, String.reduceEq, *]
            refine ⟨⟨fun r hr => by obtain ⟨q, _, rfl⟩ := List.mem_map.1 hr; rfl, by omega⟩, hK.go _ ?_⟩; clear hK K
            repeat (first
              | refine d_assoc ?_
              | refine d_sskip ?_
              | (refine d_sreg (by kernel_rfl) fun K hK => ?_; simp only [go_sem, Nat.reduceEqDiff, reduceCtorEq, ↓reduceIte, Nat.reduceMul, Nat.reduceAdd, Nat.reduceLT, Nat.reduceLeDiff, Int.reduceLT, Int.reduceLE, Int.reduceToNat, Nat.reduceBEq, String.reduceNe, String.reduceEq, *]; (first | refine hK.go _ ?_ | refine ⟨by omega, hK.go _ ?_⟩ | refine ⟨by omega, by omega, hK.go _ ?_⟩ | refine ⟨by omega, by omega, by omega, hK.go _ ?_⟩); clear hK K)
              | (refine d_reg (by kernel_rfl) fun K hK => ?_; simp only [go_sem, Nat.reduceEqDiff, reduceCtorEq, ↓reduceIte, Nat.reduceMul, Nat.reduceAdd, Nat.reduceLT, Nat.reduceLeDiff, Int.reduceLT, Int.reduceLE, Int.reduceToNat, Nat.reduceBEq, String.reduceNe, String.reduceEq, *]; (first | refine hK.go _ ?_ | refine ⟨by omega, hK.go _ ?_⟩ | refine ⟨by omega, by omega, hK.go _ ?_⟩ | refine ⟨by omega, by omega, by omega, hK.go _ ?_⟩); clear hK K)
              | (refine d_scond true rfl (fun _ => ?_) (fun h => by cases h))
              | (refine d_scond false rfl (fun h => by cases h) (fun _ => ?_))
              | (refine d_cond true rfl (fun _ => ?_) (fun h => by cases h))
              | (refine d_cond false rfl (fun h => by cases h) (fun _ => ?_))
              | refine d_exit ?_
              | refine d_sexit ?_
              | refine d_ret ?_
              | refine d_sret ?_
              | refine d_skip ?_)
            repeat (first | simp only [thenD, blockD, Nat.reduceEqDiff, reduceCtorEq, ↓reduceIte] | refine Imp.go (by assumption) _ ?_)
            repeat (first
              | refine d_assoc ?_
              | refine d_sskip ?_
              | (refine d_sreg (by kernel_rfl) fun K hK => ?_; simp only [go_sem, Nat.reduceEqDiff, reduceCtorEq, ↓reduceIte, Nat.reduceMul, Nat.reduceAdd, Nat.reduceLT, Nat.reduceLeDiff, Int.reduceLT, Int.reduceLE, Int.reduceToNat, Nat.reduceBEq, String.reduceNe, String.reduceEq, *]; (first | refine hK.go _ ?_ | refine ⟨by omega, hK.go _ ?_⟩ | refine ⟨by omega, by omega, hK.go _ ?_⟩ | refine ⟨by omega, by omega, by omega, hK.go _ ?_⟩); clear hK K)
              | (refine d_reg (by kernel_rfl) fun K hK => ?_; simp only [go_sem, Nat.reduceEqDiff, reduceCtorEq, ↓reduceIte, Nat.reduceMul, Nat.reduceAdd, Nat.reduceLT, Nat.reduceLeDiff, Int.reduceLT, Int.reduceLE, Int.reduceToNat, Nat.reduceBEq, String.reduceNe, String.reduceEq, *]; (first | refine hK.go _ ?_ | refine ⟨by omega, hK.go _ ?_⟩ | refine ⟨by omega, by omega, hK.go _ ?_⟩ | refine ⟨by omega, by omega, by omega, hK.go _ ?_⟩); clear hK K)
              | (refine d_scond true rfl (fun _ => ?_) (fun h => by cases h))
              | (refine d_scond false rfl (fun h => by cases h) (fun _ => ?_))
              | (refine d_cond true rfl (fun _ => ?_) (fun h => by cases h))
              | (refine d_cond false rfl (fun h => by cases h) (fun _ => ?_))
              | refine d_exit ?_
              | refine d_sexit ?_
              | refine d_ret ?_
              | refine d_sret ?_
              | refine d_skip ?_)
            repeat (first | simp only [thenD, blockD, Nat.reduceEqDiff, reduceCtorEq, ↓reduceIte] | refine Imp.go (by assumption) _ ?_)
            exact ⟨⟨i + 1, g1, g2, g3, _, c2, by simp only [go_sem, Nat.reduceEqDiff, reduceCtorEq, ↓reduceIte, *], by simp only [go_sem, Nat.reduceEqDiff, reduceCtorEq, ↓reduceIte, *], by simp only [go_sem, Nat.reduceEqDiff, reduceCtorEq, ↓reduceIte, *], by simp only [go_sem, Nat.reduceEqDiff, reduceCtorEq, ↓reduceIte, *], hc2, by simp only [go_sem, Nat.reduceEqDiff, reduceCtorEq, ↓reduceIte, *], by simp only [go_sem, Nat.reduceEqDiff, reduceCtorEq, ↓reduceIte, *] <;> rfl, by simp only [go_sem, Nat.reduceEqDiff, reduceCtorEq, ↓reduceIte, *] <;> rfl, h1, h2, .inr ⟨by rw [hN.out]; simp, g, v + 1, by rw [hN.out, hrow.out]; rfl, by simp only [go_sem, Nat.reduceEqDiff, reduceCtorEq, ↓reduceIte, *]⟩⟩, by simp only [go_sem, Nat.reduceEqDiff, reduceCtorEq, ↓reduceIte, *]; exact mlt h1⟩
        · skip
          have hrow := Sec.mk (show rowN (fewN (nth ns i)) = [sv ((nth ns i).label.take 35), .sl ((((nth ns i).props.take 10).map fewP).map rowP)] from rfl)
          rcases hG with ⟨hz, rfl⟩ | ⟨hz, g, v, rfl, htn⟩
          · skip
            repeat (first
              | refine d_assoc ?_
              | refine d_sskip ?_
              | (refine d_sreg (by kernel_rfl) fun K hK => ?_; simp only [go_sem, Nat.reduceEqDiff, reduceCtorEq, ↓reduceIte, Nat.reduceMul, Nat.reduceAdd, Nat.reduceLT, Nat.reduceLeDiff, Int.reduceLT, Int.reduceLE, Int.reduceToNat, Nat.reduceBEq, String.reduceNe, String.reduceEq, *]; (first | refine hK.go _ ?_ | refine ⟨by omega, hK.go _ ?_⟩ | refine ⟨by omega, by omega, hK.go _ ?_⟩ | refine ⟨by omega, by omega, by omega, hK.go _ ?_⟩); clear hK K)
              | (refine d_reg (by kernel_rfl) fun K hK => ?_; simp only [go_sem, Nat.reduceEqDiff, reduceCtorEq, ↓reduceIte, Nat.reduceMul, Nat.reduceAdd, Nat.reduceLT, Nat.reduceLeDiff, Int.reduceLT, Int.reduceLE, Int.reduceToNat, Nat.reduceBEq, String.reduceNe, String.reduceEq, *]; (first | refine hK.go _ ?_ | refine ⟨by omega, hK.go _ ?_⟩ | refine ⟨by omega, by omega, hK.go _ ?_⟩ | refine ⟨by omega, by omega, by omega, hK.go _ ?_⟩); clear hK K)
              | (refine d_scond true rfl (fun _ => ?_) (fun h => by cases h))
              | (refine d_scond false rfl (fun h => by cases h) (fun _ => ?_))
              | (refine d_cond true rfl (fun _ => ?_) (fun h => by cases h))
              | (refine d_cond false rfl (fun h => by cases h) (fun _ => ?_))
              | refine d_exit ?_
              | refine d_sexit ?_
              | refine d_ret ?_
              | refine d_sret ?_
              | refine d_skip ?_)
            repeat (first | simp only [thenD, blockD, Nat.reduceEqDiff, reduceCtorEq, ↓reduceIte] | refine Imp.go (by assumption) _ ?_)
            repeat (first
              | refine d_assoc ?_
              | refine d_sskip ?_
              | (refine d_sreg (by kernel_rfl) fun K hK => ?_; simp only [go_sem, Nat.reduceEqDiff, reduceCtorEq, ↓reduceIte, Nat.reduceMul, Nat.reduceAdd, Nat.reduceLT, Nat.reduceLeDiff, Int.reduceLT, Int.reduceLE, Int.reduceToNat, Nat.reduceBEq, String.reduceNe, String.reduceEq, *]; (first | refine hK.go _ ?_ | refine ⟨by omega, hK.go _ ?_⟩ | refine ⟨by omega, by omega, hK.go _ ?_⟩ | refine ⟨by omega, by omega, by omega, hK.go _ ?_⟩); clear hK K)
              | (refine d_reg (by kernel_rfl) fun K hK => ?_; simp only [go_sem, Nat.reduceEqDiff, reduceCtorEq, ↓reduceIte, Nat.reduceMul, Nat.reduceAdd, Nat.reduceLT, Nat.reduceLeDiff, Int.reduceLT, Int.reduceLE, Int.reduceToNat, Nat.reduceBEq, String.reduceNe, String.reduceEq, *]; (first | refine hK.go _ ?_ | refine ⟨by omega, hK.go _ ?_⟩ | refine ⟨by omega, by omega, hK.go _ ?_⟩ | refine ⟨by omega, by omega, by omega, hK.go _ ?_⟩); clear hK K)
              | (refine d_scond true rfl (fun _ => ?_) (fun h => by cases h))
              | (refine d_scond false rfl (fun h => by cases h) (fun _ => ?_))
              | (refine d_cond true rfl (fun _ => ?_) (fun h => by cases h))
              | (refine d_cond false rfl (fun h => by cases h) (fun _ => ?_))
              | refine d_exit ?_
              | refine d_sexit ?_
              | refine d_ret ?_
              | refine d_sret ?_
              | refine d_skip ?_)
            repeat (first | simp only [thenD, blockD, Nat.reduceEqDiff, reduceCtorEq, ↓reduceIte] | refine Imp.go (by assumption) _ ?_)
            exact ⟨⟨i + 1, g1, g2, g3, _, c2, by simp only [go_sem, Nat.reduceEqDiff, reduceCtorEq, ↓reduceIte, *], by simp only [go_sem, Nat.reduceEqDiff, reduceCtorEq, ↓reduceIte, *], by simp only [go_sem, Nat.reduceEqDiff, reduceCtorEq, ↓reduceIte, *], by simp only [go_sem, Nat.reduceEqDiff, reduceCtorEq, ↓reduceIte, *], hc2, by simp only [go_sem, Nat.reduceEqDiff, reduceCtorEq, ↓reduceIte, *], by simp only [go_sem, Nat.reduceEqDiff, reduceCtorEq, ↓reduceIte, *] <;> rfl, by simp only [go_sem, Nat.reduceEqDiff, reduceCtorEq, ↓reduceIte, *] <;> rfl, h1, h2, .inr ⟨by rw [hN.out]; simp, s5.gen 70, 0, by rw [hN.out, hrow.out, hz]; rfl, by simp only [go_sem, Nat.reduceEqDiff, reduceCtorEq, ↓reduceIte, *]⟩⟩, by simp only [go_sem, Nat.reduceEqDiff, reduceCtorEq, ↓reduceIte, *]; exact mlt h1⟩
          · skip
            refine d_reg (by kernel_rfl) fun K hK => ?_
            simp only [go_sem, Nat.reduceEqDiff, reduceCtorEq, ↓reduceIte, Nat.reduceMul, Nat.reduceAdd, Nat.reduceLT, Nat.reduceLeDiff, Int.reduceLT, Int.reduceLE, Int.reduceToNat, Nat.reduceBEq, String.reduceNe, String.reduceEq, *]
            refine ⟨⟨fun r hr => by obtain ⟨q, _, rfl⟩ := List.mem_map.1 hr; rfl, by omega⟩, hK.go _ ?_⟩; clear hK K
            repeat (first
              | refine d_assoc ?_
              | refine d_sskip ?_
              | (refine d_sreg (by kernel_rfl) fun K hK => ?_; simp only [go_sem, Nat.reduceEqDiff, reduceCtorEq, ↓reduceIte, Nat.reduceMul, Nat.reduceAdd, Nat.reduceLT, Nat.reduceLeDiff, Int.reduceLT, Int.reduceLE, Int.reduceToNat, Nat.reduceBEq, String.reduceNe, String.reduceEq, *]; (first | refine hK.go _ ?_ | refine ⟨by omega, hK.go _ ?_⟩ | refine ⟨by omega, by omega, hK.go _ ?_⟩ | refine ⟨by omega, by omega, by omega, hK.go _ ?_⟩); clear hK K)
              | (refine d_reg (by kernel_rfl) fun K hK => ?_; simp only [go_sem, Nat.reduceEqDiff, reduceCtorEq, ↓reduceIte, Nat.reduceMul, Nat.reduceAdd, Nat.reduceLT, Nat.reduceLeDiff, Int.reduceLT, Int.reduceLE, Int.reduceToNat, Nat.reduceBEq, String.reduceNe, String.reduceEq, *]; (first | refine hK.go _ ?_ | refine ⟨by omega, hK.go _ ?_⟩ | refine ⟨by omega, by omega, hK.go _ ?_⟩ | refine ⟨by omega, by omega, by omega, hK.go _ ?_⟩); clear hK K)
              | (refine d_scond true rfl (fun _ => ?_) (fun h => by cases h))
              | (refine d_scond false rfl (fun h => by cases h) (fun _ => ?_))
              | (refine d_cond true rfl (fun _ => ?_) (fun h => by cases h))
              | (refine d_cond false rfl (fun h => by cases h) (fun _ => ?_))
              | refine d_exit ?_
              | refine d_sexit ?_
              | refine d_ret ?_
              | refine d_sret ?_
              | refine d_skip ?_)
            repeat (first | simp only [thenD, blockD, Nat.reduceEqDiff, reduceCtorEq, ↓reduceIte] | refine Imp.go (by assumption) _ ?_)
            repeat (first
              | refine d_assoc ?_
              | refine d_sskip ?_
              | (refine d_sreg (by kernel_rfl) fun K hK => ?_; simp only [go_sem, Nat.reduceEqDiff, reduceCtorEq, ↓reduceIte, Nat.reduceMul, Nat.reduceAdd, Nat.reduceLT, Nat.reduceLeDiff, Int.reduceLT, Int.reduceLE, Int.reduceToNat, Nat.reduceBEq, String.reduceNe, String.reduceEq, *]; (first | refine hK.go _ ?_ | refine ⟨by omega, hK.go _ ?_⟩ | refine ⟨by omega, by omega, hK.go _ ?_⟩ | refine ⟨by omega, by omega, by omega, hK.go _ ?_⟩); clear hK K)
              | (refine d_reg (by kernel_rfl) fun K hK => ?_; simp only [go_sem, Nat.reduceEqDiff, reduceCtorEq, ↓reduceIte, Nat.reduceMul, Nat.reduceAdd, Nat.reduceLT, Nat.reduceLeDiff, Int.reduceLT, Int.reduceLE, Int.reduceToNat, Nat.reduceBEq, String.reduceNe, String.reduceEq, *]; (first | refine hK.go _ ?_ | refine ⟨by omega, hK.go _ ?_⟩ | refine ⟨by omega, by omega, hK.go _ ?_⟩ | refine ⟨by omega, by omega, by omega, hK.go _ ?_⟩); clear hK K)
              | (refine d_scond true rfl (fun _ => ?_) (fun h => by cases h))
              | (refine d_scond false rfl (fun h => by cases h) (fun _ => ?_))
              | (refine d_cond true rfl (fun _ => ?_) (fun h => by cases h))
              | (refine d_cond false rfl (fun h => by cases h) (fun _ => ?_))
              | refine d_exit ?_
              | refine d_sexit ?_
              | refine d_ret ?_
              | refine d_sret ?_
              | refine d_skip ?_)
            repeat (first | simp only [thenD, blockD, Nat.reduceEqDiff, reduceCtorEq, ↓reduceIte] | refine Imp.go (by assumption) _ ?_)
            exact ⟨⟨i + 1, g1, g2, g3, _, c2, by simp only [go_sem, Nat.reduceEqDiff, reduceCtorEq, ↓reduceIte, *], by simp only [go_sem, Nat.reduceEqDiff, reduceCtorEq, ↓reduceIte, *], by simp only [go_sem, Nat.reduceEqDiff, reduceCtorEq, ↓reduceIte, *], by simp only [go_sem, Nat.reduceEqDiff, reduceCtorEq, ↓reduceIte, *], hc2, by simp only [go_sem, Nat.reduceEqDiff, reduceCtorEq, ↓reduceIte, *], by simp only [go_sem, Nat.reduceEqDiff, reduceCtorEq, ↓reduceIte, *] <;> rfl, by simp only [go_sem, Nat.reduceEqDiff, reduceCtorEq, ↓reduceIte, *] <;> rfl, h1, h2, .inr ⟨by rw [hN.out]; simp, g, v + 1, by rw [hN.out, hrow.out]; rfl, by simp only [go_sem, Nat.reduceEqDiff, reduceCtorEq, ↓reduceIte, *]⟩⟩, by simp only [go_sem, Nat.reduceEqDiff, reduceCtorEq, ↓reduceIte, *]; exact mlt h1⟩
      refine d_block fun K3 hK3 => ?_
      refine d_loop (fun s => ∃ (j g5 : Nat) (fP : DV), s.env 1 = .ref (1, g1) 0 ∧ s.heap (1, g1) = some [.sl (ns.map rowN), .sl (es.map rowE)] ∧ s.env 2 = .ref (2, g2) 0 ∧ s.heap (2, g2) = some c2 ∧ s.env 3 = .ref (3, g3) 0 ∧ s.heap (3, g3) = some [fN, .raw (.slice none 0 0)] ∧ s.env 4 = iv .i64 i ∧ s.env 5 = .ref (5, g5) 0 ∧ s.heap (5, g5) = some [sv ((nth ns i).label.take 35), fP] ∧ s.env 6 = iv .i64 j ∧ j ≤ (nth ns i).props.length ∧ j ≤ 10 ∧ Grw s 70 58 fN (((ns.take i).map fewN).map rowN) ∧ Grw s 64 80 fP ((((nth ns i).props.take j).map fewP).map rowP)) (fun s => (nth ns i).props.length - idx (s.env 6)) ?_ ?_
      · refine ⟨0, s1.gen 5, _, by simp only [go_sem, Nat.reduceEqDiff, reduceCtorEq, ↓reduceIte, *], by simp only [go_sem, Nat.reduceEqDiff, reduceCtorEq, ↓reduceIte, *], by simp only [go_sem, Nat.reduceEqDiff, reduceCtorEq, ↓reduceIte, *], by simp only [go_sem, Nat.reduceEqDiff, reduceCtorEq, ↓reduceIte, *], by simp only [go_sem, Nat.reduceEqDiff, reduceCtorEq, ↓reduceIte, *], by simp only [go_sem, Nat.reduceEqDiff, reduceCtorEq, ↓reduceIte, *], by simp only [go_sem, Nat.reduceEqDiff, reduceCtorEq, ↓reduceIte, *], by simp only [go_sem, Nat.reduceEqDiff, reduceCtorEq, ↓reduceIte, *], by simp only [go_sem, Nat.reduceEqDiff, reduceCtorEq, ↓reduceIte, *] <;> rfl, by simp only [go_sem, Nat.reduceEqDiff, reduceCtorEq, ↓reduceIte, *] <;> rfl, Nat.zero_le _, Nat.zero_le _, ?_, .inl ⟨rfl, rfl⟩⟩
        rcases hG with ⟨a, b⟩ | ⟨a, g, v, b, c⟩
        · exact .inl ⟨a, b⟩
        · exact .inr ⟨a, g, v, b, by simp only [go_sem, Nat.reduceEqDiff, reduceCtorEq, ↓reduceIte, *]⟩
      clear e1 eh1 e2 eh2 e3 eh3 e4 hG hc1
      rintro s4 K4 ⟨j, g5, fP, e1, eh1, e2, eh2, e3, eh3, e4, e5, eh5, e6, hj, hjm, hG, hP⟩ hK4
      have hwj := wi j (by omega)
      by_cases h3 : j < (nth ns i).props.length
      · by_cases h4 : j < 10
        · have h4' : (j : Int) < 10 := by omega
          have hN := Sec.mk (stepP (nth ns i).props j h3)
          have hc2 := hcut (nth (nth ns i).props j).name
          have hv : FnD Tryd.prog 47 [V (nth (nth ns i).props j).v] (.agg [iv .i64 (nth (nth ns i).props j).v.k, iv .i64 (nth (nth ns i).props j).v.n, sv ((nth (nth ns i).props j).v.t.take 120)]) := fewV_fn (nth (nth ns i).props j).v
          repeat (first
            | refine d_assoc ?_
            | refine d_sskip ?_
            | (refine d_sreg (by kernel_rfl) fun K hK => ?_; simp only [go_sem, Nat.reduceEqDiff, reduceCtorEq, ↓reduceIte, Nat.reduceMul, Nat.reduceAdd, Nat.reduceLT, Nat.reduceLeDiff, Int.reduceLT, Int.reduceLE, Int.reduceToNat, Nat.reduceBEq, String.reduceNe, String.reduceEq, *]; (first | refine hK.go _ ?_ | refine ⟨by omega, hK.go _ ?_⟩ | refine ⟨by omega, by omega, hK.go _ ?_⟩ | refine ⟨by omega, by omega, by omega, hK.go _ ?_⟩); clear hK K)
            | (refine d_reg (by kernel_rfl) fun K hK => ?_; simp only [go_sem, Nat.reduceEqDiff, reduceCtorEq, ↓reduceIte, Nat.reduceMul, Nat.reduceAdd, Nat.reduceLT, Nat.reduceLeDiff, Int.reduceLT, Int.reduceLE, Int.reduceToNat, Nat.reduceBEq, String.reduceNe, String.reduceEq, *]; (first | refine hK.go _ ?_ | refine ⟨by omega, hK.go _ ?_⟩ | refine ⟨by omega, by omega, hK.go _ ?_⟩ | refine ⟨by omega, by omega, by omega, hK.go _ ?_⟩); clear hK K)
            | (refine d_scond true rfl (fun _ => ?_) (fun h => by cases h))
            | (refine d_scond false rfl (fun h => by cases h) (fun _ => ?_))
            | (refine d_cond true rfl (fun _ => ?_) (fun h => by cases h))
            | (refine d_cond false rfl (fun h => by cases h) (fun _ => ?_))
            | refine d_exit ?_
            | refine d_sexit ?_
            | refine d_ret ?_
            | refine d_sret ?_
            | refine d_skip ?_)
          refine d_sblock fun K5 hK5 => ?_
          repeat (first
            | refine d_assoc ?_
            | refine d_sskip ?_
            | (refine d_sreg (by kernel_rfl) fun K hK => ?_; simp only [go_sem, Nat.reduceEqDiff, reduceCtorEq, ↓reduceIte, Nat.reduceMul, Nat.reduceAdd, Nat.reduceLT, Nat.reduceLeDiff, Int.reduceLT, Int.reduceLE, Int.reduceToNat, Nat.reduceBEq, String.reduceNe, String.reduceEq, *]; (first | refine hK.go _ ?_ | refine ⟨by omega, hK.go _ ?_⟩ | refine ⟨by omega, by omega, hK.go _ ?_⟩ | refine ⟨by omega, by omega, by omega, hK.go _ ?_⟩); clear hK K)
            | (refine d_reg (by kernel_rfl) fun K hK => ?_; simp only [go_sem, Nat.reduceEqDiff, reduceCtorEq, ↓reduceIte, Nat.reduceMul, Nat.reduceAdd, Nat.reduceLT, Nat.reduceLeDiff, Int.reduceLT, Int.reduceLE, Int.reduceToNat, Nat.reduceBEq, String.reduceNe, String.reduceEq, *]; (first | refine hK.go _ ?_ | refine ⟨by omega, hK.go _ ?_⟩ | refine ⟨by omega, by omega, hK.go _ ?_⟩ | refine ⟨by omega, by omega, by omega, hK.go _ ?_⟩); clear hK K)
            | (refine d_scond true rfl (fun _ => ?_) (fun h => by cases h))
            | (refine d_scond false rfl (fun h => by cases h) (fun _ => ?_))
            | (refine d_cond true rfl (fun _ => ?_) (fun h => by cases h))
            | (refine d_cond false rfl (fun h => by cases h) (fun _ => ?_))
            | refine d_exit ?_
            | refine d_sexit ?_
            | refine d_ret ?_
            | refine d_sret ?_
            | refine d_skip ?_)
          rcases hP with ⟨hr, rfl⟩ | ⟨hne, gp, vp, rfl, htp⟩
          · skip
            refine d_reg (by kernel_rfl) fun K hK => ?_
            simp only [go_sem, Nat.reduceEqDiff, reduceCtorEq, ↓reduceIte, Nat.reduceMul, Nat.reduceAdd, Nat.reduceLT, Nat.reduceLeDiff, Int.reduceLT, Int.reduceLE, Int.reduceToNat, Nat.reduceBEq, String.reduceNe, String.reduceEq, *]
            rw [if_pos (by rfl)]
            refine wp_call (xs := [sv (nth (nth ns i).props j).name, iv .i64 35]) (b := false) (by rfl) hc2 (.inl rfl) ?_
            simp only [go_sem, Nat.reduceEqDiff, reduceCtorEq, ↓reduceIte, Nat.reduceMul, Nat.reduceAdd, Nat.reduceLT, Nat.reduceLeDiff, Int.reduceLT, Int.reduceLE, Int.reduceToNat, Nat.reduceBEq, String.reduceNe, String.reduceEq, *]
            rw [if_pos (by rfl)]
            refine wp_call (xs := [V (nth (nth ns i).props j).v]) (b := false) (by rfl) hv (.inl rfl) ?_
            simp only [go_sem, Nat.reduceEqDiff, reduceCtorEq, ↓reduceIte, Nat.reduceMul, Nat.reduceAdd, Nat.reduceLT, Nat.reduceLeDiff, Int.reduceLT, Int.reduceLE, Int.reduceToNat, Nat.reduceBEq, String.reduceNe, String.reduceEq, *]
            (first | refine hK.go _ ?_ | refine ⟨by omega, hK.go _ ?_⟩ | refine ⟨by omega, by omega, hK.go _ ?_⟩); clear hK K
            repeat (first
              | refine d_assoc ?_
              | refine d_sskip ?_
              | (refine d_sreg (by kernel_rfl) fun K hK => ?_; simp only [go_sem, Nat.reduceEqDiff, reduceCtorEq, ↓reduceIte, Nat.reduceMul, Nat.reduceAdd, Nat.reduceLT, Nat.reduceLeDiff, Int.reduceLT, Int.reduceLE, Int.reduceToNat, Nat.reduceBEq, String.reduceNe, String.reduceEq, *]; (first | refine hK.go _ ?_ | refine ⟨by omega, hK.go _ ?_⟩ | refine ⟨by omega, by omega, hK.go _ ?_⟩ | refine ⟨by omega, by omega, by omega, hK.go _ ?_⟩); clear hK K)
              | (refine d_reg (by kernel_rfl) fun K hK => ?_; simp only [go_sem, Nat.reduceEqDiff, reduceCtorEq, ↓reduceIte, Nat.reduceMul, Nat.reduceAdd, Nat.reduceLT, Nat.reduceLeDiff, Int.reduceLT, Int.reduceLE, Int.reduceToNat, Nat.reduceBEq, String.reduceNe, String.reduceEq, *]; (first | refine hK.go _ ?_ | refine ⟨by omega, hK.go _ ?_⟩ | refine ⟨by omega, by omega, hK.go _ ?_⟩ | refine ⟨by omega, by omega, by omega, hK.go _ ?_⟩); clear hK K)
              | (refine d_scond true rfl (fun _ => ?_) (fun h => by cases h))
              | (refine d_scond false rfl (fun h => by cases h) (fun _ => ?_))
              | (refine d_cond true rfl (fun _ => ?_) (fun h => by cases h))
              | (refine d_cond false rfl (fun h => by cases h) (fun _ => ?_))
              | refine d_exit ?_
              | refine d_sexit ?_
              | refine d_ret ?_
              | refine d_sret ?_
              | refine d_skip ?_)
            repeat (first | simp only [thenD, blockD, Nat.reduceEqDiff, reduceCtorEq, ↓reduceIte] | refine Imp.go (by assumption) _ ?_)
            repeat (first
              | refine d_assoc ?_
              | refine d_sskip ?_
              | (refine d_sreg (by kernel_rfl) fun K hK => ?_; simp only [go_sem, Nat.reduceEqDiff, reduceCtorEq, ↓reduceIte, Nat.reduceMul, Nat.reduceAdd, Nat.reduceLT, Nat.reduceLeDiff, Int.reduceLT, Int.reduceLE, Int.reduceToNat, Nat.reduceBEq, String.reduceNe, String.reduceEq, *]; (first | refine hK.go _ ?_ | refine ⟨by omega, hK.go _ ?_⟩ | refine ⟨by omega, by omega, hK.go _ ?_⟩ | refine ⟨by omega, by omega, by omega, hK.go _ ?_⟩); clear hK K)
              | (refine d_reg (by kernel_rfl) fun K hK => ?_; simp only [go_sem, Nat.reduceEqDiff, reduceCtorEq, ↓reduceIte, Nat.reduceMul, Nat.reduceAdd, Nat.reduceLT, Nat.reduceLeDiff, Int.reduceLT, Int.reduceLE, Int.reduceToNat, Nat.reduceBEq, String.reduceNe, String.reduceEq, *]; (first | refine hK.go _ ?_ | refine ⟨by omega, hK.go _ ?_⟩ | refine ⟨by omega, by omega, hK.go _ ?_⟩ | refine ⟨by omega, by omega, by omega, hK.go _ ?_⟩); clear hK K)
              | (refine d_scond true rfl (fun _ => ?_) (fun h => by cases h))
              | (refine d_scond false rfl (fun h => by cases h) (fun _ => ?_))
              | (refine d_cond true rfl (fun _ => ?_) (fun h => by cases h))
              | (refine d_cond false rfl (fun h => by cases h) (fun _ => ?_))
              | refine d_exit ?_
              | refine d_sexit ?_
              | refine d_ret ?_
              | refine d_sret ?_
              | refine d_skip ?_)
            repeat (first | simp only [thenD, blockD, Nat.reduceEqDiff, reduceCtorEq, ↓reduceIte] | refine Imp.go (by assumption) _ ?_)
            refine ⟨⟨j + 1, g5, _, by simp only [go_sem, Nat.reduceEqDiff, reduceCtorEq, ↓reduceIte, *], by simp only [go_sem, Nat.reduceEqDiff, reduceCtorEq, ↓reduceIte, *], by simp only [go_sem, Nat.reduceEqDiff, reduceCtorEq, ↓reduceIte, *], by simp only [go_sem, Nat.reduceEqDiff, reduceCtorEq, ↓reduceIte, *], by simp only [go_sem, Nat.reduceEqDiff, reduceCtorEq, ↓reduceIte, *], by simp only [go_sem, Nat.reduceEqDiff, reduceCtorEq, ↓reduceIte, *], by simp only [go_sem, Nat.reduceEqDiff, reduceCtorEq, ↓reduceIte, *], by simp only [go_sem, Nat.reduceEqDiff, reduceCtorEq, ↓reduceIte, *], by simp only [go_sem, Nat.reduceEqDiff, reduceCtorEq, ↓reduceIte, *] <;> rfl, by simp only [go_sem, Nat.reduceEqDiff, reduceCtorEq, ↓reduceIte, *] <;> rfl, h3, h4, ?_, .inr ⟨by rw [hN.out]; simp, s4.gen 64, 0, by rw [hN.out, hr]; rfl, by simp only [go_sem, Nat.reduceEqDiff, reduceCtorEq, ↓reduceIte, *]⟩⟩, by simp only [go_sem, Nat.reduceEqDiff, reduceCtorEq, ↓reduceIte, *]; exact mlt h3⟩
            rcases hG with ⟨a, b⟩ | ⟨a, g, v, b, c⟩
            · exact .inl ⟨a, b⟩
            · exact .inr ⟨a, g, v, b, by simp only [go_sem, Nat.reduceEqDiff, reduceCtorEq, ↓reduceIte, *]⟩
          · have hlen : ((((nth ns i).props.take j).map fewP).map rowP).length ≤ 10 := by simp only [List.length_map, List.length_take]; omega
            refine d_reg (by kernel_rfl) fun K hK => ?_
            simp only [go_sem, Nat.reduceEqDiff, reduceCtorEq, ↓reduceIte, Nat.reduceMul, Nat.reduceAdd, Nat.reduceLT, Nat.reduceLeDiff, Int.reduceLT, Int.reduceLE, Int.reduceToNat, Nat.reduceBEq, String.reduceNe, String.reduceEq, *]
            rw [if_pos (by rfl)]
            refine wp_call (xs := [sv (nth (nth ns i).props j).name, iv .i64 35]) (b := false) (by rfl) hc2 (.inl rfl) ?_
            simp only [go_sem, Nat.reduceEqDiff, reduceCtorEq, ↓reduceIte, Nat.reduceMul, Nat.reduceAdd, Nat.reduceLT, Nat.reduceLeDiff, Int.reduceLT, Int.reduceLE, Int.reduceToNat, Nat.reduceBEq, String.reduceNe, String.reduceEq, *]
            rw [if_pos (by rfl)]
            refine wp_call (xs := [V (nth (nth ns i).props j).v]) (b := false) (by rfl) hv (.inl rfl) ?_
            simp only [go_sem, Nat.reduceEqDiff, reduceCtorEq, ↓reduceIte, Nat.reduceMul, Nat.reduceAdd, Nat.reduceLT, Nat.reduceLeDiff, Int.reduceLT, Int.reduceLE, Int.reduceToNat, Nat.reduceBEq, String.reduceNe, String.reduceEq, *]
            refine ⟨⟨fun r hr => by obtain ⟨q, _, rfl⟩ := List.mem_map.1 hr; rfl, by rw [List.length_take]; omega⟩, hK.go _ ?_⟩; clear hK K
            repeat (first
              | refine d_assoc ?_
              | refine d_sskip ?_
              | (refine d_sreg (by kernel_rfl) fun K hK => ?_; simp only [go_sem, Nat.reduceEqDiff, reduceCtorEq, ↓reduceIte, Nat.reduceMul, Nat.reduceAdd, Nat.reduceLT, Nat.reduceLeDiff, Int.reduceLT, Int.reduceLE, Int.reduceToNat, Nat.reduceBEq, String.reduceNe, String.reduceEq, *]; (first | refine hK.go _ ?_ | refine ⟨by omega, hK.go _ ?_⟩ | refine ⟨by omega, by omega, hK.go _ ?_⟩ | refine ⟨by omega, by omega, by omega, hK.go _ ?_⟩); clear hK K)
              | (refine d_reg (by kernel_rfl) fun K hK => ?_; simp only [go_sem, Nat.reduceEqDiff, reduceCtorEq, ↓reduceIte, Nat.reduceMul, Nat.reduceAdd, Nat.reduceLT, Nat.reduceLeDiff, Int.reduceLT, Int.reduceLE, Int.reduceToNat, Nat.reduceBEq, String.reduceNe, String.reduceEq, *]; (first | refine hK.go _ ?_ | refine ⟨by omega, hK.go _ ?_⟩ | refine ⟨by omega, by omega, hK.go _ ?_⟩ | refine ⟨by omega, by omega, by omega, hK.go _ ?_⟩); clear hK K)
              | (refine d_scond true rfl (fun _ => ?_) (fun h => by cases h))
              | (refine d_scond false rfl (fun h => by cases h) (fun _ => ?_))
              | (refine d_cond true rfl (fun _ => ?_) (fun h => by cases h))
              | (refine d_cond false rfl (fun h => by cases h) (fun _ => ?_))
              | refine d_exit ?_
              | refine d_sexit ?_
              | refine d_ret ?_
              | refine d_sret ?_
              | refine d_skip ?_)
            repeat (first | simp only [thenD, blockD, Nat.reduceEqDiff, reduceCtorEq, ↓reduceIte] | refine Imp.go (by assumption) _ ?_)
            repeat (first
              | refine d_assoc ?_
              | refine d_sskip ?_
              | (refine d_sreg (by kernel_rfl) fun K hK => ?_; simp only [go_sem, Nat.reduceEqDiff, reduceCtorEq, ↓reduceIte, Nat.reduceMul, Nat.reduceAdd, Nat.reduceLT, Nat.reduceLeDiff, Int.reduceLT, Int.reduceLE, Int.reduceToNat, Nat.reduceBEq, String.reduceNe, String.reduceEq, *]; (first | refine hK.go _ ?_ | refine ⟨by omega, hK.go _ ?_⟩ | refine ⟨by omega, by omega, hK.go _ ?_⟩ | refine ⟨by omega, by omega, by omega, hK.go _ ?_⟩); clear hK K)
              | (refine d_reg (by kernel_rfl) fun K hK => ?_; simp only [go_sem, Nat.reduceEqDiff, reduceCtorEq, ↓reduceIte, Nat.reduceMul, Nat.reduceAdd, Nat.reduceLT, Nat.reduceLeDiff, Int.reduceLT, Int.reduceLE, Int.reduceToNat, Nat.reduceBEq, String.reduceNe, String.reduceEq, *]; (first | refine hK.go _ ?_ | refine ⟨by omega, hK.go _ ?_⟩ | refine ⟨by omega, by omega, hK.go _ ?_⟩ | refine ⟨by omega, by omega, by omega, hK.go _ ?_⟩); clear hK K)
              | (refine d_scond true rfl (fun _ => ?_) (fun h => by cases h))
              | (refine d_scond false rfl (fun h => by cases h) (fun _ => ?_))
              | (refine d_cond true rfl (fun _ => ?_) (fun h => by cases h))
              | (refine d_cond false rfl (fun h => by cases h) (fun _ => ?_))
              | refine d_exit ?_
              | refine d_sexit ?_
              | refine d_ret ?_
              | refine d_sret ?_
              | refine d_skip ?_)
            repeat (first | simp only [thenD, blockD, Nat.reduceEqDiff, reduceCtorEq, ↓reduceIte] | refine Imp.go (by assumption) _ ?_)
            refine ⟨⟨j + 1, g5, _, by simp only [go_sem, Nat.reduceEqDiff, reduceCtorEq, ↓reduceIte, *], by simp only [go_sem, Nat.reduceEqDiff, reduceCtorEq, ↓reduceIte, *], by simp only [go_sem, Nat.reduceEqDiff, reduceCtorEq, ↓reduceIte, *], by simp only [go_sem, Nat.reduceEqDiff, reduceCtorEq, ↓reduceIte, *], by simp only [go_sem, Nat.reduceEqDiff, reduceCtorEq, ↓reduceIte, *], by simp only [go_sem, Nat.reduceEqDiff, reduceCtorEq, ↓reduceIte, *], by simp only [go_sem, Nat.reduceEqDiff, reduceCtorEq, ↓reduceIte, *], by simp only [go_sem, Nat.reduceEqDiff, reduceCtorEq, ↓reduceIte, *], by simp only [go_sem, Nat.reduceEqDiff, reduceCtorEq, ↓reduceIte, *] <;> rfl, by simp only [go_sem, Nat.reduceEqDiff, reduceCtorEq, ↓reduceIte, *] <;> rfl, h3, h4, ?_, .inr ⟨by rw [hN.out]; simp, gp, vp + 1, by rw [hN.out]; rfl, by simp only [go_sem, Nat.reduceEqDiff, reduceCtorEq, ↓reduceIte, *]⟩⟩, by simp only [go_sem, Nat.reduceEqDiff, reduceCtorEq, ↓reduceIte, *]; exact mlt h3⟩
            rcases hG with ⟨a, b⟩ | ⟨a, g, v, b, c⟩
            · exact .inl ⟨a, b⟩
            · exact .inr ⟨a, g, v, b, by simp only [go_sem, Nat.reduceEqDiff, reduceCtorEq, ↓reduceIte, *]⟩
        · have hf : (nth ns i).props.take j = (nth ns i).props.take 10 := by rw [show j = 10 by omega]
          rw [hf] at hP
          have h4' : ¬ (j : Int) < 10 := by omega
          repeat (first
            | refine d_assoc ?_
            | refine d_sskip ?_
            | (refine d_sreg (by kernel_rfl) fun K hK => ?_; simp only [go_sem, Nat.reduceEqDiff, reduceCtorEq, ↓reduceIte, Nat.reduceMul, Nat.reduceAdd, Nat.reduceLT, Nat.reduceLeDiff, Int.reduceLT, Int.reduceLE, Int.reduceToNat, Nat.reduceBEq, String.reduceNe, String.reduceEq, *]; (first | refine hK.go _ ?_ | refine ⟨by omega, hK.go _ ?_⟩ | refine ⟨by omega, by omega, hK.go _ ?_⟩ | refine ⟨by omega, by omega, by omega, hK.go _ ?_⟩); clear hK K)
            | (refine d_reg (by kernel_rfl) fun K hK => ?_; simp only [go_sem, Nat.reduceEqDiff, reduceCtorEq, ↓reduceIte, Nat.reduceMul, Nat.reduceAdd, Nat.reduceLT, Nat.reduceLeDiff, Int.reduceLT, Int.reduceLE, Int.reduceToNat, Nat.reduceBEq, String.reduceNe, String.reduceEq, *]; (first | refine hK.go _ ?_ | refine ⟨by omega, hK.go _ ?_⟩ | refine ⟨by omega, by omega, hK.go _ ?_⟩ | refine ⟨by omega, by omega, by omega, hK.go _ ?_⟩); clear hK K)
            | (refine d_scond true rfl (fun _ => ?_) (fun h => by cases h))
            | (refine d_scond false rfl (fun h => by cases h) (fun _ => ?_))
            | (refine d_cond true rfl (fun _ => ?_) (fun h => by cases h))
            | (refine d_cond false rfl (fun h => by cases h) (fun _ => ?_))
            | refine d_exit ?_
            | refine d_sexit ?_
            | refine d_ret ?_
            | refine d_sret ?_
            | refine d_skip ?_)
          repeat (first | simp only [thenD, blockD, Nat.reduceEqDiff, reduceCtorEq, ↓reduceIte] | refine Imp.go (by assumption) _ ?_)
          refine ⟨g5, _, by simp only [go_sem, Nat.reduceEqDiff, reduceCtorEq, ↓reduceIte, *], by simp only [go_sem, Nat.reduceEqDiff, reduceCtorEq, ↓reduceIte, *], by simp only [go_sem, Nat.reduceEqDiff, reduceCtorEq, ↓reduceIte, *], by simp only [go_sem, Nat.reduceEqDiff, reduceCtorEq, ↓reduceIte, *], by simp only [go_sem, Nat.reduceEqDiff, reduceCtorEq, ↓reduceIte, *], by simp only [go_sem, Nat.reduceEqDiff, reduceCtorEq, ↓reduceIte, *], by simp only [go_sem, Nat.reduceEqDiff, reduceCtorEq, ↓reduceIte, *], by simp only [go_sem, Nat.reduceEqDiff, reduceCtorEq, ↓reduceIte, *], by simp only [go_sem, Nat.reduceEqDiff, reduceCtorEq, ↓reduceIte, *] <;> rfl, ?_, ?_⟩
          · rcases hG with ⟨a, b⟩ | ⟨a, g, v, b, c⟩
            · exact .inl ⟨a, b⟩
            · exact .inr ⟨a, g, v, b, by simp only [go_sem, Nat.reduceEqDiff, reduceCtorEq, ↓reduceIte, *]⟩
          · rcases hP with ⟨a, b⟩ | ⟨a, g, v, b, c⟩
            · exact .inl ⟨a, b⟩
            · exact .inr ⟨a, g, v, b, by simp only [go_sem, Nat.reduceEqDiff, reduceCtorEq, ↓reduceIte, *]⟩
      · have hf : (nth ns i).props.take j = (nth ns i).props.take 10 := by rw [List.take_of_length_le (by omega), List.take_of_length_le (by omega)]
        rw [hf] at hP
        repeat (first
          | refine d_assoc ?_
          | refine d_sskip ?_
          | (refine d_sreg (by kernel_rfl) fun K hK => ?_; simp only [go_sem, Nat.reduceEqDiff, reduceCtorEq, ↓reduceIte, Nat.reduceMul, Nat.reduceAdd, Nat.reduceLT, Nat.reduceLeDiff, Int.reduceLT, Int.reduceLE, Int.reduceToNat, Nat.reduceBEq, String.reduceNe, String.reduceEq, *]; (first | refine hK.go _ ?_ | refine ⟨by omega, hK.go _ ?_⟩ | refine ⟨by omega, by omega, hK.go _ ?_⟩ | refine ⟨by omega, by omega, by omega, hK.go _ ?_⟩); clear hK K)
          | (refine d_reg (by kernel_rfl) fun K hK => ?_; simp only [go_sem, Nat.reduceEqDiff, reduceCtorEq, ↓reduceIte, Nat.reduceMul, Nat.reduceAdd, Nat.reduceLT, Nat.reduceLeDiff, Int.reduceLT, Int.reduceLE, Int.reduceToNat, Nat.reduceBEq, String.reduceNe, String.reduceEq, *]; (first | refine hK.go _ ?_ | refine ⟨by omega, hK.go _ ?_⟩ | refine ⟨by omega, by omega, hK.go _ ?_⟩ | refine ⟨by omega, by omega, by omega, hK.go _ ?_⟩); clear hK K)
          | (refine d_scond true rfl (fun _ => ?_) (fun h => by cases h))
          | (refine d_scond false rfl (fun h => by cases h) (fun _ => ?_))
          | (refine d_cond true rfl (fun _ => ?_) (fun h => by cases h))
          | (refine d_cond false rfl (fun h => by cases h) (fun _ => ?_))
          | refine d_exit ?_
          | refine d_sexit ?_
          | refine d_ret ?_
          | refine d_sret ?_
          | refine d_skip ?_)
        repeat (first | simp only [thenD, blockD, Nat.reduceEqDiff, reduceCtorEq, ↓reduceIte] | refine Imp.go (by assumption) _ ?_)
        refine ⟨g5, _, by simp only [go_sem, Nat.reduceEqDiff, reduceCtorEq, ↓reduceIte, *], by simp only [go_sem, Nat.reduceEqDiff, reduceCtorEq, ↓reduceIte, *], by simp only [go_sem, Nat.reduceEqDiff, reduceCtorEq, ↓reduceIte, *], by simp only [go_sem, Nat.reduceEqDiff, reduceCtorEq, ↓reduceIte, *], by simp only [go_sem, Nat.reduceEqDiff, reduceCtorEq, ↓reduceIte, *], by simp only [go_sem, Nat.reduceEqDiff, reduceCtorEq, ↓reduceIte, *], by simp only [go_sem, Nat.reduceEqDiff, reduceCtorEq, ↓reduceIte, *], by simp only [go_sem, Nat.reduceEqDiff, reduceCtorEq, ↓reduceIte, *], by simp only [go_sem, Nat.reduceEqDiff, reduceCtorEq, ↓reduceIte, *] <;> rfl, ?_, ?_⟩
        · rcases hG with ⟨a, b⟩ | ⟨a, g, v, b, c⟩
          · exact .inl ⟨a, b⟩
          · exact .inr ⟨a, g, v, b, by simp only [go_sem, Nat.reduceEqDiff, reduceCtorEq, ↓reduceIte, *]⟩
        · rcases hP with ⟨a, b⟩ | ⟨a, g, v, b, c⟩
          · exact .inl ⟨a, b⟩
          · exact .inr ⟨a, g, v, b, by simp only [go_sem, Nat.reduceEqDiff, reduceCtorEq, ↓reduceIte, *]⟩
    · have hf : ns.take i = ns.take 10 := by rw [show i = 10 by omega]
      rw [hf] at hG
      have h2' : ¬ (i : Int) < 10 := by omega
      repeat (first
        | refine d_assoc ?_
        | refine d_sskip ?_
        | (refine d_sreg (by kernel_rfl) fun K hK => ?_; simp only [go_sem, Nat.reduceEqDiff, reduceCtorEq, ↓reduceIte, Nat.reduceMul, Nat.reduceAdd, Nat.reduceLT, Nat.reduceLeDiff, Int.reduceLT, Int.reduceLE, Int.reduceToNat, Nat.reduceBEq, String.reduceNe, String.reduceEq, *]; (first | refine hK.go _ ?_ | refine ⟨by omega, hK.go _ ?_⟩ | refine ⟨by omega, by omega, hK.go _ ?_⟩ | refine ⟨by omega, by omega, by omega, hK.go _ ?_⟩); clear hK K)
        | (refine d_reg (by kernel_rfl) fun K hK => ?_; simp only [go_sem, Nat.reduceEqDiff, reduceCtorEq, ↓reduceIte, Nat.reduceMul, Nat.reduceAdd, Nat.reduceLT, Nat.reduceLeDiff, Int.reduceLT, Int.reduceLE, Int.reduceToNat, Nat.reduceBEq, String.reduceNe, String.reduceEq, *]; (first | refine hK.go _ ?_ | refine ⟨by omega, hK.go _ ?_⟩ | refine ⟨by omega, by omega, hK.go _ ?_⟩ | refine ⟨by omega, by omega, by omega, hK.go _ ?_⟩); clear hK K)
        | (refine d_scond true rfl (fun _ => ?_) (fun h => by cases h))
        | (refine d_scond false rfl (fun h => by cases h) (fun _ => ?_))
        | (refine d_cond true rfl (fun _ => ?_) (fun h => by cases h))
        | (refine d_cond false rfl (fun h => by cases h) (fun _ => ?_))
        | refine d_exit ?_
        | refine d_sexit ?_
        | refine d_ret ?_
        | refine d_sret ?_
        | refine d_skip ?_)
      repeat (first | simp only [thenD, blockD, Nat.reduceEqDiff, reduceCtorEq, ↓reduceIte] | refine Imp.go (by assumption) _ ?_)
      refine ⟨g1, g2, g3, fN, c2, by simp only [go_sem, Nat.reduceEqDiff, reduceCtorEq, ↓reduceIte, *], by simp only [go_sem, Nat.reduceEqDiff, reduceCtorEq, ↓reduceIte, *], by simp only [go_sem, Nat.reduceEqDiff, reduceCtorEq, ↓reduceIte, *], by simp only [go_sem, Nat.reduceEqDiff, reduceCtorEq, ↓reduceIte, *], hc2, by simp only [go_sem, Nat.reduceEqDiff, reduceCtorEq, ↓reduceIte, *], by simp only [go_sem, Nat.reduceEqDiff, reduceCtorEq, ↓reduceIte, *], ?_⟩
      rcases hG with ⟨a, b⟩ | ⟨a, g, v, b, c⟩
      · exact .inl ⟨a, b⟩
      · exact .inr ⟨a, g, v, b, by simp only [go_sem, Nat.reduceEqDiff, reduceCtorEq, ↓reduceIte, *]⟩
  · have hf : ns.take i = ns.take 10 := by rw [List.take_of_length_le (by omega), List.take_of_length_le (by omega)]
    rw [hf] at hG
    repeat (first
      | refine d_assoc ?_
      | refine d_sskip ?_
      | (refine d_sreg (by kernel_rfl) fun K hK => ?_; simp only [go_sem, Nat.reduceEqDiff, reduceCtorEq, ↓reduceIte, Nat.reduceMul, Nat.reduceAdd, Nat.reduceLT, Nat.reduceLeDiff, Int.reduceLT, Int.reduceLE, Int.reduceToNat, Nat.reduceBEq, String.reduceNe, String.reduceEq, *]; (first | refine hK.go _ ?_ | refine ⟨by omega, hK.go _ ?_⟩ | refine ⟨by omega, by omega, hK.go _ ?_⟩ | refine ⟨by omega, by omega, by omega, hK.go _ ?_⟩); clear hK K)
      | (refine d_reg (by kernel_rfl) fun K hK => ?_; simp only [go_sem, Nat.reduceEqDiff, reduceCtorEq, ↓reduceIte, Nat.reduceMul, Nat.reduceAdd, Nat.reduceLT, Nat.reduceLeDiff, Int.reduceLT, Int.reduceLE, Int.reduceToNat, Nat.reduceBEq, String.reduceNe, String.reduceEq, *]; (first | refine hK.go _ ?_ | refine ⟨by omega, hK.go _ ?_⟩ | refine ⟨by omega, by omega, hK.go _ ?_⟩ | refine ⟨by omega, by omega, by omega, hK.go _ ?_⟩); clear hK K)
      | (refine d_scond true rfl (fun _ => ?_) (fun h => by cases h))
      | (refine d_scond false rfl (fun h => by cases h) (fun _ => ?_))
      | (refine d_cond true rfl (fun _ => ?_) (fun h => by cases h))
      | (refine d_cond false rfl (fun h => by cases h) (fun _ => ?_))
      | refine d_exit ?_
      | refine d_sexit ?_
      | refine d_ret ?_
      | refine d_sret ?_
      | refine d_skip ?_)
    repeat (first | simp only [thenD, blockD, Nat.reduceEqDiff, reduceCtorEq, ↓reduceIte] | refine Imp.go (by assumption) _ ?_)
    refine ⟨g1, g2, g3, fN, c2, by simp only [go_sem, Nat.reduceEqDiff, reduceCtorEq, ↓reduceIte, *], by simp only [go_sem, Nat.reduceEqDiff, reduceCtorEq, ↓reduceIte, *], by simp only [go_sem, Nat.reduceEqDiff, reduceCtorEq, ↓reduceIte, *], by simp only [go_sem, Nat.reduceEqDiff, reduceCtorEq, ↓reduceIte, *], hc2, by simp only [go_sem, Nat.reduceEqDiff, reduceCtorEq, ↓reduceIte, *], by simp only [go_sem, Nat.reduceEqDiff, reduceCtorEq, ↓reduceIte, *], ?_⟩
    rcases hG with ⟨a, b⟩ | ⟨a, g, v, b, c⟩
    · exact .inl ⟨a, b⟩
    · exact .inr ⟨a, g, v, b, by simp only [go_sem, Nat.reduceEqDiff, reduceCtorEq, ↓reduceIte, *]⟩
end Go.Proofs.YtnlodeadhnonpaaDoor.D
