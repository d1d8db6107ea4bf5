/- Graphs on plain data: the law GraphChecks, out of Few's and lives' contracts. Conditions: those two. -/
import Derived.Test.YtnlodeadhnonpaaDoorGD12
namespace Go.Proofs.YtnlodeadhnonpaaDoor.D
open Go.RowKit Go.Proofs.YtnlodeadhnonpaaDoor.Mem
set_option linter.unusedVariables false
set_option linter.unusedSimpArgs false
attribute [local irreducible] wpD wpL
attribute [local go_sem] ne_eq not_true_eq_false not_false_eq_true List.getD_cons_zero Int.lt_irrefl bs_mk str cast0 beq_decide bne_decide beqL natCast_inj' nat_zero bs_nil bt_eq List.length_map
def fewP (p : PP) : PP := ⟨p.name.take 35, cutV p.v⟩
def fewN (n : PN) : PN := ⟨n.label.take 35, (n.props.take 10).map fewP⟩
def fewE (e : PE) : PE := ⟨e.a, e.b, e.label.take 35, e.w⟩
def fewG (g : PG) : PG := ⟨(g.ns.take 10).map fewN, (g.es.take 30).map fewE⟩
theorem fewP2 (p : PP) : fewP (fewP p) = fewP p := by simp [fewP, cutV, List.take_take]
theorem fewN2 (n : PN) : fewN (fewN n) = fewN n := by simp [fewN, List.take_take, ← List.map_take, List.map_map, Function.comp_def, fewP2]
theorem fewE2 (e : PE) : fewE (fewE e) = fewE e := by simp [fewE, List.take_take]
theorem fewG2 (g : PG) : fewG (fewG g) = fewG g := by simp [fewG, ← List.map_take, List.take_take, List.map_map, Function.comp_def, fewN2, fewE2]
theorem few_sized (g : PG) : SizedG (fewG g) := by
  refine ⟨fun n hn => ?_, fun e he => ?_, ?_, ?_⟩
  · obtain ⟨m, _, rfl⟩ := List.mem_map.1 hn
    refine ⟨?_, fun p hp => ?_, ?_⟩
    · simp only [fewN, List.length_take]; omega
    · obtain ⟨q, _, rfl⟩ := List.mem_map.1 hp
      simp only [fewP, cutV, List.length_take]; omega
    · simp only [fewN, List.length_map, List.length_take]; omega
  · obtain ⟨m, _, rfl⟩ := List.mem_map.1 he
    simp only [fewE, List.length_take]; omega
  · simp only [fewG, List.length_map, List.length_take]; omega
  · simp only [fewG, List.length_map, List.length_take]; omega
theorem checks_fn (hfew : ∀ g, FnD Tryd.prog 32 [G2 g] (G2 (fewG g))) (hlv : FnD Tryd.prog 31 [] (bv true)) (g : PG) : FnD Tryd.prog 7 [G2 g] (bv true) := by
  have hf1 := hfew g
  have hf2 := hfew (fewG g)
  rw [fewG2] at hf2
  have hs := few_sized g
  have hc := Check_fn _ hs
  have hr := refCheck_fn _ hs
  have hg := Good_fn _ hs
  generalize fewG g = f at hf1 hf2 hc hr hg
  generalize checkG f = r at hc hr hg
  obtain ⟨r1, r2⟩ := r
  simp only at hc hr hg
  clear hs hfew
  refine fn1 mixed Tryd.func7 (by kernel_rfl) rfl Tryd.ntmps7 (by decide) fun s e0 => ?_
  unfold G2 at e0 hf1 hf2 hc hr hg
  repeat (first
    | refine d_assoc ?_
    | refine d_sskip ?_
    | (refine d_sreg (by kernel_rfl) fun K hK => ?_; simp only [go_sem, Nat.reduceEqDiff, reduceCtorEq, ↓reduceIte, Nat.reduceMul, Nat.reduceAdd, Nat.reduceLT, Nat.reduceLeDiff, Int.reduceLT, Int.reduceLE, Int.reduceToNat, Nat.reduceBEq, String.reduceNe, String.reduceEq, *]; (first | refine hK.go _ ?_ | refine ⟨by omega, hK.go _ ?_⟩ | refine ⟨by omega, by omega, hK.go _ ?_⟩ | refine ⟨by omega, by omega, by omega, hK.go _ ?_⟩); clear hK K)
    | (refine d_reg (by kernel_rfl) fun K hK => ?_; simp only [go_sem, Nat.reduceEqDiff, reduceCtorEq, ↓reduceIte, Nat.reduceMul, Nat.reduceAdd, Nat.reduceLT, Nat.reduceLeDiff, Int.reduceLT, Int.reduceLE, Int.reduceToNat, Nat.reduceBEq, String.reduceNe, String.reduceEq, *]; (first | refine hK.go _ ?_ | refine ⟨by omega, hK.go _ ?_⟩ | refine ⟨by omega, by omega, hK.go _ ?_⟩ | refine ⟨by omega, by omega, by omega, hK.go _ ?_⟩); clear hK K)
    | (refine d_scond true rfl (fun _ => ?_) (fun h => by cases h))
    | (refine d_scond false rfl (fun h => by cases h) (fun _ => ?_))
    | (refine d_cond true rfl (fun _ => ?_) (fun h => by cases h))
    | (refine d_cond false rfl (fun h => by cases h) (fun _ => ?_))
    | refine d_exit ?_
    | refine d_sexit ?_
    | refine d_ret ?_
    | refine d_sret ?_
    | refine d_skip ?_)
  refine d_sreg (by kernel_rfl) fun K hK => ?_
  simp only [go_sem, Nat.reduceEqDiff, reduceCtorEq, ↓reduceIte, Nat.reduceMul, Nat.reduceAdd, Nat.reduceLT, Nat.reduceLeDiff, Int.reduceLT, Int.reduceLE, Int.reduceToNat, Nat.reduceBEq, String.reduceNe, String.reduceEq, *]
  repeat (refine ⟨by omega, ?_⟩)
  refine wp_call rfl (hf1) (by first | exact .inl rfl | exact .inr rfl) ?_
  simp only [go_sem, Nat.reduceEqDiff, reduceCtorEq, ↓reduceIte, Nat.reduceMul, Nat.reduceAdd, Nat.reduceLT, Nat.reduceLeDiff, Int.reduceLT, Int.reduceLE, Int.reduceToNat, Nat.reduceBEq, String.reduceNe, String.reduceEq, *]
  (first | refine hK.go _ ?_ | refine ⟨by omega, hK.go _ ?_⟩ | refine ⟨by omega, by omega, hK.go _ ?_⟩); clear hK K
  repeat (first
    | refine d_assoc ?_
    | refine d_sskip ?_
    | (refine d_sreg (by kernel_rfl) fun K hK => ?_; simp only [go_sem, Nat.reduceEqDiff, reduceCtorEq, ↓reduceIte, Nat.reduceMul, Nat.reduceAdd, Nat.reduceLT, Nat.reduceLeDiff, Int.reduceLT, Int.reduceLE, Int.reduceToNat, Nat.reduceBEq, String.reduceNe, String.reduceEq, *]; (first | refine hK.go _ ?_ | refine ⟨by omega, hK.go _ ?_⟩ | refine ⟨by omega, by omega, hK.go _ ?_⟩ | refine ⟨by omega, by omega, by omega, hK.go _ ?_⟩); clear hK K)
    | (refine d_reg (by kernel_rfl) fun K hK => ?_; simp only [go_sem, Nat.reduceEqDiff, reduceCtorEq, ↓reduceIte, Nat.reduceMul, Nat.reduceAdd, Nat.reduceLT, Nat.reduceLeDiff, Int.reduceLT, Int.reduceLE, Int.reduceToNat, Nat.reduceBEq, String.reduceNe, String.reduceEq, *]; (first | refine hK.go _ ?_ | refine ⟨by omega, hK.go _ ?_⟩ | refine ⟨by omega, by omega, hK.go _ ?_⟩ | refine ⟨by omega, by omega, by omega, hK.go _ ?_⟩); clear hK K)
    | (refine d_scond true rfl (fun _ => ?_) (fun h => by cases h))
    | (refine d_scond false rfl (fun h => by cases h) (fun _ => ?_))
    | (refine d_cond true rfl (fun _ => ?_) (fun h => by cases h))
    | (refine d_cond false rfl (fun h => by cases h) (fun _ => ?_))
    | refine d_exit ?_
    | refine d_sexit ?_
    | refine d_ret ?_
    | refine d_sret ?_
    | refine d_skip ?_)
  refine d_sreg (by kernel_rfl) fun K hK => ?_
  simp only [go_sem, Nat.reduceEqDiff, reduceCtorEq, ↓reduceIte, Nat.reduceMul, Nat.reduceAdd, Nat.reduceLT, Nat.reduceLeDiff, Int.reduceLT, Int.reduceLE, Int.reduceToNat, Nat.reduceBEq, String.reduceNe, String.reduceEq, *]
  repeat (refine ⟨by omega, ?_⟩)
  refine wp_call rfl (hf2) (by first | exact .inl rfl | exact .inr rfl) ?_
  simp only [go_sem, Nat.reduceEqDiff, reduceCtorEq, ↓reduceIte, Nat.reduceMul, Nat.reduceAdd, Nat.reduceLT, Nat.reduceLeDiff, Int.reduceLT, Int.reduceLE, Int.reduceToNat, Nat.reduceBEq, String.reduceNe, String.reduceEq, *]
  repeat (refine ⟨by omega, ?_⟩)
  refine wp_call rfl (hc) (by first | exact .inl rfl | exact .inr rfl) ?_
  simp only [go_sem, Nat.reduceEqDiff, reduceCtorEq, ↓reduceIte, Nat.reduceMul, Nat.reduceAdd, Nat.reduceLT, Nat.reduceLeDiff, Int.reduceLT, Int.reduceLE, Int.reduceToNat, Nat.reduceBEq, String.reduceNe, String.reduceEq, *]
  (first | refine hK.go _ ?_ | refine ⟨by omega, hK.go _ ?_⟩ | refine ⟨by omega, by omega, hK.go _ ?_⟩); clear hK K
  repeat (first
    | refine d_assoc ?_
    | refine d_sskip ?_
    | (refine d_sreg (by kernel_rfl) fun K hK => ?_; simp only [go_sem, Nat.reduceEqDiff, reduceCtorEq, ↓reduceIte, Nat.reduceMul, Nat.reduceAdd, Nat.reduceLT, Nat.reduceLeDiff, Int.reduceLT, Int.reduceLE, Int.reduceToNat, Nat.reduceBEq, String.reduceNe, String.reduceEq, *]; (first | refine hK.go _ ?_ | refine ⟨by omega, hK.go _ ?_⟩ | refine ⟨by omega, by omega, hK.go _ ?_⟩ | refine ⟨by omega, by omega, by omega, hK.go _ ?_⟩); clear hK K)
    | (refine d_reg (by kernel_rfl) fun K hK => ?_; simp only [go_sem, Nat.reduceEqDiff, reduceCtorEq, ↓reduceIte, Nat.reduceMul, Nat.reduceAdd, Nat.reduceLT, Nat.reduceLeDiff, Int.reduceLT, Int.reduceLE, Int.reduceToNat, Nat.reduceBEq, String.reduceNe, String.reduceEq, *]; (first | refine hK.go _ ?_ | refine ⟨by omega, hK.go _ ?_⟩ | refine ⟨by omega, by omega, hK.go _ ?_⟩ | refine ⟨by omega, by omega, by omega, hK.go _ ?_⟩); clear hK K)
    | (refine d_scond true rfl (fun _ => ?_) (fun h => by cases h))
    | (refine d_scond false rfl (fun h => by cases h) (fun _ => ?_))
    | (refine d_cond true rfl (fun _ => ?_) (fun h => by cases h))
    | (refine d_cond false rfl (fun h => by cases h) (fun _ => ?_))
    | refine d_exit ?_
    | refine d_sexit ?_
    | refine d_ret ?_
    | refine d_sret ?_
    | refine d_skip ?_)
  refine d_sreg (by kernel_rfl) fun K hK => ?_
  simp only [go_sem, Nat.reduceEqDiff, reduceCtorEq, ↓reduceIte, Nat.reduceMul, Nat.reduceAdd, Nat.reduceLT, Nat.reduceLeDiff, Int.reduceLT, Int.reduceLE, Int.reduceToNat, Nat.reduceBEq, String.reduceNe, String.reduceEq, *]
  repeat (refine ⟨by omega, ?_⟩)
  refine wp_call rfl (hr) (by first | exact .inl rfl | exact .inr rfl) ?_
  simp only [go_sem, Nat.reduceEqDiff, reduceCtorEq, ↓reduceIte, Nat.reduceMul, Nat.reduceAdd, Nat.reduceLT, Nat.reduceLeDiff, Int.reduceLT, Int.reduceLE, Int.reduceToNat, Nat.reduceBEq, String.reduceNe, String.reduceEq, *]
  (first | refine hK.go _ ?_ | refine ⟨by omega, hK.go _ ?_⟩ | refine ⟨by omega, by omega, hK.go _ ?_⟩); clear hK K
  repeat (first
    | refine d_assoc ?_
    | refine d_sskip ?_
    | (refine d_sreg (by kernel_rfl) fun K hK => ?_; simp only [go_sem, Nat.reduceEqDiff, reduceCtorEq, ↓reduceIte, Nat.reduceMul, Nat.reduceAdd, Nat.reduceLT, Nat.reduceLeDiff, Int.reduceLT, Int.reduceLE, Int.reduceToNat, Nat.reduceBEq, String.reduceNe, String.reduceEq, *]; (first | refine hK.go _ ?_ | refine ⟨by omega, hK.go _ ?_⟩ | refine ⟨by omega, by omega, hK.go _ ?_⟩ | refine ⟨by omega, by omega, by omega, hK.go _ ?_⟩); clear hK K)
    | (refine d_reg (by kernel_rfl) fun K hK => ?_; simp only [go_sem, Nat.reduceEqDiff, reduceCtorEq, ↓reduceIte, Nat.reduceMul, Nat.reduceAdd, Nat.reduceLT, Nat.reduceLeDiff, Int.reduceLT, Int.reduceLE, Int.reduceToNat, Nat.reduceBEq, String.reduceNe, String.reduceEq, *]; (first | refine hK.go _ ?_ | refine ⟨by omega, hK.go _ ?_⟩ | refine ⟨by omega, by omega, hK.go _ ?_⟩ | refine ⟨by omega, by omega, by omega, hK.go _ ?_⟩); clear hK K)
    | (refine d_scond true rfl (fun _ => ?_) (fun h => by cases h))
    | (refine d_scond false rfl (fun h => by cases h) (fun _ => ?_))
    | (refine d_cond true rfl (fun _ => ?_) (fun h => by cases h))
    | (refine d_cond false rfl (fun h => by cases h) (fun _ => ?_))
    | refine d_exit ?_
    | refine d_sexit ?_
    | refine d_ret ?_
    | refine d_sret ?_
    | refine d_skip ?_)
  refine d_sreg (by kernel_rfl) fun K hK => ?_
  simp only [go_sem, Nat.reduceEqDiff, reduceCtorEq, ↓reduceIte, Nat.reduceMul, Nat.reduceAdd, Nat.reduceLT, Nat.reduceLeDiff, Int.reduceLT, Int.reduceLE, Int.reduceToNat, Nat.reduceBEq, String.reduceNe, String.reduceEq, *]
  repeat (refine ⟨by omega, ?_⟩)
  refine wp_call rfl (hf2) (by first | exact .inl rfl | exact .inr rfl) ?_
  simp only [go_sem, Nat.reduceEqDiff, reduceCtorEq, ↓reduceIte, Nat.reduceMul, Nat.reduceAdd, Nat.reduceLT, Nat.reduceLeDiff, Int.reduceLT, Int.reduceLE, Int.reduceToNat, Nat.reduceBEq, String.reduceNe, String.reduceEq, *]
  repeat (refine ⟨by omega, ?_⟩)
  refine wp_call rfl (hg) (by first | exact .inl rfl | exact .inr rfl) ?_
  simp only [go_sem, Nat.reduceEqDiff, reduceCtorEq, ↓reduceIte, Nat.reduceMul, Nat.reduceAdd, Nat.reduceLT, Nat.reduceLeDiff, Int.reduceLT, Int.reduceLE, Int.reduceToNat, Nat.reduceBEq, String.reduceNe, String.reduceEq, *]
  repeat (refine ⟨by omega, ?_⟩)
  refine wp_call rfl (hlv) (by first | exact .inl rfl | exact .inr rfl) ?_
  simp only [go_sem, Nat.reduceEqDiff, reduceCtorEq, ↓reduceIte, Nat.reduceMul, Nat.reduceAdd, Nat.reduceLT, Nat.reduceLeDiff, Int.reduceLT, Int.reduceLE, Int.reduceToNat, Nat.reduceBEq, String.reduceNe, String.reduceEq, *]
  (first | refine hK.go _ ?_ | refine ⟨by omega, hK.go _ ?_⟩ | refine ⟨by omega, by omega, hK.go _ ?_⟩); clear hK K
  repeat (first
    | refine d_assoc ?_
    | refine d_sskip ?_
    | (refine d_sreg (by kernel_rfl) fun K hK => ?_; simp only [go_sem, Nat.reduceEqDiff, reduceCtorEq, ↓reduceIte, Nat.reduceMul, Nat.reduceAdd, Nat.reduceLT, Nat.reduceLeDiff, Int.reduceLT, Int.reduceLE, Int.reduceToNat, Nat.reduceBEq, String.reduceNe, String.reduceEq, *]; (first | refine hK.go _ ?_ | refine ⟨by omega, hK.go _ ?_⟩ | refine ⟨by omega, by omega, hK.go _ ?_⟩ | refine ⟨by omega, by omega, by omega, hK.go _ ?_⟩); clear hK K)
    | (refine d_reg (by kernel_rfl) fun K hK => ?_; simp only [go_sem, Nat.reduceEqDiff, reduceCtorEq, ↓reduceIte, Nat.reduceMul, Nat.reduceAdd, Nat.reduceLT, Nat.reduceLeDiff, Int.reduceLT, Int.reduceLE, Int.reduceToNat, Nat.reduceBEq, String.reduceNe, String.reduceEq, *]; (first | refine hK.go _ ?_ | refine ⟨by omega, hK.go _ ?_⟩ | refine ⟨by omega, by omega, hK.go _ ?_⟩ | refine ⟨by omega, by omega, by omega, hK.go _ ?_⟩); clear hK K)
    | (refine d_scond true rfl (fun _ => ?_) (fun h => by cases h))
    | (refine d_scond false rfl (fun h => by cases h) (fun _ => ?_))
    | (refine d_cond true rfl (fun _ => ?_) (fun h => by cases h))
    | (refine d_cond false rfl (fun h => by cases h) (fun _ => ?_))
    | refine d_exit ?_
    | refine d_sexit ?_
    | refine d_ret ?_
    | refine d_sret ?_
    | refine d_skip ?_)
  exact fin1 (.inr rfl) Tryd.results7 (by simp only [go_sem, Nat.reduceEqDiff, reduceCtorEq, ↓reduceIte, Nat.reduceMul, Nat.reduceAdd, Nat.reduceLT, Nat.reduceLeDiff, Int.reduceLT, Int.reduceLE, Int.reduceToNat, Nat.reduceBEq, String.reduceNe, String.reduceEq, *] <;> rfl) rfl
end Go.Proofs.YtnlodeadhnonpaaDoor.D
