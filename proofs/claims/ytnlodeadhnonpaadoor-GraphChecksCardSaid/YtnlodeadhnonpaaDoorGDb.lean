/- Graphs on plain data: graph.check. Conditions: none. -/
import Derived.Test.YtnlodeadhnonpaaDoorGD7
namespace Go.Proofs.YtnlodeadhnonpaaDoor.D
open Go.RowKit Go.Proofs.YtnlodeadhnonpaaDoor.Mem
set_option linter.unusedVariables false
set_option linter.unusedSimpArgs false
attribute [local irreducible] wpD wpL
attribute [local go_sem] ne_eq not_true_eq_false not_false_eq_true List.getD_cons_zero Int.lt_irrefl bs_mk str cast0 beq_decide bne_decide beqL natCast_inj' nat_zero bs_nil bt_eq List.length_map
/-- The first element of which something is wrong. -/
def scan {α : Type} (f : α → Int) : List α → Option (Nat × Int)
  | [] => none
  | x :: l => if f x = 0 then (scan f l).map (fun p => (p.1 + 1, p.2)) else some (0, f x)
theorem scan_at {α : Type} [Inhabited α] (f : α → Int) : ∀ (l : List α) (i : Nat), i < l.length → (∀ j, j < i → f (nth l j) = 0) → f (nth l i) ≠ 0 → scan f l = some (i, f (nth l i)) := by
  intro l
  induction l with
  | nil => intro i h; simp at h
  | cons x l ih =>
    intro i h h0 h1
    cases i with
    | zero => rw [nth_zero] at h1 ⊢; unfold scan; rw [if_neg h1]
    | succ i =>
      have hx := h0 0 (by omega)
      rw [nth_zero] at hx
      rw [nth_succ] at h1 ⊢
      unfold scan
      rw [if_pos hx, ih i (by simpa using h) (fun j hj => by have := h0 (j + 1) (by omega); rwa [nth_succ] at this) h1]
      rfl
theorem scan_none {α : Type} [Inhabited α] (f : α → Int) : ∀ (l : List α), (∀ j, j < l.length → f (nth l j) = 0) → scan f l = none := by
  intro l
  induction l with
  | nil => intro _; rfl
  | cons x l ih =>
    intro h0
    have hx := h0 0 (by simp)
    rw [nth_zero] at hx
    unfold scan
    rw [if_pos hx, ih (fun j hj => by have := h0 (j + 1) (by simpa using hj); rwa [nth_succ] at this)]
    rfl
structure PG where
  ns : List PN
  es : List PE
  deriving Inhabited
def G2 (g : PG) : DV := .agg [.sl (g.ns.map rowN), .sl (g.es.map rowE)]
def checkG (g : PG) : Int × Int :=
  if 10000 < g.ns.length ∨ 100000 < g.es.length then (0, 5) else
  match scan nodeErr g.ns with
  | some (i, e) => (((i + 1 : Nat) : Int), e)
  | none => match scan (edgeErr g.ns.length) g.es with
    | some (i, e) => (((g.ns.length + i + 1 : Nat) : Int), e)
    | none => (0, 0)
structure SizedN (n : PN) : Prop where
  l : n.label.length ≤ 1000000
  p : ∀ p ∈ n.props, p.name.length ≤ 1000000 ∧ p.v.t.length ≤ 1000000
  n : n.props.length ≤ 1000000
structure SizedG (g : PG) : Prop where
  ns : ∀ n ∈ g.ns, SizedN n
  es : ∀ e ∈ g.es, e.label.length ≤ 1000000
  n : g.ns.length ≤ 1000000
  e : g.es.length ≤ 1000000
theorem rowsN (l : List PN) (i : Nat) (h : i < l.length) : (l.map rowN).getD i [] = rowN (nth l i) := getD_map rowN l i h
theorem rowsE (l : List PE) (i : Nat) (h : i < l.length) : (l.map rowE).getD i [] = rowE (nth l i) := getD_map rowE l i h
attribute [local go_sem] rowsN rowsE rowN rowE
theorem check_fn (g : PG) (hs : SizedG g) : FnD Tryd.prog 45 [G2 g] (.tup [iv .i64 (checkG g).1, iv .i64 (checkG g).2]) := by
  obtain ⟨ns, es⟩ := g
  obtain ⟨sN, sE, sn, se⟩ := hs
  refine fn1 mixed Tryd.func45 (by kernel_rfl) rfl Tryd.ntmps45 (by decide) fun s e0 => ?_
  unfold G2 at e0
  simp only at e0 sN sE sn se
  have sN := Sec.mk sN
  have sE := Sec.mk sE
  by_cases h1 : 10000 < (ns.length : Int)
  · have hq := Sec.mk (show checkG ⟨ns, es⟩ = (0, 5) from if_pos (.inl (by simp only; omega)))
    repeat (first
      | refine d_assoc ?_
      | refine d_sskip ?_
      | (refine d_sreg (by kernel_rfl) fun K hK => ?_; simp only [go_sem, Nat.reduceEqDiff, reduceCtorEq, ↓reduceIte, Nat.reduceMul, Nat.reduceAdd, Nat.reduceLT, Nat.reduceLeDiff, Int.reduceLT, Int.reduceLE, Int.reduceToNat, Nat.reduceBEq, String.reduceNe, String.reduceEq, *]; (first | refine hK.go _ ?_ | refine ⟨by omega, hK.go _ ?_⟩ | refine ⟨by omega, by omega, hK.go _ ?_⟩ | refine ⟨by omega, by omega, by omega, hK.go _ ?_⟩); clear hK K)
      | (refine d_reg (by kernel_rfl) fun K hK => ?_; simp only [go_sem, Nat.reduceEqDiff, reduceCtorEq, ↓reduceIte, Nat.reduceMul, Nat.reduceAdd, Nat.reduceLT, Nat.reduceLeDiff, Int.reduceLT, Int.reduceLE, Int.reduceToNat, Nat.reduceBEq, String.reduceNe, String.reduceEq, *]; (first | refine hK.go _ ?_ | refine ⟨by omega, hK.go _ ?_⟩ | refine ⟨by omega, by omega, hK.go _ ?_⟩ | refine ⟨by omega, by omega, by omega, hK.go _ ?_⟩); clear hK K)
      | (refine d_scond true rfl (fun _ => ?_) (fun h => by cases h))
      | (refine d_scond false rfl (fun h => by cases h) (fun _ => ?_))
      | (refine d_cond true rfl (fun _ => ?_) (fun h => by cases h))
      | (refine d_cond false rfl (fun h => by cases h) (fun _ => ?_))
      | refine d_exit ?_
      | refine d_sexit ?_
      | refine d_ret ?_
      | refine d_sret ?_
      | refine d_skip ?_)
    exact fin2 (.inr rfl) Tryd.results45 (by simp only [go_sem, Nat.reduceEqDiff, reduceCtorEq, ↓reduceIte, Nat.reduceMul, Nat.reduceAdd, Nat.reduceLT, Nat.reduceLeDiff, Int.reduceLT, Int.reduceLE, Int.reduceToNat, Nat.reduceBEq, String.reduceNe, String.reduceEq, *]; rw [hq.out]) (by simp only [go_sem, Nat.reduceEqDiff, reduceCtorEq, ↓reduceIte, Nat.reduceMul, Nat.reduceAdd, Nat.reduceLT, Nat.reduceLeDiff, Int.reduceLT, Int.reduceLE, Int.reduceToNat, Nat.reduceBEq, String.reduceNe, String.reduceEq, *]; rw [hq.out]) rfl rfl
  by_cases h2 : 100000 < (es.length : Int)
  · have hq := Sec.mk (show checkG ⟨ns, es⟩ = (0, 5) from if_pos (.inr (by simp only; omega)))
    repeat (first
      | refine d_assoc ?_
      | refine d_sskip ?_
      | (refine d_sreg (by kernel_rfl) fun K hK => ?_; simp only [go_sem, Nat.reduceEqDiff, reduceCtorEq, ↓reduceIte, Nat.reduceMul, Nat.reduceAdd, Nat.reduceLT, Nat.reduceLeDiff, Int.reduceLT, Int.reduceLE, Int.reduceToNat, Nat.reduceBEq, String.reduceNe, String.reduceEq, *]; (first | refine hK.go _ ?_ | refine ⟨by omega, hK.go _ ?_⟩ | refine ⟨by omega, by omega, hK.go _ ?_⟩ | refine ⟨by omega, by omega, by omega, hK.go _ ?_⟩); clear hK K)
      | (refine d_reg (by kernel_rfl) fun K hK => ?_; simp only [go_sem, Nat.reduceEqDiff, reduceCtorEq, ↓reduceIte, Nat.reduceMul, Nat.reduceAdd, Nat.reduceLT, Nat.reduceLeDiff, Int.reduceLT, Int.reduceLE, Int.reduceToNat, Nat.reduceBEq, String.reduceNe, String.reduceEq, *]; (first | refine hK.go _ ?_ | refine ⟨by omega, hK.go _ ?_⟩ | refine ⟨by omega, by omega, hK.go _ ?_⟩ | refine ⟨by omega, by omega, by omega, hK.go _ ?_⟩); clear hK K)
      | (refine d_scond true rfl (fun _ => ?_) (fun h => by cases h))
      | (refine d_scond false rfl (fun h => by cases h) (fun _ => ?_))
      | (refine d_cond true rfl (fun _ => ?_) (fun h => by cases h))
      | (refine d_cond false rfl (fun h => by cases h) (fun _ => ?_))
      | refine d_exit ?_
      | refine d_sexit ?_
      | refine d_ret ?_
      | refine d_sret ?_
      | refine d_skip ?_)
    exact fin2 (.inr rfl) Tryd.results45 (by simp only [go_sem, Nat.reduceEqDiff, reduceCtorEq, ↓reduceIte, Nat.reduceMul, Nat.reduceAdd, Nat.reduceLT, Nat.reduceLeDiff, Int.reduceLT, Int.reduceLE, Int.reduceToNat, Nat.reduceBEq, String.reduceNe, String.reduceEq, *]; rw [hq.out]) (by simp only [go_sem, Nat.reduceEqDiff, reduceCtorEq, ↓reduceIte, Nat.reduceMul, Nat.reduceAdd, Nat.reduceLT, Nat.reduceLeDiff, Int.reduceLT, Int.reduceLE, Int.reduceToNat, Nat.reduceBEq, String.reduceNe, String.reduceEq, *]; rw [hq.out]) rfl rfl
  have hq0 := Sec.mk (show checkG ⟨ns, es⟩ = _ from if_neg (by simp only; omega))
  repeat (first
    | refine d_assoc ?_
    | refine d_sskip ?_
    | (refine d_sreg (by kernel_rfl) fun K hK => ?_; simp only [go_sem, Nat.reduceEqDiff, reduceCtorEq, ↓reduceIte, Nat.reduceMul, Nat.reduceAdd, Nat.reduceLT, Nat.reduceLeDiff, Int.reduceLT, Int.reduceLE, Int.reduceToNat, Nat.reduceBEq, String.reduceNe, String.reduceEq, *]; (first | refine hK.go _ ?_ | refine ⟨by omega, hK.go _ ?_⟩ | refine ⟨by omega, by omega, hK.go _ ?_⟩ | refine ⟨by omega, by omega, by omega, hK.go _ ?_⟩); clear hK K)
    | (refine d_reg (by kernel_rfl) fun K hK => ?_; simp only [go_sem, Nat.reduceEqDiff, reduceCtorEq, ↓reduceIte, Nat.reduceMul, Nat.reduceAdd, Nat.reduceLT, Nat.reduceLeDiff, Int.reduceLT, Int.reduceLE, Int.reduceToNat, Nat.reduceBEq, String.reduceNe, String.reduceEq, *]; (first | refine hK.go _ ?_ | refine ⟨by omega, hK.go _ ?_⟩ | refine ⟨by omega, by omega, hK.go _ ?_⟩ | refine ⟨by omega, by omega, by omega, hK.go _ ?_⟩); clear hK K)
    | (refine d_scond true rfl (fun _ => ?_) (fun h => by cases h))
    | (refine d_scond false rfl (fun h => by cases h) (fun _ => ?_))
    | (refine d_cond true rfl (fun _ => ?_) (fun h => by cases h))
    | (refine d_cond false rfl (fun h => by cases h) (fun _ => ?_))
    | refine d_exit ?_
    | refine d_sexit ?_
    | refine d_ret ?_
    | refine d_sret ?_
    | refine d_skip ?_)
  refine d_cut (fun s => ∃ (g1 : Nat), s.env 1 = .ref (1, g1) 0 ∧ s.heap (1, g1) = some [.sl (ns.map rowN), .sl (es.map rowE)] ∧ Sec (∀ j, j < ns.length → nodeErr (nth ns j) = 0)) ?_ ?_
  · clear e0
    rintro s1 ⟨g1, e1, eh, hS⟩
    have hnone := Sec.mk (scan_none nodeErr ns hS.out)
    clear hS
    repeat (first
      | refine d_assoc ?_
      | refine d_sskip ?_
      | (refine d_sreg (by kernel_rfl) fun K hK => ?_; simp only [go_sem, Nat.reduceEqDiff, reduceCtorEq, ↓reduceIte, Nat.reduceMul, Nat.reduceAdd, Nat.reduceLT, Nat.reduceLeDiff, Int.reduceLT, Int.reduceLE, Int.reduceToNat, Nat.reduceBEq, String.reduceNe, String.reduceEq, *]; (first | refine hK.go _ ?_ | refine ⟨by omega, hK.go _ ?_⟩ | refine ⟨by omega, by omega, hK.go _ ?_⟩ | refine ⟨by omega, by omega, by omega, hK.go _ ?_⟩); clear hK K)
      | (refine d_reg (by kernel_rfl) fun K hK => ?_; simp only [go_sem, Nat.reduceEqDiff, reduceCtorEq, ↓reduceIte, Nat.reduceMul, Nat.reduceAdd, Nat.reduceLT, Nat.reduceLeDiff, Int.reduceLT, Int.reduceLE, Int.reduceToNat, Nat.reduceBEq, String.reduceNe, String.reduceEq, *]; (first | refine hK.go _ ?_ | refine ⟨by omega, hK.go _ ?_⟩ | refine ⟨by omega, by omega, hK.go _ ?_⟩ | refine ⟨by omega, by omega, by omega, hK.go _ ?_⟩); clear hK K)
      | (refine d_scond true rfl (fun _ => ?_) (fun h => by cases h))
      | (refine d_scond false rfl (fun h => by cases h) (fun _ => ?_))
      | (refine d_cond true rfl (fun _ => ?_) (fun h => by cases h))
      | (refine d_cond false rfl (fun h => by cases h) (fun _ => ?_))
      | refine d_exit ?_
      | refine d_sexit ?_
      | refine d_ret ?_
      | refine d_sret ?_
      | refine d_skip ?_)
    refine d_sblock fun K hK => ?_
    refine d_loop (fun s => ∃ (i g1 : Nat), s.env 1 = .ref (1, g1) 0 ∧ s.heap (1, g1) = some [.sl (ns.map rowN), .sl (es.map rowE)] ∧ s.env 37 = .sl (es.map rowE) ∧ s.env 38 = iv .i64 es.length ∧ s.env 39 = iv .i64 i ∧ i ≤ es.length ∧ Sec (∀ j, j < i → edgeErr ns.length (nth es j) = 0)) (fun s => es.length - idx (s.env 39)) ?_ ?_
    · exact ⟨0, g1, by simp only [go_sem, Nat.reduceEqDiff, reduceCtorEq, ↓reduceIte, Nat.reduceMul, Nat.reduceAdd, Nat.reduceLT, Nat.reduceLeDiff, Int.reduceLT, Int.reduceLE, Int.reduceToNat, Nat.reduceBEq, String.reduceNe, String.reduceEq, *], by simp only [go_sem, Nat.reduceEqDiff, reduceCtorEq, ↓reduceIte, Nat.reduceMul, Nat.reduceAdd, Nat.reduceLT, Nat.reduceLeDiff, Int.reduceLT, Int.reduceLE, Int.reduceToNat, Nat.reduceBEq, String.reduceNe, String.reduceEq, *], by simp only [go_sem, Nat.reduceEqDiff, reduceCtorEq, ↓reduceIte, Nat.reduceMul, Nat.reduceAdd, Nat.reduceLT, Nat.reduceLeDiff, Int.reduceLT, Int.reduceLE, Int.reduceToNat, Nat.reduceBEq, String.reduceNe, String.reduceEq, *], by simp only [go_sem, Nat.reduceEqDiff, reduceCtorEq, ↓reduceIte, Nat.reduceMul, Nat.reduceAdd, Nat.reduceLT, Nat.reduceLeDiff, Int.reduceLT, Int.reduceLE, Int.reduceToNat, Nat.reduceBEq, String.reduceNe, String.reduceEq, *], by simp only [go_sem, Nat.reduceEqDiff, reduceCtorEq, ↓reduceIte, Nat.reduceMul, Nat.reduceAdd, Nat.reduceLT, Nat.reduceLeDiff, Int.reduceLT, Int.reduceLE, Int.reduceToNat, Nat.reduceBEq, String.reduceNe, String.reduceEq, *] <;> rfl, Nat.zero_le _, ⟨fun j hj => by omega⟩⟩
    clear e1 eh
    rintro s2 K1 ⟨i, g2, e1, eh, e37, e38, e39, hi, hS⟩ hK1
    have hw := wi i (by omega)
    by_cases hlt : i < es.length
    · have hc := edge_fn (nth es i) ns.length (sE.out (nth es i) (nth_mem hlt))
      unfold rowE at hc
      by_cases hE : edgeErr ns.length (nth es i) = 0
      · have hN := Sec.mk (show ∀ j, j < i + 1 → edgeErr ns.length (nth es j) = 0 from fun j hj => by
          by_cases e : j = i
          · rw [e]; exact hE
          · exact hS.out j (by omega))
        rw [hE] at hc
        clear hE
        repeat (first
          | refine d_assoc ?_
          | refine d_sskip ?_
          | (refine d_sreg (by kernel_rfl) fun K hK => ?_; simp only [go_sem, Nat.reduceEqDiff, reduceCtorEq, ↓reduceIte, Nat.reduceMul, Nat.reduceAdd, Nat.reduceLT, Nat.reduceLeDiff, Int.reduceLT, Int.reduceLE, Int.reduceToNat, Nat.reduceBEq, String.reduceNe, String.reduceEq, *]; (first | refine hK.go _ ?_ | refine ⟨by omega, hK.go _ ?_⟩ | refine ⟨by omega, by omega, hK.go _ ?_⟩ | refine ⟨by omega, by omega, by omega, hK.go _ ?_⟩); clear hK K)
          | (refine d_reg (by kernel_rfl) fun K hK => ?_; simp only [go_sem, Nat.reduceEqDiff, reduceCtorEq, ↓reduceIte, Nat.reduceMul, Nat.reduceAdd, Nat.reduceLT, Nat.reduceLeDiff, Int.reduceLT, Int.reduceLE, Int.reduceToNat, Nat.reduceBEq, String.reduceNe, String.reduceEq, *]; (first | refine hK.go _ ?_ | refine ⟨by omega, hK.go _ ?_⟩ | refine ⟨by omega, by omega, hK.go _ ?_⟩ | refine ⟨by omega, by omega, by omega, hK.go _ ?_⟩); clear hK K)
          | (refine d_scond true rfl (fun _ => ?_) (fun h => by cases h))
          | (refine d_scond false rfl (fun h => by cases h) (fun _ => ?_))
          | (refine d_cond true rfl (fun _ => ?_) (fun h => by cases h))
          | (refine d_cond false rfl (fun h => by cases h) (fun _ => ?_))
          | refine d_exit ?_
          | refine d_sexit ?_
          | refine d_ret ?_
          | refine d_sret ?_
          | refine d_skip ?_)
        refine d_sblock fun K2 hK2 => ?_
        repeat (first
          | refine d_assoc ?_
          | refine d_sskip ?_
          | (refine d_sreg (by kernel_rfl) fun K hK => ?_; simp only [go_sem, Nat.reduceEqDiff, reduceCtorEq, ↓reduceIte, Nat.reduceMul, Nat.reduceAdd, Nat.reduceLT, Nat.reduceLeDiff, Int.reduceLT, Int.reduceLE, Int.reduceToNat, Nat.reduceBEq, String.reduceNe, String.reduceEq, *]; (first | refine hK.go _ ?_ | refine ⟨by omega, hK.go _ ?_⟩ | refine ⟨by omega, by omega, hK.go _ ?_⟩ | refine ⟨by omega, by omega, by omega, hK.go _ ?_⟩); clear hK K)
          | (refine d_reg (by kernel_rfl) fun K hK => ?_; simp only [go_sem, Nat.reduceEqDiff, reduceCtorEq, ↓reduceIte, Nat.reduceMul, Nat.reduceAdd, Nat.reduceLT, Nat.reduceLeDiff, Int.reduceLT, Int.reduceLE, Int.reduceToNat, Nat.reduceBEq, String.reduceNe, String.reduceEq, *]; (first | refine hK.go _ ?_ | refine ⟨by omega, hK.go _ ?_⟩ | refine ⟨by omega, by omega, hK.go _ ?_⟩ | refine ⟨by omega, by omega, by omega, hK.go _ ?_⟩); clear hK K)
          | (refine d_scond true rfl (fun _ => ?_) (fun h => by cases h))
          | (refine d_scond false rfl (fun h => by cases h) (fun _ => ?_))
          | (refine d_cond true rfl (fun _ => ?_) (fun h => by cases h))
          | (refine d_cond false rfl (fun h => by cases h) (fun _ => ?_))
          | refine d_exit ?_
          | refine d_sexit ?_
          | refine d_ret ?_
          | refine d_sret ?_
          | refine d_skip ?_)
        refine d_sreg (by kernel_rfl) fun K hK => ?_
        simp only [go_sem, Nat.reduceEqDiff, reduceCtorEq, ↓reduceIte, Nat.reduceMul, Nat.reduceAdd, Nat.reduceLT, Nat.reduceLeDiff, Int.reduceLT, Int.reduceLE, Int.reduceToNat, Nat.reduceBEq, String.reduceNe, String.reduceEq, *]
        repeat (refine ⟨by omega, ?_⟩)
        refine wp_call rfl (hc) (by first | exact .inl rfl | exact .inr rfl) ?_
        simp only [go_sem, Nat.reduceEqDiff, reduceCtorEq, ↓reduceIte, Nat.reduceMul, Nat.reduceAdd, Nat.reduceLT, Nat.reduceLeDiff, Int.reduceLT, Int.reduceLE, Int.reduceToNat, Nat.reduceBEq, String.reduceNe, String.reduceEq, *]
        (first | refine hK.go _ ?_ | refine ⟨by omega, hK.go _ ?_⟩ | refine ⟨by omega, by omega, hK.go _ ?_⟩); clear hK K
        repeat (first
          | refine d_assoc ?_
          | refine d_sskip ?_
          | (refine d_sreg (by kernel_rfl) fun K hK => ?_; simp only [go_sem, Nat.reduceEqDiff, reduceCtorEq, ↓reduceIte, Nat.reduceMul, Nat.reduceAdd, Nat.reduceLT, Nat.reduceLeDiff, Int.reduceLT, Int.reduceLE, Int.reduceToNat, Nat.reduceBEq, String.reduceNe, String.reduceEq, *]; (first | refine hK.go _ ?_ | refine ⟨by omega, hK.go _ ?_⟩ | refine ⟨by omega, by omega, hK.go _ ?_⟩ | refine ⟨by omega, by omega, by omega, hK.go _ ?_⟩); clear hK K)
          | (refine d_reg (by kernel_rfl) fun K hK => ?_; simp only [go_sem, Nat.reduceEqDiff, reduceCtorEq, ↓reduceIte, Nat.reduceMul, Nat.reduceAdd, Nat.reduceLT, Nat.reduceLeDiff, Int.reduceLT, Int.reduceLE, Int.reduceToNat, Nat.reduceBEq, String.reduceNe, String.reduceEq, *]; (first | refine hK.go _ ?_ | refine ⟨by omega, hK.go _ ?_⟩ | refine ⟨by omega, by omega, hK.go _ ?_⟩ | refine ⟨by omega, by omega, by omega, hK.go _ ?_⟩); clear hK K)
          | (refine d_scond true rfl (fun _ => ?_) (fun h => by cases h))
          | (refine d_scond false rfl (fun h => by cases h) (fun _ => ?_))
          | (refine d_cond true rfl (fun _ => ?_) (fun h => by cases h))
          | (refine d_cond false rfl (fun h => by cases h) (fun _ => ?_))
          | refine d_exit ?_
          | refine d_sexit ?_
          | refine d_ret ?_
          | refine d_sret ?_
          | refine d_skip ?_)
        repeat (first | simp only [thenD, blockD, Nat.reduceEqDiff, reduceCtorEq, ↓reduceIte] | refine Imp.go (by assumption) _ ?_)
        repeat (first
          | refine d_assoc ?_
          | refine d_sskip ?_
          | (refine d_sreg (by kernel_rfl) fun K hK => ?_; simp only [go_sem, Nat.reduceEqDiff, reduceCtorEq, ↓reduceIte, Nat.reduceMul, Nat.reduceAdd, Nat.reduceLT, Nat.reduceLeDiff, Int.reduceLT, Int.reduceLE, Int.reduceToNat, Nat.reduceBEq, String.reduceNe, String.reduceEq, *]; (first | refine hK.go _ ?_ | refine ⟨by omega, hK.go _ ?_⟩ | refine ⟨by omega, by omega, hK.go _ ?_⟩ | refine ⟨by omega, by omega, by omega, hK.go _ ?_⟩); clear hK K)
          | (refine d_reg (by kernel_rfl) fun K hK => ?_; simp only [go_sem, Nat.reduceEqDiff, reduceCtorEq, ↓reduceIte, Nat.reduceMul, Nat.reduceAdd, Nat.reduceLT, Nat.reduceLeDiff, Int.reduceLT, Int.reduceLE, Int.reduceToNat, Nat.reduceBEq, String.reduceNe, String.reduceEq, *]; (first | refine hK.go _ ?_ | refine ⟨by omega, hK.go _ ?_⟩ | refine ⟨by omega, by omega, hK.go _ ?_⟩ | refine ⟨by omega, by omega, by omega, hK.go _ ?_⟩); clear hK K)
          | (refine d_scond true rfl (fun _ => ?_) (fun h => by cases h))
          | (refine d_scond false rfl (fun h => by cases h) (fun _ => ?_))
          | (refine d_cond true rfl (fun _ => ?_) (fun h => by cases h))
          | (refine d_cond false rfl (fun h => by cases h) (fun _ => ?_))
          | refine d_exit ?_
          | refine d_sexit ?_
          | refine d_ret ?_
          | refine d_sret ?_
          | refine d_skip ?_)
        repeat (first | simp only [thenD, blockD, Nat.reduceEqDiff, reduceCtorEq, ↓reduceIte] | refine Imp.go (by assumption) _ ?_)
        exact ⟨⟨i + 1, g2, by simp only [go_sem, Nat.reduceEqDiff, reduceCtorEq, ↓reduceIte, Nat.reduceMul, Nat.reduceAdd, Nat.reduceLT, Nat.reduceLeDiff, Int.reduceLT, Int.reduceLE, Int.reduceToNat, Nat.reduceBEq, String.reduceNe, String.reduceEq, *], by simp only [go_sem, Nat.reduceEqDiff, reduceCtorEq, ↓reduceIte, Nat.reduceMul, Nat.reduceAdd, Nat.reduceLT, Nat.reduceLeDiff, Int.reduceLT, Int.reduceLE, Int.reduceToNat, Nat.reduceBEq, String.reduceNe, String.reduceEq, *], by simp only [go_sem, Nat.reduceEqDiff, reduceCtorEq, ↓reduceIte, Nat.reduceMul, Nat.reduceAdd, Nat.reduceLT, Nat.reduceLeDiff, Int.reduceLT, Int.reduceLE, Int.reduceToNat, Nat.reduceBEq, String.reduceNe, String.reduceEq, *], by simp only [go_sem, Nat.reduceEqDiff, reduceCtorEq, ↓reduceIte, Nat.reduceMul, Nat.reduceAdd, Nat.reduceLT, Nat.reduceLeDiff, Int.reduceLT, Int.reduceLE, Int.reduceToNat, Nat.reduceBEq, String.reduceNe, String.reduceEq, *], by simp only [go_sem, Nat.reduceEqDiff, reduceCtorEq, ↓reduceIte, Nat.reduceMul, Nat.reduceAdd, Nat.reduceLT, Nat.reduceLeDiff, Int.reduceLT, Int.reduceLE, Int.reduceToNat, Nat.reduceBEq, String.reduceNe, String.reduceEq, *], hlt, hN⟩, by simp only [go_sem, Nat.reduceEqDiff, reduceCtorEq, ↓reduceIte, Nat.reduceMul, Nat.reduceAdd, Nat.reduceLT, Nat.reduceLeDiff, Int.reduceLT, Int.reduceLE, Int.reduceToNat, Nat.reduceBEq, String.reduceNe, String.reduceEq, *, idx]; exact mlt hlt⟩
      · have hq := Sec.mk (show checkG ⟨ns, es⟩ = (((ns.length + i + 1 : Nat) : Int), edgeErr ns.length (nth es i)) by rw [hq0.out]; simp only [hnone.out, scan_at (edgeErr ns.length) es i hlt hS.out hE])
        have hw2 : IntKind.i64.wrap ((ns.length : Int) + (i : Int)) = ((ns.length + i : Nat) : Int) := by rw [IntWalk.i64_in _ (by omega)]; simp
        have hw3 := wi (ns.length + i) (by omega)
        generalize edgeErr ns.length (nth es i) = er at hc hE hq
        repeat (first
          | refine d_assoc ?_
          | refine d_sskip ?_
          | (refine d_sreg (by kernel_rfl) fun K hK => ?_; simp only [go_sem, Nat.reduceEqDiff, reduceCtorEq, ↓reduceIte, Nat.reduceMul, Nat.reduceAdd, Nat.reduceLT, Nat.reduceLeDiff, Int.reduceLT, Int.reduceLE, Int.reduceToNat, Nat.reduceBEq, String.reduceNe, String.reduceEq, *]; (first | refine hK.go _ ?_ | refine ⟨by omega, hK.go _ ?_⟩ | refine ⟨by omega, by omega, hK.go _ ?_⟩ | refine ⟨by omega, by omega, by omega, hK.go _ ?_⟩); clear hK K)
          | (refine d_reg (by kernel_rfl) fun K hK => ?_; simp only [go_sem, Nat.reduceEqDiff, reduceCtorEq, ↓reduceIte, Nat.reduceMul, Nat.reduceAdd, Nat.reduceLT, Nat.reduceLeDiff, Int.reduceLT, Int.reduceLE, Int.reduceToNat, Nat.reduceBEq, String.reduceNe, String.reduceEq, *]; (first | refine hK.go _ ?_ | refine ⟨by omega, hK.go _ ?_⟩ | refine ⟨by omega, by omega, hK.go _ ?_⟩ | refine ⟨by omega, by omega, by omega, hK.go _ ?_⟩); clear hK K)
          | (refine d_scond true rfl (fun _ => ?_) (fun h => by cases h))
          | (refine d_scond false rfl (fun h => by cases h) (fun _ => ?_))
          | (refine d_cond true rfl (fun _ => ?_) (fun h => by cases h))
          | (refine d_cond false rfl (fun h => by cases h) (fun _ => ?_))
          | refine d_exit ?_
          | refine d_sexit ?_
          | refine d_ret ?_
          | refine d_sret ?_
          | refine d_skip ?_)
        refine d_sblock fun K2 hK2 => ?_
        repeat (first
          | refine d_assoc ?_
          | refine d_sskip ?_
          | (refine d_sreg (by kernel_rfl) fun K hK => ?_; simp only [go_sem, Nat.reduceEqDiff, reduceCtorEq, ↓reduceIte, Nat.reduceMul, Nat.reduceAdd, Nat.reduceLT, Nat.reduceLeDiff, Int.reduceLT, Int.reduceLE, Int.reduceToNat, Nat.reduceBEq, String.reduceNe, String.reduceEq, *]; (first | refine hK.go _ ?_ | refine ⟨by omega, hK.go _ ?_⟩ | refine ⟨by omega, by omega, hK.go _ ?_⟩ | refine ⟨by omega, by omega, by omega, hK.go _ ?_⟩); clear hK K)
          | (refine d_reg (by kernel_rfl) fun K hK => ?_; simp only [go_sem, Nat.reduceEqDiff, reduceCtorEq, ↓reduceIte, Nat.reduceMul, Nat.reduceAdd, Nat.reduceLT, Nat.reduceLeDiff, Int.reduceLT, Int.reduceLE, Int.reduceToNat, Nat.reduceBEq, String.reduceNe, String.reduceEq, *]; (first | refine hK.go _ ?_ | refine ⟨by omega, hK.go _ ?_⟩ | refine ⟨by omega, by omega, hK.go _ ?_⟩ | refine ⟨by omega, by omega, by omega, hK.go _ ?_⟩); clear hK K)
          | (refine d_scond true rfl (fun _ => ?_) (fun h => by cases h))
          | (refine d_scond false rfl (fun h => by cases h) (fun _ => ?_))
          | (refine d_cond true rfl (fun _ => ?_) (fun h => by cases h))
          | (refine d_cond false rfl (fun h => by cases h) (fun _ => ?_))
          | refine d_exit ?_
          | refine d_sexit ?_
          | refine d_ret ?_
          | refine d_sret ?_
          | refine d_skip ?_)
        refine d_sreg (by kernel_rfl) fun K hK => ?_
        simp only [go_sem, Nat.reduceEqDiff, reduceCtorEq, ↓reduceIte, Nat.reduceMul, Nat.reduceAdd, Nat.reduceLT, Nat.reduceLeDiff, Int.reduceLT, Int.reduceLE, Int.reduceToNat, Nat.reduceBEq, String.reduceNe, String.reduceEq, *]
        repeat (refine ⟨by omega, ?_⟩)
        refine wp_call rfl (hc) (by first | exact .inl rfl | exact .inr rfl) ?_
        simp only [go_sem, Nat.reduceEqDiff, reduceCtorEq, ↓reduceIte, Nat.reduceMul, Nat.reduceAdd, Nat.reduceLT, Nat.reduceLeDiff, Int.reduceLT, Int.reduceLE, Int.reduceToNat, Nat.reduceBEq, String.reduceNe, String.reduceEq, *]
        (first | refine hK.go _ ?_ | refine ⟨by omega, hK.go _ ?_⟩ | refine ⟨by omega, by omega, hK.go _ ?_⟩); clear hK K
        repeat (first
          | refine d_assoc ?_
          | refine d_sskip ?_
          | (refine d_sreg (by kernel_rfl) fun K hK => ?_; simp only [go_sem, Nat.reduceEqDiff, reduceCtorEq, ↓reduceIte, Nat.reduceMul, Nat.reduceAdd, Nat.reduceLT, Nat.reduceLeDiff, Int.reduceLT, Int.reduceLE, Int.reduceToNat, Nat.reduceBEq, String.reduceNe, String.reduceEq, *]; (first | refine hK.go _ ?_ | refine ⟨by omega, hK.go _ ?_⟩ | refine ⟨by omega, by omega, hK.go _ ?_⟩ | refine ⟨by omega, by omega, by omega, hK.go _ ?_⟩); clear hK K)
          | (refine d_reg (by kernel_rfl) fun K hK => ?_; simp only [go_sem, Nat.reduceEqDiff, reduceCtorEq, ↓reduceIte, Nat.reduceMul, Nat.reduceAdd, Nat.reduceLT, Nat.reduceLeDiff, Int.reduceLT, Int.reduceLE, Int.reduceToNat, Nat.reduceBEq, String.reduceNe, String.reduceEq, *]; (first | refine hK.go _ ?_ | refine ⟨by omega, hK.go _ ?_⟩ | refine ⟨by omega, by omega, hK.go _ ?_⟩ | refine ⟨by omega, by omega, by omega, hK.go _ ?_⟩); clear hK K)
          | (refine d_scond true rfl (fun _ => ?_) (fun h => by cases h))
          | (refine d_scond false rfl (fun h => by cases h) (fun _ => ?_))
          | (refine d_cond true rfl (fun _ => ?_) (fun h => by cases h))
          | (refine d_cond false rfl (fun h => by cases h) (fun _ => ?_))
          | refine d_exit ?_
          | refine d_sexit ?_
          | refine d_ret ?_
          | refine d_sret ?_
          | refine d_skip ?_)
        repeat (first | simp only [thenD, blockD, Nat.reduceEqDiff, reduceCtorEq, ↓reduceIte] | refine Imp.go (by assumption) _ ?_)
        exact fin2 (.inr rfl) Tryd.results45 (by simp only [go_sem, Nat.reduceEqDiff, reduceCtorEq, ↓reduceIte, Nat.reduceMul, Nat.reduceAdd, Nat.reduceLT, Nat.reduceLeDiff, Int.reduceLT, Int.reduceLE, Int.reduceToNat, Nat.reduceBEq, String.reduceNe, String.reduceEq, *]; rw [hq.out]) (by simp only [go_sem, Nat.reduceEqDiff, reduceCtorEq, ↓reduceIte, Nat.reduceMul, Nat.reduceAdd, Nat.reduceLT, Nat.reduceLeDiff, Int.reduceLT, Int.reduceLE, Int.reduceToNat, Nat.reduceBEq, String.reduceNe, String.reduceEq, *]; rw [hq.out]) rfl rfl
    · have hq := Sec.mk (show checkG ⟨ns, es⟩ = (0, 0) by rw [hq0.out]; simp only [hnone.out, scan_none (edgeErr ns.length) es (fun j hj => hS.out j (by omega))])
      repeat (first
        | refine d_assoc ?_
        | refine d_sskip ?_
        | (refine d_sreg (by kernel_rfl) fun K hK => ?_; simp only [go_sem, Nat.reduceEqDiff, reduceCtorEq, ↓reduceIte, Nat.reduceMul, Nat.reduceAdd, Nat.reduceLT, Nat.reduceLeDiff, Int.reduceLT, Int.reduceLE, Int.reduceToNat, Nat.reduceBEq, String.reduceNe, String.reduceEq, *]; (first | refine hK.go _ ?_ | refine ⟨by omega, hK.go _ ?_⟩ | refine ⟨by omega, by omega, hK.go _ ?_⟩ | refine ⟨by omega, by omega, by omega, hK.go _ ?_⟩); clear hK K)
        | (refine d_reg (by kernel_rfl) fun K hK => ?_; simp only [go_sem, Nat.reduceEqDiff, reduceCtorEq, ↓reduceIte, Nat.reduceMul, Nat.reduceAdd, Nat.reduceLT, Nat.reduceLeDiff, Int.reduceLT, Int.reduceLE, Int.reduceToNat, Nat.reduceBEq, String.reduceNe, String.reduceEq, *]; (first | refine hK.go _ ?_ | refine ⟨by omega, hK.go _ ?_⟩ | refine ⟨by omega, by omega, hK.go _ ?_⟩ | refine ⟨by omega, by omega, by omega, hK.go _ ?_⟩); clear hK K)
        | (refine d_scond true rfl (fun _ => ?_) (fun h => by cases h))
        | (refine d_scond false rfl (fun h => by cases h) (fun _ => ?_))
        | (refine d_cond true rfl (fun _ => ?_) (fun h => by cases h))
        | (refine d_cond false rfl (fun h => by cases h) (fun _ => ?_))
        | refine d_exit ?_
        | refine d_sexit ?_
        | refine d_ret ?_
        | refine d_sret ?_
        | refine d_skip ?_)
      repeat (first | simp only [thenD, blockD, Nat.reduceEqDiff, reduceCtorEq, ↓reduceIte] | refine Imp.go (by assumption) _ ?_)
      repeat (first
        | refine d_assoc ?_
        | refine d_sskip ?_
        | (refine d_sreg (by kernel_rfl) fun K hK => ?_; simp only [go_sem, Nat.reduceEqDiff, reduceCtorEq, ↓reduceIte, Nat.reduceMul, Nat.reduceAdd, Nat.reduceLT, Nat.reduceLeDiff, Int.reduceLT, Int.reduceLE, Int.reduceToNat, Nat.reduceBEq, String.reduceNe, String.reduceEq, *]; (first | refine hK.go _ ?_ | refine ⟨by omega, hK.go _ ?_⟩ | refine ⟨by omega, by omega, hK.go _ ?_⟩ | refine ⟨by omega, by omega, by omega, hK.go _ ?_⟩); clear hK K)
        | (refine d_reg (by kernel_rfl) fun K hK => ?_; simp only [go_sem, Nat.reduceEqDiff, reduceCtorEq, ↓reduceIte, Nat.reduceMul, Nat.reduceAdd, Nat.reduceLT, Nat.reduceLeDiff, Int.reduceLT, Int.reduceLE, Int.reduceToNat, Nat.reduceBEq, String.reduceNe, String.reduceEq, *]; (first | refine hK.go _ ?_ | refine ⟨by omega, hK.go _ ?_⟩ | refine ⟨by omega, by omega, hK.go _ ?_⟩ | refine ⟨by omega, by omega, by omega, hK.go _ ?_⟩); clear hK K)
        | (refine d_scond true rfl (fun _ => ?_) (fun h => by cases h))
        | (refine d_scond false rfl (fun h => by cases h) (fun _ => ?_))
        | (refine d_cond true rfl (fun _ => ?_) (fun h => by cases h))
        | (refine d_cond false rfl (fun h => by cases h) (fun _ => ?_))
        | refine d_exit ?_
        | refine d_sexit ?_
        | refine d_ret ?_
        | refine d_sret ?_
        | refine d_skip ?_)
      exact fin2 (.inr rfl) Tryd.results45 (by simp only [go_sem, Nat.reduceEqDiff, reduceCtorEq, ↓reduceIte, Nat.reduceMul, Nat.reduceAdd, Nat.reduceLT, Nat.reduceLeDiff, Int.reduceLT, Int.reduceLE, Int.reduceToNat, Nat.reduceBEq, String.reduceNe, String.reduceEq, *]; rw [hq.out] <;> rfl) (by simp only [go_sem, Nat.reduceEqDiff, reduceCtorEq, ↓reduceIte, Nat.reduceMul, Nat.reduceAdd, Nat.reduceLT, Nat.reduceLeDiff, Int.reduceLT, Int.reduceLE, Int.reduceToNat, Nat.reduceBEq, String.reduceNe, String.reduceEq, *]; rw [hq.out] <;> rfl) rfl rfl
  · refine d_block fun K hK => ?_
    refine d_loop (fun s => ∃ (i g1 : Nat), s.env 1 = .ref (1, g1) 0 ∧ s.heap (1, g1) = some [.sl (ns.map rowN), .sl (es.map rowE)] ∧ s.env 21 = .sl (ns.map rowN) ∧ s.env 22 = iv .i64 ns.length ∧ s.env 23 = iv .i64 i ∧ i ≤ ns.length ∧ Sec (∀ j, j < i → nodeErr (nth ns j) = 0)) (fun s => ns.length - idx (s.env 23)) ?_ ?_
    · exact ⟨0, s.gen 1, by simp only [go_sem, Nat.reduceEqDiff, reduceCtorEq, ↓reduceIte, Nat.reduceMul, Nat.reduceAdd, Nat.reduceLT, Nat.reduceLeDiff, Int.reduceLT, Int.reduceLE, Int.reduceToNat, Nat.reduceBEq, String.reduceNe, String.reduceEq, *], by simp only [go_sem, Nat.reduceEqDiff, reduceCtorEq, ↓reduceIte, Nat.reduceMul, Nat.reduceAdd, Nat.reduceLT, Nat.reduceLeDiff, Int.reduceLT, Int.reduceLE, Int.reduceToNat, Nat.reduceBEq, String.reduceNe, String.reduceEq, *], by simp only [go_sem, Nat.reduceEqDiff, reduceCtorEq, ↓reduceIte, Nat.reduceMul, Nat.reduceAdd, Nat.reduceLT, Nat.reduceLeDiff, Int.reduceLT, Int.reduceLE, Int.reduceToNat, Nat.reduceBEq, String.reduceNe, String.reduceEq, *], by simp only [go_sem, Nat.reduceEqDiff, reduceCtorEq, ↓reduceIte, Nat.reduceMul, Nat.reduceAdd, Nat.reduceLT, Nat.reduceLeDiff, Int.reduceLT, Int.reduceLE, Int.reduceToNat, Nat.reduceBEq, String.reduceNe, String.reduceEq, *], by simp only [go_sem, Nat.reduceEqDiff, reduceCtorEq, ↓reduceIte, Nat.reduceMul, Nat.reduceAdd, Nat.reduceLT, Nat.reduceLeDiff, Int.reduceLT, Int.reduceLE, Int.reduceToNat, Nat.reduceBEq, String.reduceNe, String.reduceEq, *] <;> rfl, Nat.zero_le _, ⟨fun j hj => by omega⟩⟩
    clear e0
    rintro s1 K1 ⟨i, g1, e1, eh, e21, e22, e23, hi, hS⟩ hK1
    have hw := wi i (by omega)
    by_cases hlt : i < ns.length
    · have hz := Sec.mk (sN.out (nth ns i) (nth_mem hlt))
      have hc := node_fn (nth ns i) hz.out.l hz.out.p hz.out.n
      unfold rowN at hc
      by_cases hE : nodeErr (nth ns i) = 0
      · have hN := Sec.mk (show ∀ j, j < i + 1 → nodeErr (nth ns j) = 0 from fun j hj => by
          by_cases e : j = i
          · rw [e]; exact hE
          · exact hS.out j (by omega))
        rw [hE] at hc
        clear hE
        repeat (first
          | refine d_assoc ?_
          | refine d_sskip ?_
          | (refine d_sreg (by kernel_rfl) fun K hK => ?_; simp only [go_sem, Nat.reduceEqDiff, reduceCtorEq, ↓reduceIte, Nat.reduceMul, Nat.reduceAdd, Nat.reduceLT, Nat.reduceLeDiff, Int.reduceLT, Int.reduceLE, Int.reduceToNat, Nat.reduceBEq, String.reduceNe, String.reduceEq, *]; (first | refine hK.go _ ?_ | refine ⟨by omega, hK.go _ ?_⟩ | refine ⟨by omega, by omega, hK.go _ ?_⟩ | refine ⟨by omega, by omega, by omega, hK.go _ ?_⟩); clear hK K)
          | (refine d_reg (by kernel_rfl) fun K hK => ?_; simp only [go_sem, Nat.reduceEqDiff, reduceCtorEq, ↓reduceIte, Nat.reduceMul, Nat.reduceAdd, Nat.reduceLT, Nat.reduceLeDiff, Int.reduceLT, Int.reduceLE, Int.reduceToNat, Nat.reduceBEq, String.reduceNe, String.reduceEq, *]; (first | refine hK.go _ ?_ | refine ⟨by omega, hK.go _ ?_⟩ | refine ⟨by omega, by omega, hK.go _ ?_⟩ | refine ⟨by omega, by omega, by omega, hK.go _ ?_⟩); clear hK K)
          | (refine d_scond true rfl (fun _ => ?_) (fun h => by cases h))
          | (refine d_scond false rfl (fun h => by cases h) (fun _ => ?_))
          | (refine d_cond true rfl (fun _ => ?_) (fun h => by cases h))
          | (refine d_cond false rfl (fun h => by cases h) (fun _ => ?_))
          | refine d_exit ?_
          | refine d_sexit ?_
          | refine d_ret ?_
          | refine d_sret ?_
          | refine d_skip ?_)
        refine d_sblock fun K2 hK2 => ?_
        repeat (first
          | refine d_assoc ?_
          | refine d_sskip ?_
          | (refine d_sreg (by kernel_rfl) fun K hK => ?_; simp only [go_sem, Nat.reduceEqDiff, reduceCtorEq, ↓reduceIte, Nat.reduceMul, Nat.reduceAdd, Nat.reduceLT, Nat.reduceLeDiff, Int.reduceLT, Int.reduceLE, Int.reduceToNat, Nat.reduceBEq, String.reduceNe, String.reduceEq, *]; (first | refine hK.go _ ?_ | refine ⟨by omega, hK.go _ ?_⟩ | refine ⟨by omega, by omega, hK.go _ ?_⟩ | refine ⟨by omega, by omega, by omega, hK.go _ ?_⟩); clear hK K)
          | (refine d_reg (by kernel_rfl) fun K hK => ?_; simp only [go_sem, Nat.reduceEqDiff, reduceCtorEq, ↓reduceIte, Nat.reduceMul, Nat.reduceAdd, Nat.reduceLT, Nat.reduceLeDiff, Int.reduceLT, Int.reduceLE, Int.reduceToNat, Nat.reduceBEq, String.reduceNe, String.reduceEq, *]; (first | refine hK.go _ ?_ | refine ⟨by omega, hK.go _ ?_⟩ | refine ⟨by omega, by omega, hK.go _ ?_⟩ | refine ⟨by omega, by omega, by omega, hK.go _ ?_⟩); clear hK K)
          | (refine d_scond true rfl (fun _ => ?_) (fun h => by cases h))
          | (refine d_scond false rfl (fun h => by cases h) (fun _ => ?_))
          | (refine d_cond true rfl (fun _ => ?_) (fun h => by cases h))
          | (refine d_cond false rfl (fun h => by cases h) (fun _ => ?_))
          | refine d_exit ?_
          | refine d_sexit ?_
          | refine d_ret ?_
          | refine d_sret ?_
          | refine d_skip ?_)
        refine d_sreg (by kernel_rfl) fun K hK => ?_
        simp only [go_sem, Nat.reduceEqDiff, reduceCtorEq, ↓reduceIte, Nat.reduceMul, Nat.reduceAdd, Nat.reduceLT, Nat.reduceLeDiff, Int.reduceLT, Int.reduceLE, Int.reduceToNat, Nat.reduceBEq, String.reduceNe, String.reduceEq, *]
        repeat (refine ⟨by omega, ?_⟩)
        refine wp_call rfl (hc) (by first | exact .inl rfl | exact .inr rfl) ?_
        simp only [go_sem, Nat.reduceEqDiff, reduceCtorEq, ↓reduceIte, Nat.reduceMul, Nat.reduceAdd, Nat.reduceLT, Nat.reduceLeDiff, Int.reduceLT, Int.reduceLE, Int.reduceToNat, Nat.reduceBEq, String.reduceNe, String.reduceEq, *]
        (first | refine hK.go _ ?_ | refine ⟨by omega, hK.go _ ?_⟩ | refine ⟨by omega, by omega, hK.go _ ?_⟩); clear hK K
        repeat (first
          | refine d_assoc ?_
          | refine d_sskip ?_
          | (refine d_sreg (by kernel_rfl) fun K hK => ?_; simp only [go_sem, Nat.reduceEqDiff, reduceCtorEq, ↓reduceIte, Nat.reduceMul, Nat.reduceAdd, Nat.reduceLT, Nat.reduceLeDiff, Int.reduceLT, Int.reduceLE, Int.reduceToNat, Nat.reduceBEq, String.reduceNe, String.reduceEq, *]; (first | refine hK.go _ ?_ | refine ⟨by omega, hK.go _ ?_⟩ | refine ⟨by omega, by omega, hK.go _ ?_⟩ | refine ⟨by omega, by omega, by omega, hK.go _ ?_⟩); clear hK K)
          | (refine d_reg (by kernel_rfl) fun K hK => ?_; simp only [go_sem, Nat.reduceEqDiff, reduceCtorEq, ↓reduceIte, Nat.reduceMul, Nat.reduceAdd, Nat.reduceLT, Nat.reduceLeDiff, Int.reduceLT, Int.reduceLE, Int.reduceToNat, Nat.reduceBEq, String.reduceNe, String.reduceEq, *]; (first | refine hK.go _ ?_ | refine ⟨by omega, hK.go _ ?_⟩ | refine ⟨by omega, by omega, hK.go _ ?_⟩ | refine ⟨by omega, by omega, by omega, hK.go _ ?_⟩); clear hK K)
          | (refine d_scond true rfl (fun _ => ?_) (fun h => by cases h))
          | (refine d_scond false rfl (fun h => by cases h) (fun _ => ?_))
          | (refine d_cond true rfl (fun _ => ?_) (fun h => by cases h))
          | (refine d_cond false rfl (fun h => by cases h) (fun _ => ?_))
          | refine d_exit ?_
          | refine d_sexit ?_
          | refine d_ret ?_
          | refine d_sret ?_
          | refine d_skip ?_)
        repeat (first | simp only [thenD, blockD, Nat.reduceEqDiff, reduceCtorEq, ↓reduceIte] | refine Imp.go (by assumption) _ ?_)
        repeat (first
          | refine d_assoc ?_
          | refine d_sskip ?_
          | (refine d_sreg (by kernel_rfl) fun K hK => ?_; simp only [go_sem, Nat.reduceEqDiff, reduceCtorEq, ↓reduceIte, Nat.reduceMul, Nat.reduceAdd, Nat.reduceLT, Nat.reduceLeDiff, Int.reduceLT, Int.reduceLE, Int.reduceToNat, Nat.reduceBEq, String.reduceNe, String.reduceEq, *]; (first | refine hK.go _ ?_ | refine ⟨by omega, hK.go _ ?_⟩ | refine ⟨by omega, by omega, hK.go _ ?_⟩ | refine ⟨by omega, by omega, by omega, hK.go _ ?_⟩); clear hK K)
          | (refine d_reg (by kernel_rfl) fun K hK => ?_; simp only [go_sem, Nat.reduceEqDiff, reduceCtorEq, ↓reduceIte, Nat.reduceMul, Nat.reduceAdd, Nat.reduceLT, Nat.reduceLeDiff, Int.reduceLT, Int.reduceLE, Int.reduceToNat, Nat.reduceBEq, String.reduceNe, String.reduceEq, *]; (first | refine hK.go _ ?_ | refine ⟨by omega, hK.go _ ?_⟩ | refine ⟨by omega, by omega, hK.go _ ?_⟩ | refine ⟨by omega, by omega, by omega, hK.go _ ?_⟩); clear hK K)
          | (refine d_scond true rfl (fun _ => ?_) (fun h => by cases h))
          | (refine d_scond false rfl (fun h => by cases h) (fun _ => ?_))
          | (refine d_cond true rfl (fun _ => ?_) (fun h => by cases h))
          | (refine d_cond false rfl (fun h => by cases h) (fun _ => ?_))
          | refine d_exit ?_
          | refine d_sexit ?_
          | refine d_ret ?_
          | refine d_sret ?_
          | refine d_skip ?_)
        repeat (first | simp only [thenD, blockD, Nat.reduceEqDiff, reduceCtorEq, ↓reduceIte] | refine Imp.go (by assumption) _ ?_)
        exact ⟨⟨i + 1, g1, by simp only [go_sem, Nat.reduceEqDiff, reduceCtorEq, ↓reduceIte, Nat.reduceMul, Nat.reduceAdd, Nat.reduceLT, Nat.reduceLeDiff, Int.reduceLT, Int.reduceLE, Int.reduceToNat, Nat.reduceBEq, String.reduceNe, String.reduceEq, *], by simp only [go_sem, Nat.reduceEqDiff, reduceCtorEq, ↓reduceIte, Nat.reduceMul, Nat.reduceAdd, Nat.reduceLT, Nat.reduceLeDiff, Int.reduceLT, Int.reduceLE, Int.reduceToNat, Nat.reduceBEq, String.reduceNe, String.reduceEq, *], by simp only [go_sem, Nat.reduceEqDiff, reduceCtorEq, ↓reduceIte, Nat.reduceMul, Nat.reduceAdd, Nat.reduceLT, Nat.reduceLeDiff, Int.reduceLT, Int.reduceLE, Int.reduceToNat, Nat.reduceBEq, String.reduceNe, String.reduceEq, *], by simp only [go_sem, Nat.reduceEqDiff, reduceCtorEq, ↓reduceIte, Nat.reduceMul, Nat.reduceAdd, Nat.reduceLT, Nat.reduceLeDiff, Int.reduceLT, Int.reduceLE, Int.reduceToNat, Nat.reduceBEq, String.reduceNe, String.reduceEq, *], by simp only [go_sem, Nat.reduceEqDiff, reduceCtorEq, ↓reduceIte, Nat.reduceMul, Nat.reduceAdd, Nat.reduceLT, Nat.reduceLeDiff, Int.reduceLT, Int.reduceLE, Int.reduceToNat, Nat.reduceBEq, String.reduceNe, String.reduceEq, *], hlt, hN⟩, by simp only [go_sem, Nat.reduceEqDiff, reduceCtorEq, ↓reduceIte, Nat.reduceMul, Nat.reduceAdd, Nat.reduceLT, Nat.reduceLeDiff, Int.reduceLT, Int.reduceLE, Int.reduceToNat, Nat.reduceBEq, String.reduceNe, String.reduceEq, *, idx]; exact mlt hlt⟩
      · have hq := Sec.mk (show checkG ⟨ns, es⟩ = (((i + 1 : Nat) : Int), nodeErr (nth ns i)) by rw [hq0.out]; simp only [scan_at nodeErr ns i hlt hS.out hE])
        generalize nodeErr (nth ns i) = er at hc hE hq
        repeat (first
          | refine d_assoc ?_
          | refine d_sskip ?_
          | (refine d_sreg (by kernel_rfl) fun K hK => ?_; simp only [go_sem, Nat.reduceEqDiff, reduceCtorEq, ↓reduceIte, Nat.reduceMul, Nat.reduceAdd, Nat.reduceLT, Nat.reduceLeDiff, Int.reduceLT, Int.reduceLE, Int.reduceToNat, Nat.reduceBEq, String.reduceNe, String.reduceEq, *]; (first | refine hK.go _ ?_ | refine ⟨by omega, hK.go _ ?_⟩ | refine ⟨by omega, by omega, hK.go _ ?_⟩ | refine ⟨by omega, by omega, by omega, hK.go _ ?_⟩); clear hK K)
          | (refine d_reg (by kernel_rfl) fun K hK => ?_; simp only [go_sem, Nat.reduceEqDiff, reduceCtorEq, ↓reduceIte, Nat.reduceMul, Nat.reduceAdd, Nat.reduceLT, Nat.reduceLeDiff, Int.reduceLT, Int.reduceLE, Int.reduceToNat, Nat.reduceBEq, String.reduceNe, String.reduceEq, *]; (first | refine hK.go _ ?_ | refine ⟨by omega, hK.go _ ?_⟩ | refine ⟨by omega, by omega, hK.go _ ?_⟩ | refine ⟨by omega, by omega, by omega, hK.go _ ?_⟩); clear hK K)
          | (refine d_scond true rfl (fun _ => ?_) (fun h => by cases h))
          | (refine d_scond false rfl (fun h => by cases h) (fun _ => ?_))
          | (refine d_cond true rfl (fun _ => ?_) (fun h => by cases h))
          | (refine d_cond false rfl (fun h => by cases h) (fun _ => ?_))
          | refine d_exit ?_
          | refine d_sexit ?_
          | refine d_ret ?_
          | refine d_sret ?_
          | refine d_skip ?_)
        refine d_sblock fun K2 hK2 => ?_
        repeat (first
          | refine d_assoc ?_
          | refine d_sskip ?_
          | (refine d_sreg (by kernel_rfl) fun K hK => ?_; simp only [go_sem, Nat.reduceEqDiff, reduceCtorEq, ↓reduceIte, Nat.reduceMul, Nat.reduceAdd, Nat.reduceLT, Nat.reduceLeDiff, Int.reduceLT, Int.reduceLE, Int.reduceToNat, Nat.reduceBEq, String.reduceNe, String.reduceEq, *]; (first | refine hK.go _ ?_ | refine ⟨by omega, hK.go _ ?_⟩ | refine ⟨by omega, by omega, hK.go _ ?_⟩ | refine ⟨by omega, by omega, by omega, hK.go _ ?_⟩); clear hK K)
          | (refine d_reg (by kernel_rfl) fun K hK => ?_; simp only [go_sem, Nat.reduceEqDiff, reduceCtorEq, ↓reduceIte, Nat.reduceMul, Nat.reduceAdd, Nat.reduceLT, Nat.reduceLeDiff, Int.reduceLT, Int.reduceLE, Int.reduceToNat, Nat.reduceBEq, String.reduceNe, String.reduceEq, *]; (first | refine hK.go _ ?_ | refine ⟨by omega, hK.go _ ?_⟩ | refine ⟨by omega, by omega, hK.go _ ?_⟩ | refine ⟨by omega, by omega, by omega, hK.go _ ?_⟩); clear hK K)
          | (refine d_scond true rfl (fun _ => ?_) (fun h => by cases h))
          | (refine d_scond false rfl (fun h => by cases h) (fun _ => ?_))
          | (refine d_cond true rfl (fun _ => ?_) (fun h => by cases h))
          | (refine d_cond false rfl (fun h => by cases h) (fun _ => ?_))
          | refine d_exit ?_
          | refine d_sexit ?_
          | refine d_ret ?_
          | refine d_sret ?_
          | refine d_skip ?_)
        refine d_sreg (by kernel_rfl) fun K hK => ?_
        simp only [go_sem, Nat.reduceEqDiff, reduceCtorEq, ↓reduceIte, Nat.reduceMul, Nat.reduceAdd, Nat.reduceLT, Nat.reduceLeDiff, Int.reduceLT, Int.reduceLE, Int.reduceToNat, Nat.reduceBEq, String.reduceNe, String.reduceEq, *]
        repeat (refine ⟨by omega, ?_⟩)
        refine wp_call rfl (hc) (by first | exact .inl rfl | exact .inr rfl) ?_
        simp only [go_sem, Nat.reduceEqDiff, reduceCtorEq, ↓reduceIte, Nat.reduceMul, Nat.reduceAdd, Nat.reduceLT, Nat.reduceLeDiff, Int.reduceLT, Int.reduceLE, Int.reduceToNat, Nat.reduceBEq, String.reduceNe, String.reduceEq, *]
        (first | refine hK.go _ ?_ | refine ⟨by omega, hK.go _ ?_⟩ | refine ⟨by omega, by omega, hK.go _ ?_⟩); clear hK K
        repeat (first
          | refine d_assoc ?_
          | refine d_sskip ?_
          | (refine d_sreg (by kernel_rfl) fun K hK => ?_; simp only [go_sem, Nat.reduceEqDiff, reduceCtorEq, ↓reduceIte, Nat.reduceMul, Nat.reduceAdd, Nat.reduceLT, Nat.reduceLeDiff, Int.reduceLT, Int.reduceLE, Int.reduceToNat, Nat.reduceBEq, String.reduceNe, String.reduceEq, *]; (first | refine hK.go _ ?_ | refine ⟨by omega, hK.go _ ?_⟩ | refine ⟨by omega, by omega, hK.go _ ?_⟩ | refine ⟨by omega, by omega, by omega, hK.go _ ?_⟩); clear hK K)
          | (refine d_reg (by kernel_rfl) fun K hK => ?_; simp only [go_sem, Nat.reduceEqDiff, reduceCtorEq, ↓reduceIte, Nat.reduceMul, Nat.reduceAdd, Nat.reduceLT, Nat.reduceLeDiff, Int.reduceLT, Int.reduceLE, Int.reduceToNat, Nat.reduceBEq, String.reduceNe, String.reduceEq, *]; (first | refine hK.go _ ?_ | refine ⟨by omega, hK.go _ ?_⟩ | refine ⟨by omega, by omega, hK.go _ ?_⟩ | refine ⟨by omega, by omega, by omega, hK.go _ ?_⟩); clear hK K)
          | (refine d_scond true rfl (fun _ => ?_) (fun h => by cases h))
          | (refine d_scond false rfl (fun h => by cases h) (fun _ => ?_))
          | (refine d_cond true rfl (fun _ => ?_) (fun h => by cases h))
          | (refine d_cond false rfl (fun h => by cases h) (fun _ => ?_))
          | refine d_exit ?_
          | refine d_sexit ?_
          | refine d_ret ?_
          | refine d_sret ?_
          | refine d_skip ?_)
        repeat (first | simp only [thenD, blockD, Nat.reduceEqDiff, reduceCtorEq, ↓reduceIte] | refine Imp.go (by assumption) _ ?_)
        exact fin2 (.inr rfl) Tryd.results45 (by simp only [go_sem, Nat.reduceEqDiff, reduceCtorEq, ↓reduceIte, Nat.reduceMul, Nat.reduceAdd, Nat.reduceLT, Nat.reduceLeDiff, Int.reduceLT, Int.reduceLE, Int.reduceToNat, Nat.reduceBEq, String.reduceNe, String.reduceEq, *]; rw [hq.out]) (by simp only [go_sem, Nat.reduceEqDiff, reduceCtorEq, ↓reduceIte, Nat.reduceMul, Nat.reduceAdd, Nat.reduceLT, Nat.reduceLeDiff, Int.reduceLT, Int.reduceLE, Int.reduceToNat, Nat.reduceBEq, String.reduceNe, String.reduceEq, *]; rw [hq.out]) rfl rfl
    · have hA := Sec.mk (show ∀ j, j < ns.length → nodeErr (nth ns j) = 0 from fun j hj => hS.out j (by omega))
      repeat (first
        | refine d_assoc ?_
        | refine d_sskip ?_
        | (refine d_sreg (by kernel_rfl) fun K hK => ?_; simp only [go_sem, Nat.reduceEqDiff, reduceCtorEq, ↓reduceIte, Nat.reduceMul, Nat.reduceAdd, Nat.reduceLT, Nat.reduceLeDiff, Int.reduceLT, Int.reduceLE, Int.reduceToNat, Nat.reduceBEq, String.reduceNe, String.reduceEq, *]; (first | refine hK.go _ ?_ | refine ⟨by omega, hK.go _ ?_⟩ | refine ⟨by omega, by omega, hK.go _ ?_⟩ | refine ⟨by omega, by omega, by omega, hK.go _ ?_⟩); clear hK K)
        | (refine d_reg (by kernel_rfl) fun K hK => ?_; simp only [go_sem, Nat.reduceEqDiff, reduceCtorEq, ↓reduceIte, Nat.reduceMul, Nat.reduceAdd, Nat.reduceLT, Nat.reduceLeDiff, Int.reduceLT, Int.reduceLE, Int.reduceToNat, Nat.reduceBEq, String.reduceNe, String.reduceEq, *]; (first | refine hK.go _ ?_ | refine ⟨by omega, hK.go _ ?_⟩ | refine ⟨by omega, by omega, hK.go _ ?_⟩ | refine ⟨by omega, by omega, by omega, hK.go _ ?_⟩); clear hK K)
        | (refine d_scond true rfl (fun _ => ?_) (fun h => by cases h))
        | (refine d_scond false rfl (fun h => by cases h) (fun _ => ?_))
        | (refine d_cond true rfl (fun _ => ?_) (fun h => by cases h))
        | (refine d_cond false rfl (fun h => by cases h) (fun _ => ?_))
        | refine d_exit ?_
        | refine d_sexit ?_
        | refine d_ret ?_
        | refine d_sret ?_
        | refine d_skip ?_)
      repeat (first | simp only [thenD, blockD, Nat.reduceEqDiff, reduceCtorEq, ↓reduceIte] | refine Imp.go (by assumption) _ ?_)
      exact ⟨g1, by simp only [go_sem, Nat.reduceEqDiff, reduceCtorEq, ↓reduceIte, Nat.reduceMul, Nat.reduceAdd, Nat.reduceLT, Nat.reduceLeDiff, Int.reduceLT, Int.reduceLE, Int.reduceToNat, Nat.reduceBEq, String.reduceNe, String.reduceEq, *], by simp only [go_sem, Nat.reduceEqDiff, reduceCtorEq, ↓reduceIte, Nat.reduceMul, Nat.reduceAdd, Nat.reduceLT, Nat.reduceLeDiff, Int.reduceLT, Int.reduceLE, Int.reduceToNat, Nat.reduceBEq, String.reduceNe, String.reduceEq, *], hA⟩
end Go.Proofs.YtnlodeadhnonpaaDoor.D
namespace Go.Proofs.YtnlodeadhnonpaaDoor.D
open Go.RowKit Go.Proofs.YtnlodeadhnonpaaDoor.Mem
set_option linter.unusedVariables false
set_option linter.unusedSimpArgs false
attribute [local irreducible] wpD wpL
attribute [local go_sem] ne_eq not_true_eq_false not_false_eq_true List.getD_cons_zero Int.lt_irrefl bs_mk str cast0 beq_decide bne_decide beqL natCast_inj' nat_zero bs_nil bt_eq List.length_map rowsN rowsE rowN rowE
theorem Check_fn (g : PG) (hs : SizedG g) : FnD Tryd.prog 33 [G2 g] (.tup [iv .i64 (checkG g).1, iv .i64 (checkG g).2]) := by
  have hc := check_fn g hs
  generalize checkG g = r at hc
  obtain ⟨r1, r2⟩ := r
  refine fn1 mixed Tryd.func33 (by kernel_rfl) rfl Tryd.ntmps33 (by decide) fun s e0 => ?_
  unfold G2 at e0
  repeat (first
    | refine d_assoc ?_
    | refine d_sskip ?_
    | (refine d_sreg (by kernel_rfl) fun K hK => ?_; simp only [go_sem, Nat.reduceEqDiff, reduceCtorEq, ↓reduceIte, Nat.reduceMul, Nat.reduceAdd, Nat.reduceLT, Nat.reduceLeDiff, Int.reduceLT, Int.reduceLE, Int.reduceToNat, Nat.reduceBEq, String.reduceNe, String.reduceEq, *]; (first | refine hK.go _ ?_ | refine ⟨by omega, hK.go _ ?_⟩ | refine ⟨by omega, by omega, hK.go _ ?_⟩ | refine ⟨by omega, by omega, by omega, hK.go _ ?_⟩); clear hK K)
    | (refine d_reg (by kernel_rfl) fun K hK => ?_; simp only [go_sem, Nat.reduceEqDiff, reduceCtorEq, ↓reduceIte, Nat.reduceMul, Nat.reduceAdd, Nat.reduceLT, Nat.reduceLeDiff, Int.reduceLT, Int.reduceLE, Int.reduceToNat, Nat.reduceBEq, String.reduceNe, String.reduceEq, *]; (first | refine hK.go _ ?_ | refine ⟨by omega, hK.go _ ?_⟩ | refine ⟨by omega, by omega, hK.go _ ?_⟩ | refine ⟨by omega, by omega, by omega, hK.go _ ?_⟩); clear hK K)
    | (refine d_scond true rfl (fun _ => ?_) (fun h => by cases h))
    | (refine d_scond false rfl (fun h => by cases h) (fun _ => ?_))
    | (refine d_cond true rfl (fun _ => ?_) (fun h => by cases h))
    | (refine d_cond false rfl (fun h => by cases h) (fun _ => ?_))
    | refine d_exit ?_
    | refine d_sexit ?_
    | refine d_ret ?_
    | refine d_sret ?_
    | refine d_skip ?_)
  refine d_sreg (by kernel_rfl) fun K hK => ?_
  simp only [go_sem, Nat.reduceEqDiff, reduceCtorEq, ↓reduceIte, Nat.reduceMul, Nat.reduceAdd, Nat.reduceLT, Nat.reduceLeDiff, Int.reduceLT, Int.reduceLE, Int.reduceToNat, Nat.reduceBEq, String.reduceNe, String.reduceEq, *]
  repeat (refine ⟨by omega, ?_⟩)
  refine wp_call rfl (hc) (by first | exact .inl rfl | exact .inr rfl) ?_
  simp only [go_sem, Nat.reduceEqDiff, reduceCtorEq, ↓reduceIte, Nat.reduceMul, Nat.reduceAdd, Nat.reduceLT, Nat.reduceLeDiff, Int.reduceLT, Int.reduceLE, Int.reduceToNat, Nat.reduceBEq, String.reduceNe, String.reduceEq, *]
  (first | refine hK.go _ ?_ | refine ⟨by omega, hK.go _ ?_⟩ | refine ⟨by omega, by omega, hK.go _ ?_⟩); clear hK K
  repeat (first
    | refine d_assoc ?_
    | refine d_sskip ?_
    | (refine d_sreg (by kernel_rfl) fun K hK => ?_; simp only [go_sem, Nat.reduceEqDiff, reduceCtorEq, ↓reduceIte, Nat.reduceMul, Nat.reduceAdd, Nat.reduceLT, Nat.reduceLeDiff, Int.reduceLT, Int.reduceLE, Int.reduceToNat, Nat.reduceBEq, String.reduceNe, String.reduceEq, *]; (first | refine hK.go _ ?_ | refine ⟨by omega, hK.go _ ?_⟩ | refine ⟨by omega, by omega, hK.go _ ?_⟩ | refine ⟨by omega, by omega, by omega, hK.go _ ?_⟩); clear hK K)
    | (refine d_reg (by kernel_rfl) fun K hK => ?_; simp only [go_sem, Nat.reduceEqDiff, reduceCtorEq, ↓reduceIte, Nat.reduceMul, Nat.reduceAdd, Nat.reduceLT, Nat.reduceLeDiff, Int.reduceLT, Int.reduceLE, Int.reduceToNat, Nat.reduceBEq, String.reduceNe, String.reduceEq, *]; (first | refine hK.go _ ?_ | refine ⟨by omega, hK.go _ ?_⟩ | refine ⟨by omega, by omega, hK.go _ ?_⟩ | refine ⟨by omega, by omega, by omega, hK.go _ ?_⟩); clear hK K)
    | (refine d_scond true rfl (fun _ => ?_) (fun h => by cases h))
    | (refine d_scond false rfl (fun h => by cases h) (fun _ => ?_))
    | (refine d_cond true rfl (fun _ => ?_) (fun h => by cases h))
    | (refine d_cond false rfl (fun h => by cases h) (fun _ => ?_))
    | refine d_exit ?_
    | refine d_sexit ?_
    | refine d_ret ?_
    | refine d_sret ?_
    | refine d_skip ?_)
  exact fin2 (.inr rfl) Tryd.results33 (by simp only [go_sem, Nat.reduceEqDiff, reduceCtorEq, ↓reduceIte, Nat.reduceMul, Nat.reduceAdd, Nat.reduceLT, Nat.reduceLeDiff, Int.reduceLT, Int.reduceLE, Int.reduceToNat, Nat.reduceBEq, String.reduceNe, String.reduceEq, *] <;> rfl) (by simp only [go_sem, Nat.reduceEqDiff, reduceCtorEq, ↓reduceIte, Nat.reduceMul, Nat.reduceAdd, Nat.reduceLT, Nat.reduceLeDiff, Int.reduceLT, Int.reduceLE, Int.reduceToNat, Nat.reduceBEq, String.reduceNe, String.reduceEq, *] <;> rfl) rfl rfl
theorem Good_fn (g : PG) (hs : SizedG g) : FnD Tryd.prog 35 [G2 g] (bv (decide ((checkG g).2 = 0))) := by
  have hc := check_fn g hs
  generalize checkG g = r at hc
  obtain ⟨r1, r2⟩ := r
  refine fn1 mixed Tryd.func35 (by kernel_rfl) rfl Tryd.ntmps35 (by decide) fun s e0 => ?_
  unfold G2 at e0
  repeat (first
    | refine d_assoc ?_
    | refine d_sskip ?_
    | (refine d_sreg (by kernel_rfl) fun K hK => ?_; simp only [go_sem, Nat.reduceEqDiff, reduceCtorEq, ↓reduceIte, Nat.reduceMul, Nat.reduceAdd, Nat.reduceLT, Nat.reduceLeDiff, Int.reduceLT, Int.reduceLE, Int.reduceToNat, Nat.reduceBEq, String.reduceNe, String.reduceEq, *]; (first | refine hK.go _ ?_ | refine ⟨by omega, hK.go _ ?_⟩ | refine ⟨by omega, by omega, hK.go _ ?_⟩ | refine ⟨by omega, by omega, by omega, hK.go _ ?_⟩); clear hK K)
    | (refine d_reg (by kernel_rfl) fun K hK => ?_; simp only [go_sem, Nat.reduceEqDiff, reduceCtorEq, ↓reduceIte, Nat.reduceMul, Nat.reduceAdd, Nat.reduceLT, Nat.reduceLeDiff, Int.reduceLT, Int.reduceLE, Int.reduceToNat, Nat.reduceBEq, String.reduceNe, String.reduceEq, *]; (first | refine hK.go _ ?_ | refine ⟨by omega, hK.go _ ?_⟩ | refine ⟨by omega, by omega, hK.go _ ?_⟩ | refine ⟨by omega, by omega, by omega, hK.go _ ?_⟩); clear hK K)
    | (refine d_scond true rfl (fun _ => ?_) (fun h => by cases h))
    | (refine d_scond false rfl (fun h => by cases h) (fun _ => ?_))
    | (refine d_cond true rfl (fun _ => ?_) (fun h => by cases h))
    | (refine d_cond false rfl (fun h => by cases h) (fun _ => ?_))
    | refine d_exit ?_
    | refine d_sexit ?_
    | refine d_ret ?_
    | refine d_sret ?_
    | refine d_skip ?_)
  refine d_sreg (by kernel_rfl) fun K hK => ?_
  simp only [go_sem, Nat.reduceEqDiff, reduceCtorEq, ↓reduceIte, Nat.reduceMul, Nat.reduceAdd, Nat.reduceLT, Nat.reduceLeDiff, Int.reduceLT, Int.reduceLE, Int.reduceToNat, Nat.reduceBEq, String.reduceNe, String.reduceEq, *]
  repeat (refine ⟨by omega, ?_⟩)
  refine wp_call rfl (hc) (by first | exact .inl rfl | exact .inr rfl) ?_
  simp only [go_sem, Nat.reduceEqDiff, reduceCtorEq, ↓reduceIte, Nat.reduceMul, Nat.reduceAdd, Nat.reduceLT, Nat.reduceLeDiff, Int.reduceLT, Int.reduceLE, Int.reduceToNat, Nat.reduceBEq, String.reduceNe, String.reduceEq, *]
  (first | refine hK.go _ ?_ | refine ⟨by omega, hK.go _ ?_⟩ | refine ⟨by omega, by omega, hK.go _ ?_⟩); clear hK K
  repeat (first
    | refine d_assoc ?_
    | refine d_sskip ?_
    | (refine d_sreg (by kernel_rfl) fun K hK => ?_; simp only [go_sem, Nat.reduceEqDiff, reduceCtorEq, ↓reduceIte, Nat.reduceMul, Nat.reduceAdd, Nat.reduceLT, Nat.reduceLeDiff, Int.reduceLT, Int.reduceLE, Int.reduceToNat, Nat.reduceBEq, String.reduceNe, String.reduceEq, *]; (first | refine hK.go _ ?_ | refine ⟨by omega, hK.go _ ?_⟩ | refine ⟨by omega, by omega, hK.go _ ?_⟩ | refine ⟨by omega, by omega, by omega, hK.go _ ?_⟩); clear hK K)
    | (refine d_reg (by kernel_rfl) fun K hK => ?_; simp only [go_sem, Nat.reduceEqDiff, reduceCtorEq, ↓reduceIte, Nat.reduceMul, Nat.reduceAdd, Nat.reduceLT, Nat.reduceLeDiff, Int.reduceLT, Int.reduceLE, Int.reduceToNat, Nat.reduceBEq, String.reduceNe, String.reduceEq, *]; (first | refine hK.go _ ?_ | refine ⟨by omega, hK.go _ ?_⟩ | refine ⟨by omega, by omega, hK.go _ ?_⟩ | refine ⟨by omega, by omega, by omega, hK.go _ ?_⟩); clear hK K)
    | (refine d_scond true rfl (fun _ => ?_) (fun h => by cases h))
    | (refine d_scond false rfl (fun h => by cases h) (fun _ => ?_))
    | (refine d_cond true rfl (fun _ => ?_) (fun h => by cases h))
    | (refine d_cond false rfl (fun h => by cases h) (fun _ => ?_))
    | refine d_exit ?_
    | refine d_sexit ?_
    | refine d_ret ?_
    | refine d_sret ?_
    | refine d_skip ?_)
  exact fin1 (.inr rfl) Tryd.results35 (by simp only [go_sem, Nat.reduceEqDiff, reduceCtorEq, ↓reduceIte, Nat.reduceMul, Nat.reduceAdd, Nat.reduceLT, Nat.reduceLeDiff, Int.reduceLT, Int.reduceLE, Int.reduceToNat, Nat.reduceBEq, String.reduceNe, String.reduceEq, *] <;> rfl) rfl
end Go.Proofs.YtnlodeadhnonpaaDoor.D
namespace Go.Proofs.YtnlodeadhnonpaaDoor.D
open Go.RowKit Go.Proofs.YtnlodeadhnonpaaDoor.Mem
set_option linter.unusedVariables false
set_option linter.unusedSimpArgs false
def hasN (l : List PP) (k : List UInt8) : Bool := l.any fun q => decide (q.name = k)
def twS (l : List PP) : Bool × List PP := l.foldl (fun a p => (a.1 || hasN a.2 p.name, a.2 ++ [p])) (false, [])
/-- Whether a name comes twice. -/
def tw (l : List PP) : Bool := (twS l).1
theorem twS_snd (l : List PP) : (twS l).2 = l := by
  have : ∀ (l : List PP) (a : Bool × List PP), (l.foldl (fun a p => (a.1 || hasN a.2 p.name, a.2 ++ [p])) a).2 = a.2 ++ l := by
    intro l
    induction l with
    | nil => intro a; simp
    | cons p l ih => intro a; rw [List.foldl_cons, ih]; simp
  rw [twS, this]; rfl
theorem tw_snoc (l : List PP) (p : PP) : tw (l ++ [p]) = (tw l || hasN l p.name) := by
  have h := twS_snd l
  unfold tw
  unfold twS at h ⊢
  rw [List.foldl_append, List.foldl_cons, List.foldl_nil, h]
theorem putM_find {β : Type} (k k' : List UInt8) (v : β) : ∀ m : List (List UInt8 × β), (findM k' (putM k v m)).isSome = ((findM k' m).isSome || decide (k = k')) := by
  intro m
  induction m with
  | nil =>
    simp only [putM, findM]
    by_cases h : k' = k
    · subst h; simp
    · simp [h, Ne.symm h]
  | cons p m ih =>
    unfold putM
    by_cases h : k = p.1
    · rw [if_pos h]
      unfold findM
      by_cases h2 : k' = p.1
      · rw [if_pos (by simp only [h, h2]), if_pos h2]; simp
      · rw [if_neg (by simp only [h]; exact h2), if_neg h2]
        have : ¬ k = k' := fun e => h2 (e.symm.trans h)
        simp [this]
    · rw [if_neg h]
      unfold findM
      by_cases h2 : k' = p.1
      · rw [if_pos h2, if_pos h2]; simp
      · rw [if_neg h2, if_neg h2, ih]
theorem putM_size {β : Type} (k : List UInt8) (v : β) : ∀ m : List (List UInt8 × β), (putM k v m).length = if (findM k m).isSome then m.length else m.length + 1 := by
  intro m
  induction m with
  | nil => simp [putM, findM]
  | cons p m ih =>
    unfold putM findM
    by_cases h : k = p.1
    · rw [if_pos h, if_pos h]; simp
    · rw [if_neg h, if_neg h, List.length_cons, ih]
      split <;> simp
theorem keys_law (l : List PP) : (∀ k, (findM k (keysM l)).isSome = hasN l k) ∧ (keysM l).length ≤ l.length ∧ tw l = decide ((keysM l).length < l.length) := by
  rw [← List.reverse_reverse l]
  induction l.reverse with
  | nil => exact ⟨fun k => rfl, Nat.le_refl _, rfl⟩
  | cons p r ih =>
    rw [List.reverse_cons, keysM_snoc, tw_snoc]
    obtain ⟨h1, h2, h3⟩ := ih
    refine ⟨fun k => ?_, ?_, ?_⟩
    · rw [putM_find, h1, hasN, hasN, List.any_append]; simp
    · rw [putM_size]
      have : (r.reverse ++ [p]).length = r.reverse.length + 1 := by simp
      split <;> omega
    · rw [putM_size, h1, h3]
      have : (r.reverse ++ [p]).length = r.reverse.length + 1 := by simp
      rw [this]
      cases hb : hasN r.reverse p.name with
      | true =>
        have h2' := h2
        rw [List.length_reverse] at h2'
        simp; omega
      | false => simp
end Go.Proofs.YtnlodeadhnonpaaDoor.D
namespace Go.Proofs.YtnlodeadhnonpaaDoor.D
open Go.RowKit Go.Proofs.YtnlodeadhnonpaaDoor.Mem
set_option linter.unusedVariables false
set_option linter.unusedSimpArgs false
attribute [local irreducible] wpD wpL
attribute [local go_sem] ne_eq not_true_eq_false not_false_eq_true List.getD_cons_zero Int.lt_irrefl bs_mk str cast0 beq_decide bne_decide beqL natCast_inj' nat_zero bs_nil bt_eq List.length_map rowP rowsP
theorem hasN_snoc (ps : List PP) (k : Nat) (h : k < ps.length) (x : List UInt8) : hasN (ps.take (k + 1)) x = (hasN (ps.take k) x || decide ((nth ps k).name = x)) := by
  rw [take_nth ps k h, hasN, hasN, List.any_append]; simp
theorem tw_next (ps : List PP) (i : Nat) (h : i < ps.length) : tw (ps.take (i + 1)) = (tw (ps.take i) || hasN (ps.take i) (nth ps i).name) := by
  rw [take_nth ps i h, tw_snoc]
theorem refNode_fn (nd : PN) (hp : ∀ p ∈ nd.props, p.v.t.length ≤ 1000000) (hn : nd.props.length ≤ 1000000) : FnD Tryd.prog 48 [.agg (rowN nd)] (iv .i64 (nodeErr nd)) := by
  obtain ⟨lab, ps⟩ := nd
  have hc := refName_fn lab
  refine fn1 mixed Tryd.func48 (by kernel_rfl) rfl Tryd.ntmps48 (by decide) fun s e0 => ?_
  unfold rowN at e0
  simp only at e0 hp hn
  by_cases hL : isName lab = false
  · have hq := Sec.mk (show nodeErr ⟨lab, ps⟩ = 2 from if_pos hL)
    rw [hL] at hc
    clear hp
    repeat (first
      | refine d_assoc ?_
      | refine d_sskip ?_
      | (refine d_sreg (by kernel_rfl) fun K hK => ?_; simp only [go_sem, Nat.reduceEqDiff, reduceCtorEq, ↓reduceIte, Nat.reduceMul, Nat.reduceAdd, Nat.reduceLT, Nat.reduceLeDiff, Int.reduceLT, Int.reduceLE, Int.reduceToNat, Nat.reduceBEq, String.reduceNe, String.reduceEq, *]; (first | refine hK.go _ ?_ | refine ⟨by omega, hK.go _ ?_⟩ | refine ⟨by omega, by omega, hK.go _ ?_⟩ | refine ⟨by omega, by omega, by omega, hK.go _ ?_⟩); clear hK K)
      | (refine d_reg (by kernel_rfl) fun K hK => ?_; simp only [go_sem, Nat.reduceEqDiff, reduceCtorEq, ↓reduceIte, Nat.reduceMul, Nat.reduceAdd, Nat.reduceLT, Nat.reduceLeDiff, Int.reduceLT, Int.reduceLE, Int.reduceToNat, Nat.reduceBEq, String.reduceNe, String.reduceEq, *]; (first | refine hK.go _ ?_ | refine ⟨by omega, hK.go _ ?_⟩ | refine ⟨by omega, by omega, hK.go _ ?_⟩ | refine ⟨by omega, by omega, by omega, hK.go _ ?_⟩); clear hK K)
      | (refine d_scond true rfl (fun _ => ?_) (fun h => by cases h))
      | (refine d_scond false rfl (fun h => by cases h) (fun _ => ?_))
      | (refine d_cond true rfl (fun _ => ?_) (fun h => by cases h))
      | (refine d_cond false rfl (fun h => by cases h) (fun _ => ?_))
      | refine d_exit ?_
      | refine d_sexit ?_
      | refine d_ret ?_
      | refine d_sret ?_
      | refine d_skip ?_)
    refine d_sreg (by kernel_rfl) fun K hK => ?_
    simp only [go_sem, Nat.reduceEqDiff, reduceCtorEq, ↓reduceIte, Nat.reduceMul, Nat.reduceAdd, Nat.reduceLT, Nat.reduceLeDiff, Int.reduceLT, Int.reduceLE, Int.reduceToNat, Nat.reduceBEq, String.reduceNe, String.reduceEq, *]
    repeat (refine ⟨by omega, ?_⟩)
    refine wp_call rfl (hc) (by first | exact .inl rfl | exact .inr rfl) ?_
    simp only [go_sem, Nat.reduceEqDiff, reduceCtorEq, ↓reduceIte, Nat.reduceMul, Nat.reduceAdd, Nat.reduceLT, Nat.reduceLeDiff, Int.reduceLT, Int.reduceLE, Int.reduceToNat, Nat.reduceBEq, String.reduceNe, String.reduceEq, *]
    (first | refine hK.go _ ?_ | refine ⟨by omega, hK.go _ ?_⟩ | refine ⟨by omega, by omega, hK.go _ ?_⟩); clear hK K
    repeat (first
      | refine d_assoc ?_
      | refine d_sskip ?_
      | (refine d_sreg (by kernel_rfl) fun K hK => ?_; simp only [go_sem, Nat.reduceEqDiff, reduceCtorEq, ↓reduceIte, Nat.reduceMul, Nat.reduceAdd, Nat.reduceLT, Nat.reduceLeDiff, Int.reduceLT, Int.reduceLE, Int.reduceToNat, Nat.reduceBEq, String.reduceNe, String.reduceEq, *]; (first | refine hK.go _ ?_ | refine ⟨by omega, hK.go _ ?_⟩ | refine ⟨by omega, by omega, hK.go _ ?_⟩ | refine ⟨by omega, by omega, by omega, hK.go _ ?_⟩); clear hK K)
      | (refine d_reg (by kernel_rfl) fun K hK => ?_; simp only [go_sem, Nat.reduceEqDiff, reduceCtorEq, ↓reduceIte, Nat.reduceMul, Nat.reduceAdd, Nat.reduceLT, Nat.reduceLeDiff, Int.reduceLT, Int.reduceLE, Int.reduceToNat, Nat.reduceBEq, String.reduceNe, String.reduceEq, *]; (first | refine hK.go _ ?_ | refine ⟨by omega, hK.go _ ?_⟩ | refine ⟨by omega, by omega, hK.go _ ?_⟩ | refine ⟨by omega, by omega, by omega, hK.go _ ?_⟩); clear hK K)
      | (refine d_scond true rfl (fun _ => ?_) (fun h => by cases h))
      | (refine d_scond false rfl (fun h => by cases h) (fun _ => ?_))
      | (refine d_cond true rfl (fun _ => ?_) (fun h => by cases h))
      | (refine d_cond false rfl (fun h => by cases h) (fun _ => ?_))
      | refine d_exit ?_
      | refine d_sexit ?_
      | refine d_ret ?_
      | refine d_sret ?_
      | refine d_skip ?_)
    exact fin1 (.inr rfl) Tryd.results48 (by simp only [go_sem, Nat.reduceEqDiff, reduceCtorEq, ↓reduceIte, Nat.reduceMul, Nat.reduceAdd, Nat.reduceLT, Nat.reduceLeDiff, Int.reduceLT, Int.reduceLE, Int.reduceToNat, Nat.reduceBEq, String.reduceNe, String.reduceEq, *]; rw [hq.out]) rfl
  have hL' : isName lab = true := by simpa using hL
  rw [hL'] at hc
  have hp := Sec.mk hp
  repeat (first
    | refine d_assoc ?_
    | refine d_sskip ?_
    | (refine d_sreg (by kernel_rfl) fun K hK => ?_; simp only [go_sem, Nat.reduceEqDiff, reduceCtorEq, ↓reduceIte, Nat.reduceMul, Nat.reduceAdd, Nat.reduceLT, Nat.reduceLeDiff, Int.reduceLT, Int.reduceLE, Int.reduceToNat, Nat.reduceBEq, String.reduceNe, String.reduceEq, *]; (first | refine hK.go _ ?_ | refine ⟨by omega, hK.go _ ?_⟩ | refine ⟨by omega, by omega, hK.go _ ?_⟩ | refine ⟨by omega, by omega, by omega, hK.go _ ?_⟩); clear hK K)
    | (refine d_reg (by kernel_rfl) fun K hK => ?_; simp only [go_sem, Nat.reduceEqDiff, reduceCtorEq, ↓reduceIte, Nat.reduceMul, Nat.reduceAdd, Nat.reduceLT, Nat.reduceLeDiff, Int.reduceLT, Int.reduceLE, Int.reduceToNat, Nat.reduceBEq, String.reduceNe, String.reduceEq, *]; (first | refine hK.go _ ?_ | refine ⟨by omega, hK.go _ ?_⟩ | refine ⟨by omega, by omega, hK.go _ ?_⟩ | refine ⟨by omega, by omega, by omega, hK.go _ ?_⟩); clear hK K)
    | (refine d_scond true rfl (fun _ => ?_) (fun h => by cases h))
    | (refine d_scond false rfl (fun h => by cases h) (fun _ => ?_))
    | (refine d_cond true rfl (fun _ => ?_) (fun h => by cases h))
    | (refine d_cond false rfl (fun h => by cases h) (fun _ => ?_))
    | refine d_exit ?_
    | refine d_sexit ?_
    | refine d_ret ?_
    | refine d_sret ?_
    | refine d_skip ?_)
  refine d_sreg (by kernel_rfl) fun K hK => ?_
  simp only [go_sem, Nat.reduceEqDiff, reduceCtorEq, ↓reduceIte, Nat.reduceMul, Nat.reduceAdd, Nat.reduceLT, Nat.reduceLeDiff, Int.reduceLT, Int.reduceLE, Int.reduceToNat, Nat.reduceBEq, String.reduceNe, String.reduceEq, *]
  repeat (refine ⟨by omega, ?_⟩)
  refine wp_call rfl (hc) (by first | exact .inl rfl | exact .inr rfl) ?_
  simp only [go_sem, Nat.reduceEqDiff, reduceCtorEq, ↓reduceIte, Nat.reduceMul, Nat.reduceAdd, Nat.reduceLT, Nat.reduceLeDiff, Int.reduceLT, Int.reduceLE, Int.reduceToNat, Nat.reduceBEq, String.reduceNe, String.reduceEq, *]
  (first | refine hK.go _ ?_ | refine ⟨by omega, hK.go _ ?_⟩ | refine ⟨by omega, by omega, hK.go _ ?_⟩); clear hK K
  repeat (first
    | refine d_assoc ?_
    | refine d_sskip ?_
    | (refine d_sreg (by kernel_rfl) fun K hK => ?_; simp only [go_sem, Nat.reduceEqDiff, reduceCtorEq, ↓reduceIte, Nat.reduceMul, Nat.reduceAdd, Nat.reduceLT, Nat.reduceLeDiff, Int.reduceLT, Int.reduceLE, Int.reduceToNat, Nat.reduceBEq, String.reduceNe, String.reduceEq, *]; (first | refine hK.go _ ?_ | refine ⟨by omega, hK.go _ ?_⟩ | refine ⟨by omega, by omega, hK.go _ ?_⟩ | refine ⟨by omega, by omega, by omega, hK.go _ ?_⟩); clear hK K)
    | (refine d_reg (by kernel_rfl) fun K hK => ?_; simp only [go_sem, Nat.reduceEqDiff, reduceCtorEq, ↓reduceIte, Nat.reduceMul, Nat.reduceAdd, Nat.reduceLT, Nat.reduceLeDiff, Int.reduceLT, Int.reduceLE, Int.reduceToNat, Nat.reduceBEq, String.reduceNe, String.reduceEq, *]; (first | refine hK.go _ ?_ | refine ⟨by omega, hK.go _ ?_⟩ | refine ⟨by omega, by omega, hK.go _ ?_⟩ | refine ⟨by omega, by omega, by omega, hK.go _ ?_⟩); clear hK K)
    | (refine d_scond true rfl (fun _ => ?_) (fun h => by cases h))
    | (refine d_scond false rfl (fun h => by cases h) (fun _ => ?_))
    | (refine d_cond true rfl (fun _ => ?_) (fun h => by cases h))
    | (refine d_cond false rfl (fun h => by cases h) (fun _ => ?_))
    | refine d_exit ?_
    | refine d_sexit ?_
    | refine d_ret ?_
    | refine d_sret ?_
    | refine d_skip ?_)
  refine d_sblock fun K hK => ?_
  refine d_loop (fun s => ∃ (i g : Nat), s.env 1 = .ref (1, g) 0 ∧ s.heap (1, g) = some [sv lab, .sl (ps.map rowP)] ∧ s.env 3 = bv (tw (ps.take i)) ∧ s.env 4 = iv .i64 i ∧ i ≤ ps.length ∧ Sec (∀ j, j < i → badP (nth ps j) = false)) (fun s => ps.length - idx (s.env 4)) ?_ ?_
  · exact ⟨0, s.gen 1, by simp only [go_sem, Nat.reduceEqDiff, reduceCtorEq, ↓reduceIte, Nat.reduceMul, Nat.reduceAdd, Nat.reduceLT, Nat.reduceLeDiff, Int.reduceLT, Int.reduceLE, Int.reduceToNat, Nat.reduceBEq, String.reduceNe, String.reduceEq, *], by simp only [go_sem, Nat.reduceEqDiff, reduceCtorEq, ↓reduceIte, Nat.reduceMul, Nat.reduceAdd, Nat.reduceLT, Nat.reduceLeDiff, Int.reduceLT, Int.reduceLE, Int.reduceToNat, Nat.reduceBEq, String.reduceNe, String.reduceEq, *], by simp only [go_sem, Nat.reduceEqDiff, reduceCtorEq, ↓reduceIte, Nat.reduceMul, Nat.reduceAdd, Nat.reduceLT, Nat.reduceLeDiff, Int.reduceLT, Int.reduceLE, Int.reduceToNat, Nat.reduceBEq, String.reduceNe, String.reduceEq, *] <;> rfl, by simp only [go_sem, Nat.reduceEqDiff, reduceCtorEq, ↓reduceIte, Nat.reduceMul, Nat.reduceAdd, Nat.reduceLT, Nat.reduceLeDiff, Int.reduceLT, Int.reduceLE, Int.reduceToNat, Nat.reduceBEq, String.reduceNe, String.reduceEq, *] <;> rfl, Nat.zero_le _, ⟨fun j hj => by omega⟩⟩
  clear e0 hc hL
  rintro s1 K1 ⟨i, g, e1, eh, e3, e4, hi, hS⟩ hK1
  have hw := wi i (by omega)
  by_cases h1 : i < ps.length
  · have hpi := Sec.mk (hp.out (nth ps i) (nth_mem h1))
    have hcn := refName_fn (nth ps i).name
    have hcg := refGood_fn (nth ps i).v hpi.out
    have hbad := Sec.mk (show badP (nth ps i) = true → nodeErr ⟨lab, ps⟩ = 2 from fun h => by
      unfold nodeErr; rw [if_neg (by rw [hL']; simp), if_pos (any_of h1 h)])
    have hgood := Sec.mk (show badP (nth ps i) = false → Sec (∀ j, j < i + 1 → badP (nth ps j) = false) from fun h => ⟨fun j hj => by
      by_cases e : j = i
      · rw [e]; exact h
      · exact hS.out j (by omega)⟩)
    have hT := Sec.mk (tw_next ps i h1)
    generalize tw (ps.take i) = T at e3 hT
    by_cases hN : isName (nth ps i).name = true
    · rw [hN] at hcn
      by_cases hG : goodV (nth ps i).v = true
      · rw [hG] at hcg
        by_cases hk : (nth ps i).v.k = 0
        · have hq := Sec.mk (hbad.out (by unfold badP; rw [hN, hG, hk]; rfl))
          unfold V at hcg
          rw [hk] at hcg
          clear hbad hgood hpi
          repeat (first
            | refine d_assoc ?_
            | refine d_sskip ?_
            | (refine d_sreg (by kernel_rfl) fun K hK => ?_; simp only [go_sem, Nat.reduceEqDiff, reduceCtorEq, ↓reduceIte, Nat.reduceMul, Nat.reduceAdd, Nat.reduceLT, Nat.reduceLeDiff, Int.reduceLT, Int.reduceLE, Int.reduceToNat, Nat.reduceBEq, String.reduceNe, String.reduceEq, *]; (first | refine hK.go _ ?_ | refine ⟨by omega, hK.go _ ?_⟩ | refine ⟨by omega, by omega, hK.go _ ?_⟩ | refine ⟨by omega, by omega, by omega, hK.go _ ?_⟩); clear hK K)
            | (refine d_reg (by kernel_rfl) fun K hK => ?_; simp only [go_sem, Nat.reduceEqDiff, reduceCtorEq, ↓reduceIte, Nat.reduceMul, Nat.reduceAdd, Nat.reduceLT, Nat.reduceLeDiff, Int.reduceLT, Int.reduceLE, Int.reduceToNat, Nat.reduceBEq, String.reduceNe, String.reduceEq, *]; (first | refine hK.go _ ?_ | refine ⟨by omega, hK.go _ ?_⟩ | refine ⟨by omega, by omega, hK.go _ ?_⟩ | refine ⟨by omega, by omega, by omega, hK.go _ ?_⟩); clear hK K)
            | (refine d_scond true rfl (fun _ => ?_) (fun h => by cases h))
            | (refine d_scond false rfl (fun h => by cases h) (fun _ => ?_))
            | (refine d_cond true rfl (fun _ => ?_) (fun h => by cases h))
            | (refine d_cond false rfl (fun h => by cases h) (fun _ => ?_))
            | refine d_exit ?_
            | refine d_sexit ?_
            | refine d_ret ?_
            | refine d_sret ?_
            | refine d_skip ?_)
          refine d_sblock fun K2 hK2 => ?_
          repeat (first
            | refine d_assoc ?_
            | refine d_sskip ?_
            | (refine d_sreg (by kernel_rfl) fun K hK => ?_; simp only [go_sem, Nat.reduceEqDiff, reduceCtorEq, ↓reduceIte, Nat.reduceMul, Nat.reduceAdd, Nat.reduceLT, Nat.reduceLeDiff, Int.reduceLT, Int.reduceLE, Int.reduceToNat, Nat.reduceBEq, String.reduceNe, String.reduceEq, *]; (first | refine hK.go _ ?_ | refine ⟨by omega, hK.go _ ?_⟩ | refine ⟨by omega, by omega, hK.go _ ?_⟩ | refine ⟨by omega, by omega, by omega, hK.go _ ?_⟩); clear hK K)
            | (refine d_reg (by kernel_rfl) fun K hK => ?_; simp only [go_sem, Nat.reduceEqDiff, reduceCtorEq, ↓reduceIte, Nat.reduceMul, Nat.reduceAdd, Nat.reduceLT, Nat.reduceLeDiff, Int.reduceLT, Int.reduceLE, Int.reduceToNat, Nat.reduceBEq, String.reduceNe, String.reduceEq, *]; (first | refine hK.go _ ?_ | refine ⟨by omega, hK.go _ ?_⟩ | refine ⟨by omega, by omega, hK.go _ ?_⟩ | refine ⟨by omega, by omega, by omega, hK.go _ ?_⟩); clear hK K)
            | (refine d_scond true rfl (fun _ => ?_) (fun h => by cases h))
            | (refine d_scond false rfl (fun h => by cases h) (fun _ => ?_))
            | (refine d_cond true rfl (fun _ => ?_) (fun h => by cases h))
            | (refine d_cond false rfl (fun h => by cases h) (fun _ => ?_))
            | refine d_exit ?_
            | refine d_sexit ?_
            | refine d_ret ?_
            | refine d_sret ?_
            | refine d_skip ?_)
          refine d_sreg (by kernel_rfl) fun K hK => ?_
          simp only [go_sem, Nat.reduceEqDiff, reduceCtorEq, ↓reduceIte, Nat.reduceMul, Nat.reduceAdd, Nat.reduceLT, Nat.reduceLeDiff, Int.reduceLT, Int.reduceLE, Int.reduceToNat, Nat.reduceBEq, String.reduceNe, String.reduceEq, *]
          repeat (refine ⟨by omega, ?_⟩)
          refine wp_call rfl (hcn) (by first | exact .inl rfl | exact .inr rfl) ?_
          simp only [go_sem, Nat.reduceEqDiff, reduceCtorEq, ↓reduceIte, Nat.reduceMul, Nat.reduceAdd, Nat.reduceLT, Nat.reduceLeDiff, Int.reduceLT, Int.reduceLE, Int.reduceToNat, Nat.reduceBEq, String.reduceNe, String.reduceEq, *]
          repeat (refine ⟨by omega, ?_⟩)
          refine wp_call rfl (hcg) (by first | exact .inl rfl | exact .inr rfl) ?_
          simp only [go_sem, Nat.reduceEqDiff, reduceCtorEq, ↓reduceIte, Nat.reduceMul, Nat.reduceAdd, Nat.reduceLT, Nat.reduceLeDiff, Int.reduceLT, Int.reduceLE, Int.reduceToNat, Nat.reduceBEq, String.reduceNe, String.reduceEq, *]
          (first | refine hK.go _ ?_ | refine ⟨by omega, hK.go _ ?_⟩ | refine ⟨by omega, by omega, hK.go _ ?_⟩); clear hK K
          repeat (first
            | refine d_assoc ?_
            | refine d_sskip ?_
            | (refine d_sreg (by kernel_rfl) fun K hK => ?_; simp only [go_sem, Nat.reduceEqDiff, reduceCtorEq, ↓reduceIte, Nat.reduceMul, Nat.reduceAdd, Nat.reduceLT, Nat.reduceLeDiff, Int.reduceLT, Int.reduceLE, Int.reduceToNat, Nat.reduceBEq, String.reduceNe, String.reduceEq, *]; (first | refine hK.go _ ?_ | refine ⟨by omega, hK.go _ ?_⟩ | refine ⟨by omega, by omega, hK.go _ ?_⟩ | refine ⟨by omega, by omega, by omega, hK.go _ ?_⟩); clear hK K)
            | (refine d_reg (by kernel_rfl) fun K hK => ?_; simp only [go_sem, Nat.reduceEqDiff, reduceCtorEq, ↓reduceIte, Nat.reduceMul, Nat.reduceAdd, Nat.reduceLT, Nat.reduceLeDiff, Int.reduceLT, Int.reduceLE, Int.reduceToNat, Nat.reduceBEq, String.reduceNe, String.reduceEq, *]; (first | refine hK.go _ ?_ | refine ⟨by omega, hK.go _ ?_⟩ | refine ⟨by omega, by omega, hK.go _ ?_⟩ | refine ⟨by omega, by omega, by omega, hK.go _ ?_⟩); clear hK K)
            | (refine d_scond true rfl (fun _ => ?_) (fun h => by cases h))
            | (refine d_scond false rfl (fun h => by cases h) (fun _ => ?_))
            | (refine d_cond true rfl (fun _ => ?_) (fun h => by cases h))
            | (refine d_cond false rfl (fun h => by cases h) (fun _ => ?_))
            | refine d_exit ?_
            | refine d_sexit ?_
            | refine d_ret ?_
            | refine d_sret ?_
            | refine d_skip ?_)
          repeat (first | simp only [thenD, blockD, Nat.reduceEqDiff, reduceCtorEq, ↓reduceIte] | refine Imp.go (by assumption) _ ?_)
          exact fin1 (.inr rfl) Tryd.results48 (by simp only [go_sem, Nat.reduceEqDiff, reduceCtorEq, ↓reduceIte, Nat.reduceMul, Nat.reduceAdd, Nat.reduceLT, Nat.reduceLeDiff, Int.reduceLT, Int.reduceLE, Int.reduceToNat, Nat.reduceBEq, String.reduceNe, String.reduceEq, *]; rw [hq.out]) rfl
        · have hB := hgood.out (by unfold badP; rw [hN, hG, decide_eq_true hk]; rfl)
          clear hbad hgood hpi
          repeat (first
            | refine d_assoc ?_
            | refine d_sskip ?_
            | (refine d_sreg (by kernel_rfl) fun K hK => ?_; simp only [go_sem, Nat.reduceEqDiff, reduceCtorEq, ↓reduceIte, Nat.reduceMul, Nat.reduceAdd, Nat.reduceLT, Nat.reduceLeDiff, Int.reduceLT, Int.reduceLE, Int.reduceToNat, Nat.reduceBEq, String.reduceNe, String.reduceEq, *]; (first | refine hK.go _ ?_ | refine ⟨by omega, hK.go _ ?_⟩ | refine ⟨by omega, by omega, hK.go _ ?_⟩ | refine ⟨by omega, by omega, by omega, hK.go _ ?_⟩); clear hK K)
            | (refine d_reg (by kernel_rfl) fun K hK => ?_; simp only [go_sem, Nat.reduceEqDiff, reduceCtorEq, ↓reduceIte, Nat.reduceMul, Nat.reduceAdd, Nat.reduceLT, Nat.reduceLeDiff, Int.reduceLT, Int.reduceLE, Int.reduceToNat, Nat.reduceBEq, String.reduceNe, String.reduceEq, *]; (first | refine hK.go _ ?_ | refine ⟨by omega, hK.go _ ?_⟩ | refine ⟨by omega, by omega, hK.go _ ?_⟩ | refine ⟨by omega, by omega, by omega, hK.go _ ?_⟩); clear hK K)
            | (refine d_scond true rfl (fun _ => ?_) (fun h => by cases h))
            | (refine d_scond false rfl (fun h => by cases h) (fun _ => ?_))
            | (refine d_cond true rfl (fun _ => ?_) (fun h => by cases h))
            | (refine d_cond false rfl (fun h => by cases h) (fun _ => ?_))
            | refine d_exit ?_
            | refine d_sexit ?_
            | refine d_ret ?_
            | refine d_sret ?_
            | refine d_skip ?_)
          refine d_sblock fun K2 hK2 => ?_
          repeat (first
            | refine d_assoc ?_
            | refine d_sskip ?_
            | (refine d_sreg (by kernel_rfl) fun K hK => ?_; simp only [go_sem, Nat.reduceEqDiff, reduceCtorEq, ↓reduceIte, Nat.reduceMul, Nat.reduceAdd, Nat.reduceLT, Nat.reduceLeDiff, Int.reduceLT, Int.reduceLE, Int.reduceToNat, Nat.reduceBEq, String.reduceNe, String.reduceEq, *]; (first | refine hK.go _ ?_ | refine ⟨by omega, hK.go _ ?_⟩ | refine ⟨by omega, by omega, hK.go _ ?_⟩ | refine ⟨by omega, by omega, by omega, hK.go _ ?_⟩); clear hK K)
            | (refine d_reg (by kernel_rfl) fun K hK => ?_; simp only [go_sem, Nat.reduceEqDiff, reduceCtorEq, ↓reduceIte, Nat.reduceMul, Nat.reduceAdd, Nat.reduceLT, Nat.reduceLeDiff, Int.reduceLT, Int.reduceLE, Int.reduceToNat, Nat.reduceBEq, String.reduceNe, String.reduceEq, *]; (first | refine hK.go _ ?_ | refine ⟨by omega, hK.go _ ?_⟩ | refine ⟨by omega, by omega, hK.go _ ?_⟩ | refine ⟨by omega, by omega, by omega, hK.go _ ?_⟩); clear hK K)
            | (refine d_scond true rfl (fun _ => ?_) (fun h => by cases h))
            | (refine d_scond false rfl (fun h => by cases h) (fun _ => ?_))
            | (refine d_cond true rfl (fun _ => ?_) (fun h => by cases h))
            | (refine d_cond false rfl (fun h => by cases h) (fun _ => ?_))
            | refine d_exit ?_
            | refine d_sexit ?_
            | refine d_ret ?_
            | refine d_sret ?_
            | refine d_skip ?_)
          refine d_sreg (by kernel_rfl) fun K hK => ?_
          simp only [go_sem, Nat.reduceEqDiff, reduceCtorEq, ↓reduceIte, Nat.reduceMul, Nat.reduceAdd, Nat.reduceLT, Nat.reduceLeDiff, Int.reduceLT, Int.reduceLE, Int.reduceToNat, Nat.reduceBEq, String.reduceNe, String.reduceEq, *]
          repeat (refine ⟨by omega, ?_⟩)
          refine wp_call rfl (hcn) (by first | exact .inl rfl | exact .inr rfl) ?_
          simp only [go_sem, Nat.reduceEqDiff, reduceCtorEq, ↓reduceIte, Nat.reduceMul, Nat.reduceAdd, Nat.reduceLT, Nat.reduceLeDiff, Int.reduceLT, Int.reduceLE, Int.reduceToNat, Nat.reduceBEq, String.reduceNe, String.reduceEq, *]
          repeat (refine ⟨by omega, ?_⟩)
          refine wp_call rfl (hcg) (by first | exact .inl rfl | exact .inr rfl) ?_
          simp only [go_sem, Nat.reduceEqDiff, reduceCtorEq, ↓reduceIte, Nat.reduceMul, Nat.reduceAdd, Nat.reduceLT, Nat.reduceLeDiff, Int.reduceLT, Int.reduceLE, Int.reduceToNat, Nat.reduceBEq, String.reduceNe, String.reduceEq, *]
          (first | refine hK.go _ ?_ | refine ⟨by omega, hK.go _ ?_⟩ | refine ⟨by omega, by omega, hK.go _ ?_⟩); clear hK K
          repeat (first
            | refine d_assoc ?_
            | refine d_sskip ?_
            | (refine d_sreg (by kernel_rfl) fun K hK => ?_; simp only [go_sem, Nat.reduceEqDiff, reduceCtorEq, ↓reduceIte, Nat.reduceMul, Nat.reduceAdd, Nat.reduceLT, Nat.reduceLeDiff, Int.reduceLT, Int.reduceLE, Int.reduceToNat, Nat.reduceBEq, String.reduceNe, String.reduceEq, *]; (first | refine hK.go _ ?_ | refine ⟨by omega, hK.go _ ?_⟩ | refine ⟨by omega, by omega, hK.go _ ?_⟩ | refine ⟨by omega, by omega, by omega, hK.go _ ?_⟩); clear hK K)
            | (refine d_reg (by kernel_rfl) fun K hK => ?_; simp only [go_sem, Nat.reduceEqDiff, reduceCtorEq, ↓reduceIte, Nat.reduceMul, Nat.reduceAdd, Nat.reduceLT, Nat.reduceLeDiff, Int.reduceLT, Int.reduceLE, Int.reduceToNat, Nat.reduceBEq, String.reduceNe, String.reduceEq, *]; (first | refine hK.go _ ?_ | refine ⟨by omega, hK.go _ ?_⟩ | refine ⟨by omega, by omega, hK.go _ ?_⟩ | refine ⟨by omega, by omega, by omega, hK.go _ ?_⟩); clear hK K)
            | (refine d_scond true rfl (fun _ => ?_) (fun h => by cases h))
            | (refine d_scond false rfl (fun h => by cases h) (fun _ => ?_))
            | (refine d_cond true rfl (fun _ => ?_) (fun h => by cases h))
            | (refine d_cond false rfl (fun h => by cases h) (fun _ => ?_))
            | refine d_exit ?_
            | refine d_sexit ?_
            | refine d_ret ?_
            | refine d_sret ?_
            | refine d_skip ?_)
          clear hcn hcg hw
          refine d_block fun K3 hK3 => ?_
          refine d_loop (fun s => ∃ (k g5 : Nat), s.env 1 = .ref (1, g) 0 ∧ s.heap (1, g) = some [sv lab, .sl (ps.map rowP)] ∧ s.env 4 = iv .i64 i ∧ s.env 5 = .ref (5, g5) 0 ∧ s.heap (5, g5) = some (rowP (nth ps i)) ∧ s.env 3 = bv (T || hasN (ps.take k) (nth ps i).name) ∧ s.env 6 = iv .i64 k ∧ k ≤ i) (fun s => i - idx (s.env 6)) ?_ ?_
          · refine ⟨0, s1.gen 5, by simp only [go_sem, Nat.reduceEqDiff, reduceCtorEq, ↓reduceIte, Nat.reduceMul, Nat.reduceAdd, Nat.reduceLT, Nat.reduceLeDiff, Int.reduceLT, Int.reduceLE, Int.reduceToNat, Nat.reduceBEq, String.reduceNe, String.reduceEq, *], by simp only [go_sem, Nat.reduceEqDiff, reduceCtorEq, ↓reduceIte, Nat.reduceMul, Nat.reduceAdd, Nat.reduceLT, Nat.reduceLeDiff, Int.reduceLT, Int.reduceLE, Int.reduceToNat, Nat.reduceBEq, String.reduceNe, String.reduceEq, *], by simp only [go_sem, Nat.reduceEqDiff, reduceCtorEq, ↓reduceIte, Nat.reduceMul, Nat.reduceAdd, Nat.reduceLT, Nat.reduceLeDiff, Int.reduceLT, Int.reduceLE, Int.reduceToNat, Nat.reduceBEq, String.reduceNe, String.reduceEq, *], by simp only [go_sem, Nat.reduceEqDiff, reduceCtorEq, ↓reduceIte, Nat.reduceMul, Nat.reduceAdd, Nat.reduceLT, Nat.reduceLeDiff, Int.reduceLT, Int.reduceLE, Int.reduceToNat, Nat.reduceBEq, String.reduceNe, String.reduceEq, *], by simp only [go_sem, Nat.reduceEqDiff, reduceCtorEq, ↓reduceIte, Nat.reduceMul, Nat.reduceAdd, Nat.reduceLT, Nat.reduceLeDiff, Int.reduceLT, Int.reduceLE, Int.reduceToNat, Nat.reduceBEq, String.reduceNe, String.reduceEq, *], ?_, by simp only [go_sem, Nat.reduceEqDiff, reduceCtorEq, ↓reduceIte, Nat.reduceMul, Nat.reduceAdd, Nat.reduceLT, Nat.reduceLeDiff, Int.reduceLT, Int.reduceLE, Int.reduceToNat, Nat.reduceBEq, String.reduceNe, String.reduceEq, *] <;> rfl, Nat.zero_le _⟩
            have e : (T || hasN (ps.take 0) (nth ps i).name) = T := by simp [hasN]
            rw [e]
            simp only [go_sem, Nat.reduceEqDiff, reduceCtorEq, ↓reduceIte, Nat.reduceMul, Nat.reduceAdd, Nat.reduceLT, Nat.reduceLeDiff, Int.reduceLT, Int.reduceLE, Int.reduceToNat, Nat.reduceBEq, String.reduceNe, String.reduceEq, *]
          have e4o := e4
          clear e1 eh e3
          rintro s2 K4 ⟨k, g5, e1, eh, e4, e5, eh5, e3, e6, hk2⟩ hK4
          have hw := wi k (by omega)
          by_cases hlt : k < i
          · have hkp : k < ps.length := by omega
            have hnx := Sec.mk (show (T || hasN (ps.take (k + 1)) (nth ps i).name) = ((T || hasN (ps.take k) (nth ps i).name) || decide ((nth ps k).name = (nth ps i).name)) by rw [hasN_snoc ps k hkp, Bool.or_assoc])
            generalize (T || hasN (ps.take k) (nth ps i).name) = B at e3 hnx
            cases B with
            | true =>
              repeat (first
                | refine d_assoc ?_
                | refine d_sskip ?_
                | (refine d_sreg (by kernel_rfl) fun K hK => ?_; simp only [go_sem, Nat.reduceEqDiff, reduceCtorEq, ↓reduceIte, Nat.reduceMul, Nat.reduceAdd, Nat.reduceLT, Nat.reduceLeDiff, Int.reduceLT, Int.reduceLE, Int.reduceToNat, Nat.reduceBEq, String.reduceNe, String.reduceEq, *]; (first | refine hK.go _ ?_ | refine ⟨by omega, hK.go _ ?_⟩ | refine ⟨by omega, by omega, hK.go _ ?_⟩ | refine ⟨by omega, by omega, by omega, hK.go _ ?_⟩); clear hK K)
                | (refine d_reg (by kernel_rfl) fun K hK => ?_; simp only [go_sem, Nat.reduceEqDiff, reduceCtorEq, ↓reduceIte, Nat.reduceMul, Nat.reduceAdd, Nat.reduceLT, Nat.reduceLeDiff, Int.reduceLT, Int.reduceLE, Int.reduceToNat, Nat.reduceBEq, String.reduceNe, String.reduceEq, *]; (first | refine hK.go _ ?_ | refine ⟨by omega, hK.go _ ?_⟩ | refine ⟨by omega, by omega, hK.go _ ?_⟩ | refine ⟨by omega, by omega, by omega, hK.go _ ?_⟩); clear hK K)
                | (refine d_scond true rfl (fun _ => ?_) (fun h => by cases h))
                | (refine d_scond false rfl (fun h => by cases h) (fun _ => ?_))
                | (refine d_cond true rfl (fun _ => ?_) (fun h => by cases h))
                | (refine d_cond false rfl (fun h => by cases h) (fun _ => ?_))
                | refine d_exit ?_
                | refine d_sexit ?_
                | refine d_ret ?_
                | refine d_sret ?_
                | refine d_skip ?_)
              refine d_sblock fun K5 hK5 => ?_
              repeat (first
                | refine d_assoc ?_
                | refine d_sskip ?_
                | (refine d_sreg (by kernel_rfl) fun K hK => ?_; simp only [go_sem, Nat.reduceEqDiff, reduceCtorEq, ↓reduceIte, Nat.reduceMul, Nat.reduceAdd, Nat.reduceLT, Nat.reduceLeDiff, Int.reduceLT, Int.reduceLE, Int.reduceToNat, Nat.reduceBEq, String.reduceNe, String.reduceEq, *]; (first | refine hK.go _ ?_ | refine ⟨by omega, hK.go _ ?_⟩ | refine ⟨by omega, by omega, hK.go _ ?_⟩ | refine ⟨by omega, by omega, by omega, hK.go _ ?_⟩); clear hK K)
                | (refine d_reg (by kernel_rfl) fun K hK => ?_; simp only [go_sem, Nat.reduceEqDiff, reduceCtorEq, ↓reduceIte, Nat.reduceMul, Nat.reduceAdd, Nat.reduceLT, Nat.reduceLeDiff, Int.reduceLT, Int.reduceLE, Int.reduceToNat, Nat.reduceBEq, String.reduceNe, String.reduceEq, *]; (first | refine hK.go _ ?_ | refine ⟨by omega, hK.go _ ?_⟩ | refine ⟨by omega, by omega, hK.go _ ?_⟩ | refine ⟨by omega, by omega, by omega, hK.go _ ?_⟩); clear hK K)
                | (refine d_scond true rfl (fun _ => ?_) (fun h => by cases h))
                | (refine d_scond false rfl (fun h => by cases h) (fun _ => ?_))
                | (refine d_cond true rfl (fun _ => ?_) (fun h => by cases h))
                | (refine d_cond false rfl (fun h => by cases h) (fun _ => ?_))
                | refine d_exit ?_
                | refine d_sexit ?_
                | refine d_ret ?_
                | refine d_sret ?_
                | refine d_skip ?_)
              repeat (first | simp only [thenD, blockD, Nat.reduceEqDiff, reduceCtorEq, ↓reduceIte] | refine Imp.go (by assumption) _ ?_)
              repeat (first
                | refine d_assoc ?_
                | refine d_sskip ?_
                | (refine d_sreg (by kernel_rfl) fun K hK => ?_; simp only [go_sem, Nat.reduceEqDiff, reduceCtorEq, ↓reduceIte, Nat.reduceMul, Nat.reduceAdd, Nat.reduceLT, Nat.reduceLeDiff, Int.reduceLT, Int.reduceLE, Int.reduceToNat, Nat.reduceBEq, String.reduceNe, String.reduceEq, *]; (first | refine hK.go _ ?_ | refine ⟨by omega, hK.go _ ?_⟩ | refine ⟨by omega, by omega, hK.go _ ?_⟩ | refine ⟨by omega, by omega, by omega, hK.go _ ?_⟩); clear hK K)
                | (refine d_reg (by kernel_rfl) fun K hK => ?_; simp only [go_sem, Nat.reduceEqDiff, reduceCtorEq, ↓reduceIte, Nat.reduceMul, Nat.reduceAdd, Nat.reduceLT, Nat.reduceLeDiff, Int.reduceLT, Int.reduceLE, Int.reduceToNat, Nat.reduceBEq, String.reduceNe, String.reduceEq, *]; (first | refine hK.go _ ?_ | refine ⟨by omega, hK.go _ ?_⟩ | refine ⟨by omega, by omega, hK.go _ ?_⟩ | refine ⟨by omega, by omega, by omega, hK.go _ ?_⟩); clear hK K)
                | (refine d_scond true rfl (fun _ => ?_) (fun h => by cases h))
                | (refine d_scond false rfl (fun h => by cases h) (fun _ => ?_))
                | (refine d_cond true rfl (fun _ => ?_) (fun h => by cases h))
                | (refine d_cond false rfl (fun h => by cases h) (fun _ => ?_))
                | refine d_exit ?_
                | refine d_sexit ?_
                | refine d_ret ?_
                | refine d_sret ?_
                | refine d_skip ?_)
              repeat (first | simp only [thenD, blockD, Nat.reduceEqDiff, reduceCtorEq, ↓reduceIte] | refine Imp.go (by assumption) _ ?_)
              exact ⟨⟨k + 1, g5, by simp only [go_sem, Nat.reduceEqDiff, reduceCtorEq, ↓reduceIte, Nat.reduceMul, Nat.reduceAdd, Nat.reduceLT, Nat.reduceLeDiff, Int.reduceLT, Int.reduceLE, Int.reduceToNat, Nat.reduceBEq, String.reduceNe, String.reduceEq, *], by simp only [go_sem, Nat.reduceEqDiff, reduceCtorEq, ↓reduceIte, Nat.reduceMul, Nat.reduceAdd, Nat.reduceLT, Nat.reduceLeDiff, Int.reduceLT, Int.reduceLE, Int.reduceToNat, Nat.reduceBEq, String.reduceNe, String.reduceEq, *], by simp only [go_sem, Nat.reduceEqDiff, reduceCtorEq, ↓reduceIte, Nat.reduceMul, Nat.reduceAdd, Nat.reduceLT, Nat.reduceLeDiff, Int.reduceLT, Int.reduceLE, Int.reduceToNat, Nat.reduceBEq, String.reduceNe, String.reduceEq, *], by simp only [go_sem, Nat.reduceEqDiff, reduceCtorEq, ↓reduceIte, Nat.reduceMul, Nat.reduceAdd, Nat.reduceLT, Nat.reduceLeDiff, Int.reduceLT, Int.reduceLE, Int.reduceToNat, Nat.reduceBEq, String.reduceNe, String.reduceEq, *], by simp only [go_sem, Nat.reduceEqDiff, reduceCtorEq, ↓reduceIte, Nat.reduceMul, Nat.reduceAdd, Nat.reduceLT, Nat.reduceLeDiff, Int.reduceLT, Int.reduceLE, Int.reduceToNat, Nat.reduceBEq, String.reduceNe, String.reduceEq, *], by rw [hnx.out]; simp only [go_sem, Nat.reduceEqDiff, reduceCtorEq, ↓reduceIte, Nat.reduceMul, Nat.reduceAdd, Nat.reduceLT, Nat.reduceLeDiff, Int.reduceLT, Int.reduceLE, Int.reduceToNat, Nat.reduceBEq, String.reduceNe, String.reduceEq, *], by simp only [go_sem, Nat.reduceEqDiff, reduceCtorEq, ↓reduceIte, Nat.reduceMul, Nat.reduceAdd, Nat.reduceLT, Nat.reduceLeDiff, Int.reduceLT, Int.reduceLE, Int.reduceToNat, Nat.reduceBEq, String.reduceNe, String.reduceEq, *], hlt⟩, by simp only [go_sem, Nat.reduceEqDiff, reduceCtorEq, ↓reduceIte, Nat.reduceMul, Nat.reduceAdd, Nat.reduceLT, Nat.reduceLeDiff, Int.reduceLT, Int.reduceLE, Int.reduceToNat, Nat.reduceBEq, String.reduceNe, String.reduceEq, *, idx]; exact mlt hlt⟩
            | false =>
              repeat (first
                | refine d_assoc ?_
                | refine d_sskip ?_
                | (refine d_sreg (by kernel_rfl) fun K hK => ?_; simp only [go_sem, Nat.reduceEqDiff, reduceCtorEq, ↓reduceIte, Nat.reduceMul, Nat.reduceAdd, Nat.reduceLT, Nat.reduceLeDiff, Int.reduceLT, Int.reduceLE, Int.reduceToNat, Nat.reduceBEq, String.reduceNe, String.reduceEq, *]; (first | refine hK.go _ ?_ | refine ⟨by omega, hK.go _ ?_⟩ | refine ⟨by omega, by omega, hK.go _ ?_⟩ | refine ⟨by omega, by omega, by omega, hK.go _ ?_⟩); clear hK K)
                | (refine d_reg (by kernel_rfl) fun K hK => ?_; simp only [go_sem, Nat.reduceEqDiff, reduceCtorEq, ↓reduceIte, Nat.reduceMul, Nat.reduceAdd, Nat.reduceLT, Nat.reduceLeDiff, Int.reduceLT, Int.reduceLE, Int.reduceToNat, Nat.reduceBEq, String.reduceNe, String.reduceEq, *]; (first | refine hK.go _ ?_ | refine ⟨by omega, hK.go _ ?_⟩ | refine ⟨by omega, by omega, hK.go _ ?_⟩ | refine ⟨by omega, by omega, by omega, hK.go _ ?_⟩); clear hK K)
                | (refine d_scond true rfl (fun _ => ?_) (fun h => by cases h))
                | (refine d_scond false rfl (fun h => by cases h) (fun _ => ?_))
                | (refine d_cond true rfl (fun _ => ?_) (fun h => by cases h))
                | (refine d_cond false rfl (fun h => by cases h) (fun _ => ?_))
                | refine d_exit ?_
                | refine d_sexit ?_
                | refine d_ret ?_
                | refine d_sret ?_
                | refine d_skip ?_)
              refine d_sblock fun K5 hK5 => ?_
              repeat (first
                | refine d_assoc ?_
                | refine d_sskip ?_
                | (refine d_sreg (by kernel_rfl) fun K hK => ?_; simp only [go_sem, Nat.reduceEqDiff, reduceCtorEq, ↓reduceIte, Nat.reduceMul, Nat.reduceAdd, Nat.reduceLT, Nat.reduceLeDiff, Int.reduceLT, Int.reduceLE, Int.reduceToNat, Nat.reduceBEq, String.reduceNe, String.reduceEq, *]; (first | refine hK.go _ ?_ | refine ⟨by omega, hK.go _ ?_⟩ | refine ⟨by omega, by omega, hK.go _ ?_⟩ | refine ⟨by omega, by omega, by omega, hK.go _ ?_⟩); clear hK K)
                | (refine d_reg (by kernel_rfl) fun K hK => ?_; simp only [go_sem, Nat.reduceEqDiff, reduceCtorEq, ↓reduceIte, Nat.reduceMul, Nat.reduceAdd, Nat.reduceLT, Nat.reduceLeDiff, Int.reduceLT, Int.reduceLE, Int.reduceToNat, Nat.reduceBEq, String.reduceNe, String.reduceEq, *]; (first | refine hK.go _ ?_ | refine ⟨by omega, hK.go _ ?_⟩ | refine ⟨by omega, by omega, hK.go _ ?_⟩ | refine ⟨by omega, by omega, by omega, hK.go _ ?_⟩); clear hK K)
                | (refine d_scond true rfl (fun _ => ?_) (fun h => by cases h))
                | (refine d_scond false rfl (fun h => by cases h) (fun _ => ?_))
                | (refine d_cond true rfl (fun _ => ?_) (fun h => by cases h))
                | (refine d_cond false rfl (fun h => by cases h) (fun _ => ?_))
                | refine d_exit ?_
                | refine d_sexit ?_
                | refine d_ret ?_
                | refine d_sret ?_
                | refine d_skip ?_)
              repeat (first | simp only [thenD, blockD, Nat.reduceEqDiff, reduceCtorEq, ↓reduceIte] | refine Imp.go (by assumption) _ ?_)
              repeat (first
                | refine d_assoc ?_
                | refine d_sskip ?_
                | (refine d_sreg (by kernel_rfl) fun K hK => ?_; simp only [go_sem, Nat.reduceEqDiff, reduceCtorEq, ↓reduceIte, Nat.reduceMul, Nat.reduceAdd, Nat.reduceLT, Nat.reduceLeDiff, Int.reduceLT, Int.reduceLE, Int.reduceToNat, Nat.reduceBEq, String.reduceNe, String.reduceEq, *]; (first | refine hK.go _ ?_ | refine ⟨by omega, hK.go _ ?_⟩ | refine ⟨by omega, by omega, hK.go _ ?_⟩ | refine ⟨by omega, by omega, by omega, hK.go _ ?_⟩); clear hK K)
                | (refine d_reg (by kernel_rfl) fun K hK => ?_; simp only [go_sem, Nat.reduceEqDiff, reduceCtorEq, ↓reduceIte, Nat.reduceMul, Nat.reduceAdd, Nat.reduceLT, Nat.reduceLeDiff, Int.reduceLT, Int.reduceLE, Int.reduceToNat, Nat.reduceBEq, String.reduceNe, String.reduceEq, *]; (first | refine hK.go _ ?_ | refine ⟨by omega, hK.go _ ?_⟩ | refine ⟨by omega, by omega, hK.go _ ?_⟩ | refine ⟨by omega, by omega, by omega, hK.go _ ?_⟩); clear hK K)
                | (refine d_scond true rfl (fun _ => ?_) (fun h => by cases h))
                | (refine d_scond false rfl (fun h => by cases h) (fun _ => ?_))
                | (refine d_cond true rfl (fun _ => ?_) (fun h => by cases h))
                | (refine d_cond false rfl (fun h => by cases h) (fun _ => ?_))
                | refine d_exit ?_
                | refine d_sexit ?_
                | refine d_ret ?_
                | refine d_sret ?_
                | refine d_skip ?_)
              repeat (first | simp only [thenD, blockD, Nat.reduceEqDiff, reduceCtorEq, ↓reduceIte] | refine Imp.go (by assumption) _ ?_)
              exact ⟨⟨k + 1, g5, by simp only [go_sem, Nat.reduceEqDiff, reduceCtorEq, ↓reduceIte, Nat.reduceMul, Nat.reduceAdd, Nat.reduceLT, Nat.reduceLeDiff, Int.reduceLT, Int.reduceLE, Int.reduceToNat, Nat.reduceBEq, String.reduceNe, String.reduceEq, *], by simp only [go_sem, Nat.reduceEqDiff, reduceCtorEq, ↓reduceIte, Nat.reduceMul, Nat.reduceAdd, Nat.reduceLT, Nat.reduceLeDiff, Int.reduceLT, Int.reduceLE, Int.reduceToNat, Nat.reduceBEq, String.reduceNe, String.reduceEq, *], by simp only [go_sem, Nat.reduceEqDiff, reduceCtorEq, ↓reduceIte, Nat.reduceMul, Nat.reduceAdd, Nat.reduceLT, Nat.reduceLeDiff, Int.reduceLT, Int.reduceLE, Int.reduceToNat, Nat.reduceBEq, String.reduceNe, String.reduceEq, *], by simp only [go_sem, Nat.reduceEqDiff, reduceCtorEq, ↓reduceIte, Nat.reduceMul, Nat.reduceAdd, Nat.reduceLT, Nat.reduceLeDiff, Int.reduceLT, Int.reduceLE, Int.reduceToNat, Nat.reduceBEq, String.reduceNe, String.reduceEq, *], by simp only [go_sem, Nat.reduceEqDiff, reduceCtorEq, ↓reduceIte, Nat.reduceMul, Nat.reduceAdd, Nat.reduceLT, Nat.reduceLeDiff, Int.reduceLT, Int.reduceLE, Int.reduceToNat, Nat.reduceBEq, String.reduceNe, String.reduceEq, *], by rw [hnx.out]; simp only [go_sem, Nat.reduceEqDiff, reduceCtorEq, ↓reduceIte, Nat.reduceMul, Nat.reduceAdd, Nat.reduceLT, Nat.reduceLeDiff, Int.reduceLT, Int.reduceLE, Int.reduceToNat, Nat.reduceBEq, String.reduceNe, String.reduceEq, *], by simp only [go_sem, Nat.reduceEqDiff, reduceCtorEq, ↓reduceIte, Nat.reduceMul, Nat.reduceAdd, Nat.reduceLT, Nat.reduceLeDiff, Int.reduceLT, Int.reduceLE, Int.reduceToNat, Nat.reduceBEq, String.reduceNe, String.reduceEq, *], hlt⟩, by simp only [go_sem, Nat.reduceEqDiff, reduceCtorEq, ↓reduceIte, Nat.reduceMul, Nat.reduceAdd, Nat.reduceLT, Nat.reduceLeDiff, Int.reduceLT, Int.reduceLE, Int.reduceToNat, Nat.reduceBEq, String.reduceNe, String.reduceEq, *, idx]; exact mlt hlt⟩
          · obtain rfl : k = i := by omega
            have hw1 := wi k (by omega)
            rw [← hT.out] at e3
            repeat (first
              | refine d_assoc ?_
              | refine d_sskip ?_
              | (refine d_sreg (by kernel_rfl) fun K hK => ?_; simp only [go_sem, Nat.reduceEqDiff, reduceCtorEq, ↓reduceIte, Nat.reduceMul, Nat.reduceAdd, Nat.reduceLT, Nat.reduceLeDiff, Int.reduceLT, Int.reduceLE, Int.reduceToNat, Nat.reduceBEq, String.reduceNe, String.reduceEq, *]; (first | refine hK.go _ ?_ | refine ⟨by omega, hK.go _ ?_⟩ | refine ⟨by omega, by omega, hK.go _ ?_⟩ | refine ⟨by omega, by omega, by omega, hK.go _ ?_⟩); clear hK K)
              | (refine d_reg (by kernel_rfl) fun K hK => ?_; simp only [go_sem, Nat.reduceEqDiff, reduceCtorEq, ↓reduceIte, Nat.reduceMul, Nat.reduceAdd, Nat.reduceLT, Nat.reduceLeDiff, Int.reduceLT, Int.reduceLE, Int.reduceToNat, Nat.reduceBEq, String.reduceNe, String.reduceEq, *]; (first | refine hK.go _ ?_ | refine ⟨by omega, hK.go _ ?_⟩ | refine ⟨by omega, by omega, hK.go _ ?_⟩ | refine ⟨by omega, by omega, by omega, hK.go _ ?_⟩); clear hK K)
              | (refine d_scond true rfl (fun _ => ?_) (fun h => by cases h))
              | (refine d_scond false rfl (fun h => by cases h) (fun _ => ?_))
              | (refine d_cond true rfl (fun _ => ?_) (fun h => by cases h))
              | (refine d_cond false rfl (fun h => by cases h) (fun _ => ?_))
              | refine d_exit ?_
              | refine d_sexit ?_
              | refine d_ret ?_
              | refine d_sret ?_
              | refine d_skip ?_)
            repeat (first | simp only [thenD, blockD, Nat.reduceEqDiff, reduceCtorEq, ↓reduceIte] | refine Imp.go (by assumption) _ ?_)
            repeat (first
              | refine d_assoc ?_
              | refine d_sskip ?_
              | (refine d_sreg (by kernel_rfl) fun K hK => ?_; simp only [go_sem, Nat.reduceEqDiff, reduceCtorEq, ↓reduceIte, Nat.reduceMul, Nat.reduceAdd, Nat.reduceLT, Nat.reduceLeDiff, Int.reduceLT, Int.reduceLE, Int.reduceToNat, Nat.reduceBEq, String.reduceNe, String.reduceEq, *]; (first | refine hK.go _ ?_ | refine ⟨by omega, hK.go _ ?_⟩ | refine ⟨by omega, by omega, hK.go _ ?_⟩ | refine ⟨by omega, by omega, by omega, hK.go _ ?_⟩); clear hK K)
              | (refine d_reg (by kernel_rfl) fun K hK => ?_; simp only [go_sem, Nat.reduceEqDiff, reduceCtorEq, ↓reduceIte, Nat.reduceMul, Nat.reduceAdd, Nat.reduceLT, Nat.reduceLeDiff, Int.reduceLT, Int.reduceLE, Int.reduceToNat, Nat.reduceBEq, String.reduceNe, String.reduceEq, *]; (first | refine hK.go _ ?_ | refine ⟨by omega, hK.go _ ?_⟩ | refine ⟨by omega, by omega, hK.go _ ?_⟩ | refine ⟨by omega, by omega, by omega, hK.go _ ?_⟩); clear hK K)
              | (refine d_scond true rfl (fun _ => ?_) (fun h => by cases h))
              | (refine d_scond false rfl (fun h => by cases h) (fun _ => ?_))
              | (refine d_cond true rfl (fun _ => ?_) (fun h => by cases h))
              | (refine d_cond false rfl (fun h => by cases h) (fun _ => ?_))
              | refine d_exit ?_
              | refine d_sexit ?_
              | refine d_ret ?_
              | refine d_sret ?_
              | refine d_skip ?_)
            repeat (first | simp only [thenD, blockD, Nat.reduceEqDiff, reduceCtorEq, ↓reduceIte] | refine Imp.go (by assumption) _ ?_)
            exact ⟨⟨k + 1, g, by simp only [go_sem, Nat.reduceEqDiff, reduceCtorEq, ↓reduceIte, Nat.reduceMul, Nat.reduceAdd, Nat.reduceLT, Nat.reduceLeDiff, Int.reduceLT, Int.reduceLE, Int.reduceToNat, Nat.reduceBEq, String.reduceNe, String.reduceEq, *], by simp only [go_sem, Nat.reduceEqDiff, reduceCtorEq, ↓reduceIte, Nat.reduceMul, Nat.reduceAdd, Nat.reduceLT, Nat.reduceLeDiff, Int.reduceLT, Int.reduceLE, Int.reduceToNat, Nat.reduceBEq, String.reduceNe, String.reduceEq, *], by simp only [go_sem, Nat.reduceEqDiff, reduceCtorEq, ↓reduceIte, Nat.reduceMul, Nat.reduceAdd, Nat.reduceLT, Nat.reduceLeDiff, Int.reduceLT, Int.reduceLE, Int.reduceToNat, Nat.reduceBEq, String.reduceNe, String.reduceEq, *], by simp only [go_sem, Nat.reduceEqDiff, reduceCtorEq, ↓reduceIte, Nat.reduceMul, Nat.reduceAdd, Nat.reduceLT, Nat.reduceLeDiff, Int.reduceLT, Int.reduceLE, Int.reduceToNat, Nat.reduceBEq, String.reduceNe, String.reduceEq, *], h1, hB⟩, by simp only [go_sem, Nat.reduceEqDiff, reduceCtorEq, ↓reduceIte, Nat.reduceMul, Nat.reduceAdd, Nat.reduceLT, Nat.reduceLeDiff, Int.reduceLT, Int.reduceLE, Int.reduceToNat, Nat.reduceBEq, String.reduceNe, String.reduceEq, *, idx]; exact mlt h1⟩
      · have hG' : goodV (nth ps i).v = false := by simpa using hG
        rw [hG'] at hcg
        have hq := Sec.mk (hbad.out (by unfold badP; rw [hN, hG']; rfl))
        clear hbad hgood hpi hG
        repeat (first
          | refine d_assoc ?_
          | refine d_sskip ?_
          | (refine d_sreg (by kernel_rfl) fun K hK => ?_; simp only [go_sem, Nat.reduceEqDiff, reduceCtorEq, ↓reduceIte, Nat.reduceMul, Nat.reduceAdd, Nat.reduceLT, Nat.reduceLeDiff, Int.reduceLT, Int.reduceLE, Int.reduceToNat, Nat.reduceBEq, String.reduceNe, String.reduceEq, *]; (first | refine hK.go _ ?_ | refine ⟨by omega, hK.go _ ?_⟩ | refine ⟨by omega, by omega, hK.go _ ?_⟩ | refine ⟨by omega, by omega, by omega, hK.go _ ?_⟩); clear hK K)
          | (refine d_reg (by kernel_rfl) fun K hK => ?_; simp only [go_sem, Nat.reduceEqDiff, reduceCtorEq, ↓reduceIte, Nat.reduceMul, Nat.reduceAdd, Nat.reduceLT, Nat.reduceLeDiff, Int.reduceLT, Int.reduceLE, Int.reduceToNat, Nat.reduceBEq, String.reduceNe, String.reduceEq, *]; (first | refine hK.go _ ?_ | refine ⟨by omega, hK.go _ ?_⟩ | refine ⟨by omega, by omega, hK.go _ ?_⟩ | refine ⟨by omega, by omega, by omega, hK.go _ ?_⟩); clear hK K)
          | (refine d_scond true rfl (fun _ => ?_) (fun h => by cases h))
          | (refine d_scond false rfl (fun h => by cases h) (fun _ => ?_))
          | (refine d_cond true rfl (fun _ => ?_) (fun h => by cases h))
          | (refine d_cond false rfl (fun h => by cases h) (fun _ => ?_))
          | refine d_exit ?_
          | refine d_sexit ?_
          | refine d_ret ?_
          | refine d_sret ?_
          | refine d_skip ?_)
        refine d_sblock fun K2 hK2 => ?_
        repeat (first
          | refine d_assoc ?_
          | refine d_sskip ?_
          | (refine d_sreg (by kernel_rfl) fun K hK => ?_; simp only [go_sem, Nat.reduceEqDiff, reduceCtorEq, ↓reduceIte, Nat.reduceMul, Nat.reduceAdd, Nat.reduceLT, Nat.reduceLeDiff, Int.reduceLT, Int.reduceLE, Int.reduceToNat, Nat.reduceBEq, String.reduceNe, String.reduceEq, *]; (first | refine hK.go _ ?_ | refine ⟨by omega, hK.go _ ?_⟩ | refine ⟨by omega, by omega, hK.go _ ?_⟩ | refine ⟨by omega, by omega, by omega, hK.go _ ?_⟩); clear hK K)
          | (refine d_reg (by kernel_rfl) fun K hK => ?_; simp only [go_sem, Nat.reduceEqDiff, reduceCtorEq, ↓reduceIte, Nat.reduceMul, Nat.reduceAdd, Nat.reduceLT, Nat.reduceLeDiff, Int.reduceLT, Int.reduceLE, Int.reduceToNat, Nat.reduceBEq, String.reduceNe, String.reduceEq, *]; (first | refine hK.go _ ?_ | refine ⟨by omega, hK.go _ ?_⟩ | refine ⟨by omega, by omega, hK.go _ ?_⟩ | refine ⟨by omega, by omega, by omega, hK.go _ ?_⟩); clear hK K)
          | (refine d_scond true rfl (fun _ => ?_) (fun h => by cases h))
          | (refine d_scond false rfl (fun h => by cases h) (fun _ => ?_))
          | (refine d_cond true rfl (fun _ => ?_) (fun h => by cases h))
          | (refine d_cond false rfl (fun h => by cases h) (fun _ => ?_))
          | refine d_exit ?_
          | refine d_sexit ?_
          | refine d_ret ?_
          | refine d_sret ?_
          | refine d_skip ?_)
        refine d_sreg (by kernel_rfl) fun K hK => ?_
        simp only [go_sem, Nat.reduceEqDiff, reduceCtorEq, ↓reduceIte, Nat.reduceMul, Nat.reduceAdd, Nat.reduceLT, Nat.reduceLeDiff, Int.reduceLT, Int.reduceLE, Int.reduceToNat, Nat.reduceBEq, String.reduceNe, String.reduceEq, *]
        repeat (refine ⟨by omega, ?_⟩)
        refine wp_call rfl (hcn) (by first | exact .inl rfl | exact .inr rfl) ?_
        simp only [go_sem, Nat.reduceEqDiff, reduceCtorEq, ↓reduceIte, Nat.reduceMul, Nat.reduceAdd, Nat.reduceLT, Nat.reduceLeDiff, Int.reduceLT, Int.reduceLE, Int.reduceToNat, Nat.reduceBEq, String.reduceNe, String.reduceEq, *]
        repeat (refine ⟨by omega, ?_⟩)
        refine wp_call rfl (hcg) (by first | exact .inl rfl | exact .inr rfl) ?_
        simp only [go_sem, Nat.reduceEqDiff, reduceCtorEq, ↓reduceIte, Nat.reduceMul, Nat.reduceAdd, Nat.reduceLT, Nat.reduceLeDiff, Int.reduceLT, Int.reduceLE, Int.reduceToNat, Nat.reduceBEq, String.reduceNe, String.reduceEq, *]
        (first | refine hK.go _ ?_ | refine ⟨by omega, hK.go _ ?_⟩ | refine ⟨by omega, by omega, hK.go _ ?_⟩); clear hK K
        repeat (first
          | refine d_assoc ?_
          | refine d_sskip ?_
          | (refine d_sreg (by kernel_rfl) fun K hK => ?_; simp only [go_sem, Nat.reduceEqDiff, reduceCtorEq, ↓reduceIte, Nat.reduceMul, Nat.reduceAdd, Nat.reduceLT, Nat.reduceLeDiff, Int.reduceLT, Int.reduceLE, Int.reduceToNat, Nat.reduceBEq, String.reduceNe, String.reduceEq, *]; (first | refine hK.go _ ?_ | refine ⟨by omega, hK.go _ ?_⟩ | refine ⟨by omega, by omega, hK.go _ ?_⟩ | refine ⟨by omega, by omega, by omega, hK.go _ ?_⟩); clear hK K)
          | (refine d_reg (by kernel_rfl) fun K hK => ?_; simp only [go_sem, Nat.reduceEqDiff, reduceCtorEq, ↓reduceIte, Nat.reduceMul, Nat.reduceAdd, Nat.reduceLT, Nat.reduceLeDiff, Int.reduceLT, Int.reduceLE, Int.reduceToNat, Nat.reduceBEq, String.reduceNe, String.reduceEq, *]; (first | refine hK.go _ ?_ | refine ⟨by omega, hK.go _ ?_⟩ | refine ⟨by omega, by omega, hK.go _ ?_⟩ | refine ⟨by omega, by omega, by omega, hK.go _ ?_⟩); clear hK K)
          | (refine d_scond true rfl (fun _ => ?_) (fun h => by cases h))
          | (refine d_scond false rfl (fun h => by cases h) (fun _ => ?_))
          | (refine d_cond true rfl (fun _ => ?_) (fun h => by cases h))
          | (refine d_cond false rfl (fun h => by cases h) (fun _ => ?_))
          | refine d_exit ?_
          | refine d_sexit ?_
          | refine d_ret ?_
          | refine d_sret ?_
          | refine d_skip ?_)
        repeat (first | simp only [thenD, blockD, Nat.reduceEqDiff, reduceCtorEq, ↓reduceIte] | refine Imp.go (by assumption) _ ?_)
        exact fin1 (.inr rfl) Tryd.results48 (by simp only [go_sem, Nat.reduceEqDiff, reduceCtorEq, ↓reduceIte, Nat.reduceMul, Nat.reduceAdd, Nat.reduceLT, Nat.reduceLeDiff, Int.reduceLT, Int.reduceLE, Int.reduceToNat, Nat.reduceBEq, String.reduceNe, String.reduceEq, *]; rw [hq.out]) rfl
    · have hN' : isName (nth ps i).name = false := by simpa using hN
      rw [hN'] at hcn
      have hq := Sec.mk (hbad.out (by unfold badP; rw [hN']; rfl))
      clear hbad hgood hpi hN
      repeat (first
        | refine d_assoc ?_
        | refine d_sskip ?_
        | (refine d_sreg (by kernel_rfl) fun K hK => ?_; simp only [go_sem, Nat.reduceEqDiff, reduceCtorEq, ↓reduceIte, Nat.reduceMul, Nat.reduceAdd, Nat.reduceLT, Nat.reduceLeDiff, Int.reduceLT, Int.reduceLE, Int.reduceToNat, Nat.reduceBEq, String.reduceNe, String.reduceEq, *]; (first | refine hK.go _ ?_ | refine ⟨by omega, hK.go _ ?_⟩ | refine ⟨by omega, by omega, hK.go _ ?_⟩ | refine ⟨by omega, by omega, by omega, hK.go _ ?_⟩); clear hK K)
        | (refine d_reg (by kernel_rfl) fun K hK => ?_; simp only [go_sem, Nat.reduceEqDiff, reduceCtorEq, ↓reduceIte, Nat.reduceMul, Nat.reduceAdd, Nat.reduceLT, Nat.reduceLeDiff, Int.reduceLT, Int.reduceLE, Int.reduceToNat, Nat.reduceBEq, String.reduceNe, String.reduceEq, *]; (first | refine hK.go _ ?_ | refine ⟨by omega, hK.go _ ?_⟩ | refine ⟨by omega, by omega, hK.go _ ?_⟩ | refine ⟨by omega, by omega, by omega, hK.go _ ?_⟩); clear hK K)
        | (refine d_scond true rfl (fun _ => ?_) (fun h => by cases h))
        | (refine d_scond false rfl (fun h => by cases h) (fun _ => ?_))
        | (refine d_cond true rfl (fun _ => ?_) (fun h => by cases h))
        | (refine d_cond false rfl (fun h => by cases h) (fun _ => ?_))
        | refine d_exit ?_
        | refine d_sexit ?_
        | refine d_ret ?_
        | refine d_sret ?_
        | refine d_skip ?_)
      refine d_sblock fun K2 hK2 => ?_
      repeat (first
        | refine d_assoc ?_
        | refine d_sskip ?_
        | (refine d_sreg (by kernel_rfl) fun K hK => ?_; simp only [go_sem, Nat.reduceEqDiff, reduceCtorEq, ↓reduceIte, Nat.reduceMul, Nat.reduceAdd, Nat.reduceLT, Nat.reduceLeDiff, Int.reduceLT, Int.reduceLE, Int.reduceToNat, Nat.reduceBEq, String.reduceNe, String.reduceEq, *]; (first | refine hK.go _ ?_ | refine ⟨by omega, hK.go _ ?_⟩ | refine ⟨by omega, by omega, hK.go _ ?_⟩ | refine ⟨by omega, by omega, by omega, hK.go _ ?_⟩); clear hK K)
        | (refine d_reg (by kernel_rfl) fun K hK => ?_; simp only [go_sem, Nat.reduceEqDiff, reduceCtorEq, ↓reduceIte, Nat.reduceMul, Nat.reduceAdd, Nat.reduceLT, Nat.reduceLeDiff, Int.reduceLT, Int.reduceLE, Int.reduceToNat, Nat.reduceBEq, String.reduceNe, String.reduceEq, *]; (first | refine hK.go _ ?_ | refine ⟨by omega, hK.go _ ?_⟩ | refine ⟨by omega, by omega, hK.go _ ?_⟩ | refine ⟨by omega, by omega, by omega, hK.go _ ?_⟩); clear hK K)
        | (refine d_scond true rfl (fun _ => ?_) (fun h => by cases h))
        | (refine d_scond false rfl (fun h => by cases h) (fun _ => ?_))
        | (refine d_cond true rfl (fun _ => ?_) (fun h => by cases h))
        | (refine d_cond false rfl (fun h => by cases h) (fun _ => ?_))
        | refine d_exit ?_
        | refine d_sexit ?_
        | refine d_ret ?_
        | refine d_sret ?_
        | refine d_skip ?_)
      refine d_sreg (by kernel_rfl) fun K hK => ?_
      simp only [go_sem, Nat.reduceEqDiff, reduceCtorEq, ↓reduceIte, Nat.reduceMul, Nat.reduceAdd, Nat.reduceLT, Nat.reduceLeDiff, Int.reduceLT, Int.reduceLE, Int.reduceToNat, Nat.reduceBEq, String.reduceNe, String.reduceEq, *]
      repeat (refine ⟨by omega, ?_⟩)
      refine wp_call rfl (hcn) (by first | exact .inl rfl | exact .inr rfl) ?_
      simp only [go_sem, Nat.reduceEqDiff, reduceCtorEq, ↓reduceIte, Nat.reduceMul, Nat.reduceAdd, Nat.reduceLT, Nat.reduceLeDiff, Int.reduceLT, Int.reduceLE, Int.reduceToNat, Nat.reduceBEq, String.reduceNe, String.reduceEq, *]
      (first | refine hK.go _ ?_ | refine ⟨by omega, hK.go _ ?_⟩ | refine ⟨by omega, by omega, hK.go _ ?_⟩); clear hK K
      repeat (first
        | refine d_assoc ?_
        | refine d_sskip ?_
        | (refine d_sreg (by kernel_rfl) fun K hK => ?_; simp only [go_sem, Nat.reduceEqDiff, reduceCtorEq, ↓reduceIte, Nat.reduceMul, Nat.reduceAdd, Nat.reduceLT, Nat.reduceLeDiff, Int.reduceLT, Int.reduceLE, Int.reduceToNat, Nat.reduceBEq, String.reduceNe, String.reduceEq, *]; (first | refine hK.go _ ?_ | refine ⟨by omega, hK.go _ ?_⟩ | refine ⟨by omega, by omega, hK.go _ ?_⟩ | refine ⟨by omega, by omega, by omega, hK.go _ ?_⟩); clear hK K)
        | (refine d_reg (by kernel_rfl) fun K hK => ?_; simp only [go_sem, Nat.reduceEqDiff, reduceCtorEq, ↓reduceIte, Nat.reduceMul, Nat.reduceAdd, Nat.reduceLT, Nat.reduceLeDiff, Int.reduceLT, Int.reduceLE, Int.reduceToNat, Nat.reduceBEq, String.reduceNe, String.reduceEq, *]; (first | refine hK.go _ ?_ | refine ⟨by omega, hK.go _ ?_⟩ | refine ⟨by omega, by omega, hK.go _ ?_⟩ | refine ⟨by omega, by omega, by omega, hK.go _ ?_⟩); clear hK K)
        | (refine d_scond true rfl (fun _ => ?_) (fun h => by cases h))
        | (refine d_scond false rfl (fun h => by cases h) (fun _ => ?_))
        | (refine d_cond true rfl (fun _ => ?_) (fun h => by cases h))
        | (refine d_cond false rfl (fun h => by cases h) (fun _ => ?_))
        | refine d_exit ?_
        | refine d_sexit ?_
        | refine d_ret ?_
        | refine d_sret ?_
        | refine d_skip ?_)
      repeat (first | simp only [thenD, blockD, Nat.reduceEqDiff, reduceCtorEq, ↓reduceIte] | refine Imp.go (by assumption) _ ?_)
      exact fin1 (.inr rfl) Tryd.results48 (by simp only [go_sem, Nat.reduceEqDiff, reduceCtorEq, ↓reduceIte, Nat.reduceMul, Nat.reduceAdd, Nat.reduceLT, Nat.reduceLeDiff, Int.reduceLT, Int.reduceLE, Int.reduceToNat, Nat.reduceBEq, String.reduceNe, String.reduceEq, *]; rw [hq.out]) rfl
  · have hall : ps.any badP = false := by
      rw [List.any_eq_false]
      intro p hpm
      obtain ⟨j, hj, rfl⟩ := List.getElem_of_mem hpm
      have := hS.out j (by omega)
      rw [nth_eq ps j hj] at this
      rw [this]; simp
    have hM : tw (ps.take i) = tw ps := by rw [List.take_of_length_le (by omega)]
    rw [hM] at e3
    have hq0 : nodeErr ⟨lab, ps⟩ = if 8 < ps.length then 5 else if tw ps = true then 6 else 0 := by
      unfold nodeErr
      rw [if_neg (by rw [hL']; simp), if_neg (by rw [hall]; simp), (keys_law ps).2.2]
      simp
    clear hM hall hS hp
    by_cases h8 : 8 < (ps.length : Int)
    · have hq := Sec.mk (show nodeErr ⟨lab, ps⟩ = 5 by rw [hq0, if_pos (by omega)])
      clear hq0
      repeat (first
        | refine d_assoc ?_
        | refine d_sskip ?_
        | (refine d_sreg (by kernel_rfl) fun K hK => ?_; simp only [go_sem, Nat.reduceEqDiff, reduceCtorEq, ↓reduceIte, Nat.reduceMul, Nat.reduceAdd, Nat.reduceLT, Nat.reduceLeDiff, Int.reduceLT, Int.reduceLE, Int.reduceToNat, Nat.reduceBEq, String.reduceNe, String.reduceEq, *]; (first | refine hK.go _ ?_ | refine ⟨by omega, hK.go _ ?_⟩ | refine ⟨by omega, by omega, hK.go _ ?_⟩ | refine ⟨by omega, by omega, by omega, hK.go _ ?_⟩); clear hK K)
        | (refine d_reg (by kernel_rfl) fun K hK => ?_; simp only [go_sem, Nat.reduceEqDiff, reduceCtorEq, ↓reduceIte, Nat.reduceMul, Nat.reduceAdd, Nat.reduceLT, Nat.reduceLeDiff, Int.reduceLT, Int.reduceLE, Int.reduceToNat, Nat.reduceBEq, String.reduceNe, String.reduceEq, *]; (first | refine hK.go _ ?_ | refine ⟨by omega, hK.go _ ?_⟩ | refine ⟨by omega, by omega, hK.go _ ?_⟩ | refine ⟨by omega, by omega, by omega, hK.go _ ?_⟩); clear hK K)
        | (refine d_scond true rfl (fun _ => ?_) (fun h => by cases h))
        | (refine d_scond false rfl (fun h => by cases h) (fun _ => ?_))
        | (refine d_cond true rfl (fun _ => ?_) (fun h => by cases h))
        | (refine d_cond false rfl (fun h => by cases h) (fun _ => ?_))
        | refine d_exit ?_
        | refine d_sexit ?_
        | refine d_ret ?_
        | refine d_sret ?_
        | refine d_skip ?_)
      repeat (first | simp only [thenD, blockD, Nat.reduceEqDiff, reduceCtorEq, ↓reduceIte] | refine Imp.go (by assumption) _ ?_)
      repeat (first
        | refine d_assoc ?_
        | refine d_sskip ?_
        | (refine d_sreg (by kernel_rfl) fun K hK => ?_; simp only [go_sem, Nat.reduceEqDiff, reduceCtorEq, ↓reduceIte, Nat.reduceMul, Nat.reduceAdd, Nat.reduceLT, Nat.reduceLeDiff, Int.reduceLT, Int.reduceLE, Int.reduceToNat, Nat.reduceBEq, String.reduceNe, String.reduceEq, *]; (first | refine hK.go _ ?_ | refine ⟨by omega, hK.go _ ?_⟩ | refine ⟨by omega, by omega, hK.go _ ?_⟩ | refine ⟨by omega, by omega, by omega, hK.go _ ?_⟩); clear hK K)
        | (refine d_reg (by kernel_rfl) fun K hK => ?_; simp only [go_sem, Nat.reduceEqDiff, reduceCtorEq, ↓reduceIte, Nat.reduceMul, Nat.reduceAdd, Nat.reduceLT, Nat.reduceLeDiff, Int.reduceLT, Int.reduceLE, Int.reduceToNat, Nat.reduceBEq, String.reduceNe, String.reduceEq, *]; (first | refine hK.go _ ?_ | refine ⟨by omega, hK.go _ ?_⟩ | refine ⟨by omega, by omega, hK.go _ ?_⟩ | refine ⟨by omega, by omega, by omega, hK.go _ ?_⟩); clear hK K)
        | (refine d_scond true rfl (fun _ => ?_) (fun h => by cases h))
        | (refine d_scond false rfl (fun h => by cases h) (fun _ => ?_))
        | (refine d_cond true rfl (fun _ => ?_) (fun h => by cases h))
        | (refine d_cond false rfl (fun h => by cases h) (fun _ => ?_))
        | refine d_exit ?_
        | refine d_sexit ?_
        | refine d_ret ?_
        | refine d_sret ?_
        | refine d_skip ?_)
      exact fin1 (.inr rfl) Tryd.results48 (by simp only [go_sem, Nat.reduceEqDiff, reduceCtorEq, ↓reduceIte, Nat.reduceMul, Nat.reduceAdd, Nat.reduceLT, Nat.reduceLeDiff, Int.reduceLT, Int.reduceLE, Int.reduceToNat, Nat.reduceBEq, String.reduceNe, String.reduceEq, *]; rw [hq.out]) rfl
    · rw [if_neg (by omega)] at hq0
      generalize tw ps = T at e3 hq0
      cases T with
      | true =>
        have hq := Sec.mk (hq0.trans (if_pos rfl))
        clear hq0
        repeat (first
          | refine d_assoc ?_
          | refine d_sskip ?_
          | (refine d_sreg (by kernel_rfl) fun K hK => ?_; simp only [go_sem, Nat.reduceEqDiff, reduceCtorEq, ↓reduceIte, Nat.reduceMul, Nat.reduceAdd, Nat.reduceLT, Nat.reduceLeDiff, Int.reduceLT, Int.reduceLE, Int.reduceToNat, Nat.reduceBEq, String.reduceNe, String.reduceEq, *]; (first | refine hK.go _ ?_ | refine ⟨by omega, hK.go _ ?_⟩ | refine ⟨by omega, by omega, hK.go _ ?_⟩ | refine ⟨by omega, by omega, by omega, hK.go _ ?_⟩); clear hK K)
          | (refine d_reg (by kernel_rfl) fun K hK => ?_; simp only [go_sem, Nat.reduceEqDiff, reduceCtorEq, ↓reduceIte, Nat.reduceMul, Nat.reduceAdd, Nat.reduceLT, Nat.reduceLeDiff, Int.reduceLT, Int.reduceLE, Int.reduceToNat, Nat.reduceBEq, String.reduceNe, String.reduceEq, *]; (first | refine hK.go _ ?_ | refine ⟨by omega, hK.go _ ?_⟩ | refine ⟨by omega, by omega, hK.go _ ?_⟩ | refine ⟨by omega, by omega, by omega, hK.go _ ?_⟩); clear hK K)
          | (refine d_scond true rfl (fun _ => ?_) (fun h => by cases h))
          | (refine d_scond false rfl (fun h => by cases h) (fun _ => ?_))
          | (refine d_cond true rfl (fun _ => ?_) (fun h => by cases h))
          | (refine d_cond false rfl (fun h => by cases h) (fun _ => ?_))
          | refine d_exit ?_
          | refine d_sexit ?_
          | refine d_ret ?_
          | refine d_sret ?_
          | refine d_skip ?_)
        repeat (first | simp only [thenD, blockD, Nat.reduceEqDiff, reduceCtorEq, ↓reduceIte] | refine Imp.go (by assumption) _ ?_)
        repeat (first
          | refine d_assoc ?_
          | refine d_sskip ?_
          | (refine d_sreg (by kernel_rfl) fun K hK => ?_; simp only [go_sem, Nat.reduceEqDiff, reduceCtorEq, ↓reduceIte, Nat.reduceMul, Nat.reduceAdd, Nat.reduceLT, Nat.reduceLeDiff, Int.reduceLT, Int.reduceLE, Int.reduceToNat, Nat.reduceBEq, String.reduceNe, String.reduceEq, *]; (first | refine hK.go _ ?_ | refine ⟨by omega, hK.go _ ?_⟩ | refine ⟨by omega, by omega, hK.go _ ?_⟩ | refine ⟨by omega, by omega, by omega, hK.go _ ?_⟩); clear hK K)
          | (refine d_reg (by kernel_rfl) fun K hK => ?_; simp only [go_sem, Nat.reduceEqDiff, reduceCtorEq, ↓reduceIte, Nat.reduceMul, Nat.reduceAdd, Nat.reduceLT, Nat.reduceLeDiff, Int.reduceLT, Int.reduceLE, Int.reduceToNat, Nat.reduceBEq, String.reduceNe, String.reduceEq, *]; (first | refine hK.go _ ?_ | refine ⟨by omega, hK.go _ ?_⟩ | refine ⟨by omega, by omega, hK.go _ ?_⟩ | refine ⟨by omega, by omega, by omega, hK.go _ ?_⟩); clear hK K)
          | (refine d_scond true rfl (fun _ => ?_) (fun h => by cases h))
          | (refine d_scond false rfl (fun h => by cases h) (fun _ => ?_))
          | (refine d_cond true rfl (fun _ => ?_) (fun h => by cases h))
          | (refine d_cond false rfl (fun h => by cases h) (fun _ => ?_))
          | refine d_exit ?_
          | refine d_sexit ?_
          | refine d_ret ?_
          | refine d_sret ?_
          | refine d_skip ?_)
        exact fin1 (.inr rfl) Tryd.results48 (by simp only [go_sem, Nat.reduceEqDiff, reduceCtorEq, ↓reduceIte, Nat.reduceMul, Nat.reduceAdd, Nat.reduceLT, Nat.reduceLeDiff, Int.reduceLT, Int.reduceLE, Int.reduceToNat, Nat.reduceBEq, String.reduceNe, String.reduceEq, *]; rw [hq.out]) rfl
      | false =>
        have hq := Sec.mk (hq0.trans (if_neg (by simp)))
        clear hq0
        repeat (first
          | refine d_assoc ?_
          | refine d_sskip ?_
          | (refine d_sreg (by kernel_rfl) fun K hK => ?_; simp only [go_sem, Nat.reduceEqDiff, reduceCtorEq, ↓reduceIte, Nat.reduceMul, Nat.reduceAdd, Nat.reduceLT, Nat.reduceLeDiff, Int.reduceLT, Int.reduceLE, Int.reduceToNat, Nat.reduceBEq, String.reduceNe, String.reduceEq, *]; (first | refine hK.go _ ?_ | refine ⟨by omega, hK.go _ ?_⟩ | refine ⟨by omega, by omega, hK.go _ ?_⟩ | refine ⟨by omega, by omega, by omega, hK.go _ ?_⟩); clear hK K)
          | (refine d_reg (by kernel_rfl) fun K hK => ?_; simp only [go_sem, Nat.reduceEqDiff, reduceCtorEq, ↓reduceIte, Nat.reduceMul, Nat.reduceAdd, Nat.reduceLT, Nat.reduceLeDiff, Int.reduceLT, Int.reduceLE, Int.reduceToNat, Nat.reduceBEq, String.reduceNe, String.reduceEq, *]; (first | refine hK.go _ ?_ | refine ⟨by omega, hK.go _ ?_⟩ | refine ⟨by omega, by omega, hK.go _ ?_⟩ | refine ⟨by omega, by omega, by omega, hK.go _ ?_⟩); clear hK K)
          | (refine d_scond true rfl (fun _ => ?_) (fun h => by cases h))
          | (refine d_scond false rfl (fun h => by cases h) (fun _ => ?_))
          | (refine d_cond true rfl (fun _ => ?_) (fun h => by cases h))
          | (refine d_cond false rfl (fun h => by cases h) (fun _ => ?_))
          | refine d_exit ?_
          | refine d_sexit ?_
          | refine d_ret ?_
          | refine d_sret ?_
          | refine d_skip ?_)
        repeat (first | simp only [thenD, blockD, Nat.reduceEqDiff, reduceCtorEq, ↓reduceIte] | refine Imp.go (by assumption) _ ?_)
        repeat (first
          | refine d_assoc ?_
          | refine d_sskip ?_
          | (refine d_sreg (by kernel_rfl) fun K hK => ?_; simp only [go_sem, Nat.reduceEqDiff, reduceCtorEq, ↓reduceIte, Nat.reduceMul, Nat.reduceAdd, Nat.reduceLT, Nat.reduceLeDiff, Int.reduceLT, Int.reduceLE, Int.reduceToNat, Nat.reduceBEq, String.reduceNe, String.reduceEq, *]; (first | refine hK.go _ ?_ | refine ⟨by omega, hK.go _ ?_⟩ | refine ⟨by omega, by omega, hK.go _ ?_⟩ | refine ⟨by omega, by omega, by omega, hK.go _ ?_⟩); clear hK K)
          | (refine d_reg (by kernel_rfl) fun K hK => ?_; simp only [go_sem, Nat.reduceEqDiff, reduceCtorEq, ↓reduceIte, Nat.reduceMul, Nat.reduceAdd, Nat.reduceLT, Nat.reduceLeDiff, Int.reduceLT, Int.reduceLE, Int.reduceToNat, Nat.reduceBEq, String.reduceNe, String.reduceEq, *]; (first | refine hK.go _ ?_ | refine ⟨by omega, hK.go _ ?_⟩ | refine ⟨by omega, by omega, hK.go _ ?_⟩ | refine ⟨by omega, by omega, by omega, hK.go _ ?_⟩); clear hK K)
          | (refine d_scond true rfl (fun _ => ?_) (fun h => by cases h))
          | (refine d_scond false rfl (fun h => by cases h) (fun _ => ?_))
          | (refine d_cond true rfl (fun _ => ?_) (fun h => by cases h))
          | (refine d_cond false rfl (fun h => by cases h) (fun _ => ?_))
          | refine d_exit ?_
          | refine d_sexit ?_
          | refine d_ret ?_
          | refine d_sret ?_
          | refine d_skip ?_)
        exact fin1 (.inr rfl) Tryd.results48 (by simp only [go_sem, Nat.reduceEqDiff, reduceCtorEq, ↓reduceIte, Nat.reduceMul, Nat.reduceAdd, Nat.reduceLT, Nat.reduceLeDiff, Int.reduceLT, Int.reduceLE, Int.reduceToNat, Nat.reduceBEq, String.reduceNe, String.reduceEq, *]; rw [hq.out]) rfl
end Go.Proofs.YtnlodeadhnonpaaDoor.D
