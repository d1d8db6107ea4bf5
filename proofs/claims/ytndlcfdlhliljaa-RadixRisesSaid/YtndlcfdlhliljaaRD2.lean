/- The law RadixRises on plain data. Conditions: none beyond the statement. -/
import Derived.Test.YtndlcfdlhliljaaRD
namespace Go.Proofs.Ytndlcfdlhliljaa.D
open Go.RowKit Go.Proofs.Ytndlcfdlhliljaa.Mem
set_option linter.unusedVariables false
set_option linter.unusedSimpArgs false
attribute [local irreducible] wpD wpL
attribute [local go_sem] beq_decide bne_decide natCast_inj' ne_eq not_true_eq_false not_false_eq_true List.getD_cons_zero Int.lt_irrefl

/-- Lists that rise and have the same members are one. -/
theorem rise_one : ∀ (a b : List Int), a.Pairwise (· < ·) → b.Pairwise (· < ·) → (∀ x, x ∈ a ↔ x ∈ b) → a = b := by
  intro a
  induction a with
  | nil =>
    intro b _ _ h
    cases b with
    | nil => rfl
    | cons y b => exact absurd ((h y).2 (by simp)) (by simp)
  | cons x a ih =>
    intro b ha hb h
    cases b with
    | nil => exact absurd ((h x).1 (by simp)) (by simp)
    | cons y b =>
      rw [List.pairwise_cons] at ha hb
      have hxy : x = y := by
        rcases List.mem_cons.1 ((h x).1 (by simp)) with h1 | h1
        · exact h1
        · rcases List.mem_cons.1 ((h y).2 (by simp)) with h2 | h2
          · exact h2.symm
          · have := ha.1 y h2; have := hb.1 x h1; omega
      subst hxy
      congr 1
      refine ih b ha.2 hb.2 (fun z => ⟨fun hz => ?_, fun hz => ?_⟩)
      · rcases List.mem_cons.1 ((h z).1 (by simp [hz])) with h1 | h1
        · have := ha.1 z hz; omega
        · exact h1
      · rcases List.mem_cons.1 ((h z).2 (by simp [hz])) with h1 | h1
        · have := hb.1 z hz; omega
        · exact h1
/-- One more number, once, in its place. -/
def insS (x : Int) : List Int → List Int
  | [] => [x]
  | y :: l => if y < x then y :: insS x l else if y = x then y :: l else x :: y :: l
theorem insS_mem (x z : Int) : ∀ l, z ∈ insS x l ↔ z = x ∨ z ∈ l := by
  intro l
  induction l with
  | nil => simp [insS]
  | cons y l ih =>
    unfold insS
    by_cases h1 : y < x
    · rw [if_pos h1, List.mem_cons, ih, List.mem_cons]
      constructor
      · rintro (h | h | h)
        · exact .inr (.inl h)
        · exact .inl h
        · exact .inr (.inr h)
      · rintro (h | h | h)
        · exact .inr (.inl h)
        · exact .inl h
        · exact .inr (.inr h)
    · rw [if_neg h1]
      by_cases h2 : y = x
      · subst h2; rw [if_pos rfl, List.mem_cons]
        constructor
        · exact .inr
        · rintro (h | h)
          · exact .inl h
          · exact h
      · rw [if_neg h2, List.mem_cons]
theorem insS_rise (x : Int) : ∀ l : List Int, l.Pairwise (· < ·) → (insS x l).Pairwise (· < ·) := by
  intro l
  induction l with
  | nil => intro _; simp [insS]
  | cons y l ih =>
    intro h
    have h' := List.pairwise_cons.1 h
    unfold insS
    by_cases h1 : y < x
    · rw [if_pos h1, List.pairwise_cons]
      refine ⟨fun z hz => ?_, ih h'.2⟩
      rcases (insS_mem x z l).1 hz with h2 | h2
      · omega
      · exact h'.1 z h2
    · rw [if_neg h1]
      by_cases h2 : y = x
      · rw [if_pos h2]; exact h
      · rw [if_neg h2, List.pairwise_cons]
        refine ⟨fun z hz => ?_, h⟩
        rcases List.mem_cons.1 hz with h3 | h3
        · omega
        · have := h'.1 z h3; omega
theorem insS_len (x : Int) : ∀ l, (insS x l).length ≤ l.length + 1 := by
  intro l
  induction l with
  | nil => simp [insS]
  | cons y l ih =>
    unfold insS
    by_cases h1 : y < x
    · rw [if_pos h1]; simp; omega
    · rw [if_neg h1]
      by_cases h2 : y = x
      · rw [if_pos h2]; simp
      · rw [if_neg h2]; simp
theorem insS_at (x : Int) : ∀ (l : List Int) (at_ : Nat), at_ ≤ l.length → (∀ j, j < at_ → nth l j < x) → (at_ = l.length ∨ x ≤ nth l at_) →
    insS x l = if at_ = l.length ∨ nth l at_ ≠ x then l.take at_ ++ [x] ++ l.drop at_ else l := by
  intro l
  induction l with
  | nil => intro k hk _ _; simp at hk; subst hk; simp [insS]
  | cons y l ih =>
    intro k hk hlo hhi
    cases k with
    | zero =>
      rcases hhi with h | h
      · simp at h
      · rw [nth_zero] at h
        unfold insS
        rw [if_neg (by omega), nth_zero]
        by_cases h2 : y = x
        · rw [if_pos h2, if_neg (by simp [h2])]
        · rw [if_neg h2, if_pos (.inr h2)]; simp
    | succ k =>
      have h0 := hlo 0 (by omega)
      rw [nth_zero] at h0
      have := ih k (by simpa using hk) (fun j hj => by have := hlo (j + 1) (by omega); rwa [nth_succ] at this) (by
        rcases hhi with h | h
        · exact .inl (by simpa using h)
        · exact .inr (by rwa [nth_succ] at h))
      unfold insS
      rw [if_pos h0, this, nth_succ]
      by_cases hc : k = l.length ∨ nth l k ≠ x
      · rw [if_pos hc, if_pos (by rcases hc with hc | hc; (exact .inl (by simp [hc])); exact .inr hc)]
        simp
      · rw [if_neg hc, if_neg (by rintro (h | h); (exact hc (.inl (by simpa using h))); exact hc (.inr h))]
/-- Numbers, each once, rising. -/
def riseS (l : List Int) : List Int := l.foldl (fun o x => insS x o) []
theorem riseS_snoc (l : List Int) (x : Int) : riseS (l ++ [x]) = insS x (riseS l) := by simp [riseS]
theorem riseS_spec (l : List Int) : (riseS l).Pairwise (· < ·) ∧ (∀ x, x ∈ riseS l ↔ x ∈ l) ∧ (riseS l).length ≤ l.length := by
  rw [← List.reverse_reverse l]
  induction l.reverse with
  | nil => simp [riseS]
  | cons y r ih =>
    rw [List.reverse_cons, riseS_snoc]
    refine ⟨insS_rise y _ ih.1, fun x => ?_, ?_⟩
    · rw [insS_mem, ih.2.1, List.mem_append, List.mem_singleton]
      exact Or.comm
    · have := insS_len y (riseS r.reverse)
      have := ih.2.2
      simp
      simp at this
      omega
theorem riseS_of {l O : List Int} (h : O.Pairwise (· < ·)) (hm : ∀ x, x ∈ O ↔ x ∈ l) : riseS l = O :=
  rise_one _ _ (riseS_spec l).1 h (fun x => ((riseS_spec l).2.1 x).trans (hm x).symm)

theorem rise_fn (l : List Int) (hl : l.length ≤ 1000) : FnD Try.prog 45 [U l] (U (riseS l)) := by
  refine fn1 mixed Try.func45 (by kernel_rfl) rfl Try.ntmps45 (by decide) fun s e0 => ?_
  unfold U at e0
  repeat (first
    | refine d_assoc ?_
    | refine d_sskip ?_
    | (refine d_sreg (by kernel_rfl) fun K hK => ?_; simp only [go_sem, Nat.reduceEqDiff, reduceCtorEq, ↓reduceIte, Nat.reduceMul, Nat.reduceAdd, Nat.reduceLT, Nat.reduceLeDiff, Int.reduceLT, Int.reduceLE, Int.reduceToNat, Nat.reduceBEq, *]; (first | refine hK.go _ ?_ | refine ⟨by omega, hK.go _ ?_⟩ | refine ⟨by omega, by omega, hK.go _ ?_⟩ | refine ⟨by omega, by omega, by omega, hK.go _ ?_⟩); clear hK K)
    | (refine d_reg (by kernel_rfl) fun K hK => ?_; simp only [go_sem, Nat.reduceEqDiff, reduceCtorEq, ↓reduceIte, Nat.reduceMul, Nat.reduceAdd, Nat.reduceLT, Nat.reduceLeDiff, Int.reduceLT, Int.reduceLE, Int.reduceToNat, Nat.reduceBEq, *]; (first | refine hK.go _ ?_ | refine ⟨by omega, hK.go _ ?_⟩ | refine ⟨by omega, by omega, hK.go _ ?_⟩ | refine ⟨by omega, by omega, by omega, hK.go _ ?_⟩); clear hK K)
    | (refine d_scond true rfl (fun _ => ?_) (fun h => by cases h))
    | (refine d_scond false rfl (fun h => by cases h) (fun _ => ?_))
    | (refine d_cond true rfl (fun _ => ?_) (fun h => by cases h))
    | (refine d_cond false rfl (fun h => by cases h) (fun _ => ?_))
    | refine d_exit ?_
    | refine d_sexit ?_
    | refine d_ret ?_
    | refine d_sret ?_
    | refine d_skip ?_)
  refine d_sblock fun K hK => ?_
  refine d_loop (fun s => ∃ (i q g v : Nat), (q = 6 ∨ q = 45) ∧ s.env 0 = .sl (sl1 (iv .u64) l) ∧ s.env 4 = iv .i64 i ∧ s.env 3 = .own (q, g) v (sl1 (iv .u64) (riseS (l.take i))) ∧ s.tip (q, g) = some (v, 28) ∧ i ≤ l.length) (fun s => l.length - idx (s.env 4)) ?_ ?_
  · exact ⟨0, 6, s.gen 6, 0, .inl rfl, by simp only [go_sem, Nat.reduceEqDiff, reduceCtorEq, ↓reduceIte, Nat.reduceMul, Nat.reduceAdd, Nat.reduceLT, Nat.reduceLeDiff, Int.reduceLT, Int.reduceLE, Int.reduceToNat, Nat.reduceBEq, *], by simp only [go_sem, Nat.reduceEqDiff, reduceCtorEq, ↓reduceIte, Nat.reduceMul, Nat.reduceAdd, Nat.reduceLT, Nat.reduceLeDiff, Int.reduceLT, Int.reduceLE, Int.reduceToNat, Nat.reduceBEq, *] <;> rfl, by simp only [go_sem, Nat.reduceEqDiff, reduceCtorEq, ↓reduceIte, Nat.reduceMul, Nat.reduceAdd, Nat.reduceLT, Nat.reduceLeDiff, Int.reduceLT, Int.reduceLE, Int.reduceToNat, Nat.reduceBEq, *] <;> rfl, by simp only [go_sem, Nat.reduceEqDiff, reduceCtorEq, ↓reduceIte, Nat.reduceMul, Nat.reduceAdd, Nat.reduceLT, Nat.reduceLeDiff, Int.reduceLT, Int.reduceLE, Int.reduceToNat, Nat.reduceBEq, *], Nat.zero_le _⟩
  clear e0
  rintro s1 K1 ⟨i, q, g, v, hq, e0, e4, e3, et, hi⟩ hK1
  have hw := wi i (by omega)
  have hsp := riseS_spec (l.take i)
  have hlen : (riseS (l.take i)).length ≤ i := by have := hsp.2.2; rw [List.length_take] at this; omega
  have hSn := Sec.mk (fun h => (congrArg riseS (take_nth l i h)).trans (riseS_snoc (l.take i) (nth l i)))
  by_cases h1 : i < l.length
  · have hS1 := Sec.mk (hSn.out h1)
    clear hSn hsp
    generalize hO : riseS (l.take i) = O at e3 hlen hS1
    have HO := Sec.mk hO
    clear hO
    repeat (first
      | refine d_assoc ?_
      | refine d_sskip ?_
      | (refine d_sreg (by kernel_rfl) fun K hK => ?_; simp only [go_sem, Nat.reduceEqDiff, reduceCtorEq, ↓reduceIte, Nat.reduceMul, Nat.reduceAdd, Nat.reduceLT, Nat.reduceLeDiff, Int.reduceLT, Int.reduceLE, Int.reduceToNat, Nat.reduceBEq, *]; (first | refine hK.go _ ?_ | refine ⟨by omega, hK.go _ ?_⟩ | refine ⟨by omega, by omega, hK.go _ ?_⟩ | refine ⟨by omega, by omega, by omega, hK.go _ ?_⟩); clear hK K)
      | (refine d_reg (by kernel_rfl) fun K hK => ?_; simp only [go_sem, Nat.reduceEqDiff, reduceCtorEq, ↓reduceIte, Nat.reduceMul, Nat.reduceAdd, Nat.reduceLT, Nat.reduceLeDiff, Int.reduceLT, Int.reduceLE, Int.reduceToNat, Nat.reduceBEq, *]; (first | refine hK.go _ ?_ | refine ⟨by omega, hK.go _ ?_⟩ | refine ⟨by omega, by omega, hK.go _ ?_⟩ | refine ⟨by omega, by omega, by omega, hK.go _ ?_⟩); clear hK K)
      | (refine d_scond true rfl (fun _ => ?_) (fun h => by cases h))
      | (refine d_scond false rfl (fun h => by cases h) (fun _ => ?_))
      | (refine d_cond true rfl (fun _ => ?_) (fun h => by cases h))
      | (refine d_cond false rfl (fun h => by cases h) (fun _ => ?_))
      | refine d_exit ?_
      | refine d_sexit ?_
      | refine d_ret ?_
      | refine d_sret ?_
      | refine d_skip ?_)
    refine d_sblock fun K2 hK2 => ?_
    repeat (first
      | refine d_assoc ?_
      | refine d_sskip ?_
      | (refine d_sreg (by kernel_rfl) fun K hK => ?_; simp only [go_sem, Nat.reduceEqDiff, reduceCtorEq, ↓reduceIte, Nat.reduceMul, Nat.reduceAdd, Nat.reduceLT, Nat.reduceLeDiff, Int.reduceLT, Int.reduceLE, Int.reduceToNat, Nat.reduceBEq, *]; (first | refine hK.go _ ?_ | refine ⟨by omega, hK.go _ ?_⟩ | refine ⟨by omega, by omega, hK.go _ ?_⟩ | refine ⟨by omega, by omega, by omega, hK.go _ ?_⟩); clear hK K)
      | (refine d_reg (by kernel_rfl) fun K hK => ?_; simp only [go_sem, Nat.reduceEqDiff, reduceCtorEq, ↓reduceIte, Nat.reduceMul, Nat.reduceAdd, Nat.reduceLT, Nat.reduceLeDiff, Int.reduceLT, Int.reduceLE, Int.reduceToNat, Nat.reduceBEq, *]; (first | refine hK.go _ ?_ | refine ⟨by omega, hK.go _ ?_⟩ | refine ⟨by omega, by omega, hK.go _ ?_⟩ | refine ⟨by omega, by omega, by omega, hK.go _ ?_⟩); clear hK K)
      | (refine d_scond true rfl (fun _ => ?_) (fun h => by cases h))
      | (refine d_scond false rfl (fun h => by cases h) (fun _ => ?_))
      | (refine d_cond true rfl (fun _ => ?_) (fun h => by cases h))
      | (refine d_cond false rfl (fun h => by cases h) (fun _ => ?_))
      | refine d_exit ?_
      | refine d_sexit ?_
      | refine d_ret ?_
      | refine d_sret ?_
      | refine d_skip ?_)
    -- the place
    refine d_sblock fun K3 hK3 => ?_
    refine d_loop (fun s => ∃ (k : Nat), s.env 0 = .sl (sl1 (iv .u64) l) ∧ s.env 4 = iv .i64 i ∧ s.env 3 = .own (q, g) v (sl1 (iv .u64) O) ∧ s.tip (q, g) = some (v, 28) ∧ s.env 5 = iv .i64 k ∧ k ≤ O.length ∧ Sec (∀ j, j < k → nth O j < nth l i)) (fun s => O.length - idx (s.env 5)) ?_ ?_
    · exact ⟨0, by simp only [go_sem, Nat.reduceEqDiff, reduceCtorEq, ↓reduceIte, Nat.reduceMul, Nat.reduceAdd, Nat.reduceLT, Nat.reduceLeDiff, Int.reduceLT, Int.reduceLE, Int.reduceToNat, Nat.reduceBEq, *], by simp only [go_sem, Nat.reduceEqDiff, reduceCtorEq, ↓reduceIte, Nat.reduceMul, Nat.reduceAdd, Nat.reduceLT, Nat.reduceLeDiff, Int.reduceLT, Int.reduceLE, Int.reduceToNat, Nat.reduceBEq, *], by simp only [go_sem, Nat.reduceEqDiff, reduceCtorEq, ↓reduceIte, Nat.reduceMul, Nat.reduceAdd, Nat.reduceLT, Nat.reduceLeDiff, Int.reduceLT, Int.reduceLE, Int.reduceToNat, Nat.reduceBEq, *], by simp only [go_sem, Nat.reduceEqDiff, reduceCtorEq, ↓reduceIte, Nat.reduceMul, Nat.reduceAdd, Nat.reduceLT, Nat.reduceLeDiff, Int.reduceLT, Int.reduceLE, Int.reduceToNat, Nat.reduceBEq, *], by simp only [go_sem, Nat.reduceEqDiff, reduceCtorEq, ↓reduceIte, Nat.reduceMul, Nat.reduceAdd, Nat.reduceLT, Nat.reduceLeDiff, Int.reduceLT, Int.reduceLE, Int.reduceToNat, Nat.reduceBEq, *] <;> rfl, Nat.zero_le _, ⟨fun j hj => by omega⟩⟩
    clear e0 e3 et
    rintro s2 K4 ⟨k, e0, e4, e3, et, e5, hk, hlo⟩ hK4
    have hw2 := wi k (by omega)
    by_cases h2 : k < O.length
    · by_cases h3 : nth O k < nth l i
      · have hN := Sec.mk (show ∀ j, j < k + 1 → nth O j < nth l i by
          intro j hj
          by_cases e : j = k
          · rw [e]; exact h3
          · exact hlo.out j (by omega))
        clear hw
        repeat (first
          | refine d_assoc ?_
          | refine d_sskip ?_
          | (refine d_sreg (by kernel_rfl) fun K hK => ?_; simp only [go_sem, Nat.reduceEqDiff, reduceCtorEq, ↓reduceIte, Nat.reduceMul, Nat.reduceAdd, Nat.reduceLT, Nat.reduceLeDiff, Int.reduceLT, Int.reduceLE, Int.reduceToNat, Nat.reduceBEq, *]; (first | refine hK.go _ ?_ | refine ⟨by omega, hK.go _ ?_⟩ | refine ⟨by omega, by omega, hK.go _ ?_⟩ | refine ⟨by omega, by omega, by omega, hK.go _ ?_⟩); clear hK K)
          | (refine d_reg (by kernel_rfl) fun K hK => ?_; simp only [go_sem, Nat.reduceEqDiff, reduceCtorEq, ↓reduceIte, Nat.reduceMul, Nat.reduceAdd, Nat.reduceLT, Nat.reduceLeDiff, Int.reduceLT, Int.reduceLE, Int.reduceToNat, Nat.reduceBEq, *]; (first | refine hK.go _ ?_ | refine ⟨by omega, hK.go _ ?_⟩ | refine ⟨by omega, by omega, hK.go _ ?_⟩ | refine ⟨by omega, by omega, by omega, hK.go _ ?_⟩); clear hK K)
          | (refine d_scond true rfl (fun _ => ?_) (fun h => by cases h))
          | (refine d_scond false rfl (fun h => by cases h) (fun _ => ?_))
          | (refine d_cond true rfl (fun _ => ?_) (fun h => by cases h))
          | (refine d_cond false rfl (fun h => by cases h) (fun _ => ?_))
          | refine d_exit ?_
          | refine d_sexit ?_
          | refine d_ret ?_
          | refine d_sret ?_
          | refine d_skip ?_)
        refine d_block fun K5 hK5 => ?_
        repeat (first
          | refine d_assoc ?_
          | refine d_sskip ?_
          | (refine d_sreg (by kernel_rfl) fun K hK => ?_; simp only [go_sem, Nat.reduceEqDiff, reduceCtorEq, ↓reduceIte, Nat.reduceMul, Nat.reduceAdd, Nat.reduceLT, Nat.reduceLeDiff, Int.reduceLT, Int.reduceLE, Int.reduceToNat, Nat.reduceBEq, *]; (first | refine hK.go _ ?_ | refine ⟨by omega, hK.go _ ?_⟩ | refine ⟨by omega, by omega, hK.go _ ?_⟩ | refine ⟨by omega, by omega, by omega, hK.go _ ?_⟩); clear hK K)
          | (refine d_reg (by kernel_rfl) fun K hK => ?_; simp only [go_sem, Nat.reduceEqDiff, reduceCtorEq, ↓reduceIte, Nat.reduceMul, Nat.reduceAdd, Nat.reduceLT, Nat.reduceLeDiff, Int.reduceLT, Int.reduceLE, Int.reduceToNat, Nat.reduceBEq, *]; (first | refine hK.go _ ?_ | refine ⟨by omega, hK.go _ ?_⟩ | refine ⟨by omega, by omega, hK.go _ ?_⟩ | refine ⟨by omega, by omega, by omega, hK.go _ ?_⟩); clear hK K)
          | (refine d_scond true rfl (fun _ => ?_) (fun h => by cases h))
          | (refine d_scond false rfl (fun h => by cases h) (fun _ => ?_))
          | (refine d_cond true rfl (fun _ => ?_) (fun h => by cases h))
          | (refine d_cond false rfl (fun h => by cases h) (fun _ => ?_))
          | refine d_exit ?_
          | refine d_sexit ?_
          | refine d_ret ?_
          | refine d_sret ?_
          | refine d_skip ?_)
        repeat (first | simp only [thenD, blockD, Nat.reduceEqDiff, reduceCtorEq, ↓reduceIte] | refine Imp.go (by assumption) _ ?_)
        exact ⟨⟨k + 1, by simp only [go_sem, Nat.reduceEqDiff, reduceCtorEq, ↓reduceIte, Nat.reduceMul, Nat.reduceAdd, Nat.reduceLT, Nat.reduceLeDiff, Int.reduceLT, Int.reduceLE, Int.reduceToNat, Nat.reduceBEq, *], by simp only [go_sem, Nat.reduceEqDiff, reduceCtorEq, ↓reduceIte, Nat.reduceMul, Nat.reduceAdd, Nat.reduceLT, Nat.reduceLeDiff, Int.reduceLT, Int.reduceLE, Int.reduceToNat, Nat.reduceBEq, *], by simp only [go_sem, Nat.reduceEqDiff, reduceCtorEq, ↓reduceIte, Nat.reduceMul, Nat.reduceAdd, Nat.reduceLT, Nat.reduceLeDiff, Int.reduceLT, Int.reduceLE, Int.reduceToNat, Nat.reduceBEq, *], by simp only [go_sem, Nat.reduceEqDiff, reduceCtorEq, ↓reduceIte, Nat.reduceMul, Nat.reduceAdd, Nat.reduceLT, Nat.reduceLeDiff, Int.reduceLT, Int.reduceLE, Int.reduceToNat, Nat.reduceBEq, *], by simp only [go_sem, Nat.reduceEqDiff, reduceCtorEq, ↓reduceIte, Nat.reduceMul, Nat.reduceAdd, Nat.reduceLT, Nat.reduceLeDiff, Int.reduceLT, Int.reduceLE, Int.reduceToNat, Nat.reduceBEq, *], h2, hN⟩, by simp only [go_sem, Nat.reduceEqDiff, reduceCtorEq, ↓reduceIte, Nat.reduceMul, Nat.reduceAdd, Nat.reduceLT, Nat.reduceLeDiff, Int.reduceLT, Int.reduceLE, Int.reduceToNat, Nat.reduceBEq, *, idx]; exact mlt h2⟩
      · have hins := insS_at (nth l i) O k hk hlo.out (.inr (by omega))
        by_cases h4 : nth O k = nth l i
        · rw [if_neg (by simp [h4]; omega)] at hins
          have hf := Sec.mk hins
          have h5 : ¬ k = O.length := by omega
          clear hins hw2
          repeat (first
            | refine d_assoc ?_
            | refine d_sskip ?_
            | (refine d_sreg (by kernel_rfl) fun K hK => ?_; simp only [go_sem, Nat.reduceEqDiff, reduceCtorEq, ↓reduceIte, Nat.reduceMul, Nat.reduceAdd, Nat.reduceLT, Nat.reduceLeDiff, Int.reduceLT, Int.reduceLE, Int.reduceToNat, Nat.reduceBEq, *]; (first | refine hK.go _ ?_ | refine ⟨by omega, hK.go _ ?_⟩ | refine ⟨by omega, by omega, hK.go _ ?_⟩ | refine ⟨by omega, by omega, by omega, hK.go _ ?_⟩); clear hK K)
            | (refine d_reg (by kernel_rfl) fun K hK => ?_; simp only [go_sem, Nat.reduceEqDiff, reduceCtorEq, ↓reduceIte, Nat.reduceMul, Nat.reduceAdd, Nat.reduceLT, Nat.reduceLeDiff, Int.reduceLT, Int.reduceLE, Int.reduceToNat, Nat.reduceBEq, *]; (first | refine hK.go _ ?_ | refine ⟨by omega, hK.go _ ?_⟩ | refine ⟨by omega, by omega, hK.go _ ?_⟩ | refine ⟨by omega, by omega, by omega, hK.go _ ?_⟩); clear hK K)
            | (refine d_scond true rfl (fun _ => ?_) (fun h => by cases h))
            | (refine d_scond false rfl (fun h => by cases h) (fun _ => ?_))
            | (refine d_cond true rfl (fun _ => ?_) (fun h => by cases h))
            | (refine d_cond false rfl (fun h => by cases h) (fun _ => ?_))
            | refine d_exit ?_
            | refine d_sexit ?_
            | refine d_ret ?_
            | refine d_sret ?_
            | refine d_skip ?_)
          repeat (first | simp only [thenD, blockD, Nat.reduceEqDiff, reduceCtorEq, ↓reduceIte] | refine Imp.go (by assumption) _ ?_)
          repeat (first
            | refine d_assoc ?_
            | refine d_sskip ?_
            | (refine d_sreg (by kernel_rfl) fun K hK => ?_; simp only [go_sem, Nat.reduceEqDiff, reduceCtorEq, ↓reduceIte, Nat.reduceMul, Nat.reduceAdd, Nat.reduceLT, Nat.reduceLeDiff, Int.reduceLT, Int.reduceLE, Int.reduceToNat, Nat.reduceBEq, *]; (first | refine hK.go _ ?_ | refine ⟨by omega, hK.go _ ?_⟩ | refine ⟨by omega, by omega, hK.go _ ?_⟩ | refine ⟨by omega, by omega, by omega, hK.go _ ?_⟩); clear hK K)
            | (refine d_reg (by kernel_rfl) fun K hK => ?_; simp only [go_sem, Nat.reduceEqDiff, reduceCtorEq, ↓reduceIte, Nat.reduceMul, Nat.reduceAdd, Nat.reduceLT, Nat.reduceLeDiff, Int.reduceLT, Int.reduceLE, Int.reduceToNat, Nat.reduceBEq, *]; (first | refine hK.go _ ?_ | refine ⟨by omega, hK.go _ ?_⟩ | refine ⟨by omega, by omega, hK.go _ ?_⟩ | refine ⟨by omega, by omega, by omega, hK.go _ ?_⟩); clear hK K)
            | (refine d_scond true rfl (fun _ => ?_) (fun h => by cases h))
            | (refine d_scond false rfl (fun h => by cases h) (fun _ => ?_))
            | (refine d_cond true rfl (fun _ => ?_) (fun h => by cases h))
            | (refine d_cond false rfl (fun h => by cases h) (fun _ => ?_))
            | refine d_exit ?_
            | refine d_sexit ?_
            | refine d_ret ?_
            | refine d_sret ?_
            | refine d_skip ?_)
          repeat (first | simp only [thenD, blockD, Nat.reduceEqDiff, reduceCtorEq, ↓reduceIte] | refine Imp.go (by assumption) _ ?_)
          repeat (first
            | refine d_assoc ?_
            | refine d_sskip ?_
            | (refine d_sreg (by kernel_rfl) fun K hK => ?_; simp only [go_sem, Nat.reduceEqDiff, reduceCtorEq, ↓reduceIte, Nat.reduceMul, Nat.reduceAdd, Nat.reduceLT, Nat.reduceLeDiff, Int.reduceLT, Int.reduceLE, Int.reduceToNat, Nat.reduceBEq, *]; (first | refine hK.go _ ?_ | refine ⟨by omega, hK.go _ ?_⟩ | refine ⟨by omega, by omega, hK.go _ ?_⟩ | refine ⟨by omega, by omega, by omega, hK.go _ ?_⟩); clear hK K)
            | (refine d_reg (by kernel_rfl) fun K hK => ?_; simp only [go_sem, Nat.reduceEqDiff, reduceCtorEq, ↓reduceIte, Nat.reduceMul, Nat.reduceAdd, Nat.reduceLT, Nat.reduceLeDiff, Int.reduceLT, Int.reduceLE, Int.reduceToNat, Nat.reduceBEq, *]; (first | refine hK.go _ ?_ | refine ⟨by omega, hK.go _ ?_⟩ | refine ⟨by omega, by omega, hK.go _ ?_⟩ | refine ⟨by omega, by omega, by omega, hK.go _ ?_⟩); clear hK K)
            | (refine d_scond true rfl (fun _ => ?_) (fun h => by cases h))
            | (refine d_scond false rfl (fun h => by cases h) (fun _ => ?_))
            | (refine d_cond true rfl (fun _ => ?_) (fun h => by cases h))
            | (refine d_cond false rfl (fun h => by cases h) (fun _ => ?_))
            | refine d_exit ?_
            | refine d_sexit ?_
            | refine d_ret ?_
            | refine d_sret ?_
            | refine d_skip ?_)
          repeat (first | simp only [thenD, blockD, Nat.reduceEqDiff, reduceCtorEq, ↓reduceIte] | refine Imp.go (by assumption) _ ?_)
          exact ⟨⟨i + 1, q, g, v, hq, by simp only [go_sem, Nat.reduceEqDiff, reduceCtorEq, ↓reduceIte, Nat.reduceMul, Nat.reduceAdd, Nat.reduceLT, Nat.reduceLeDiff, Int.reduceLT, Int.reduceLE, Int.reduceToNat, Nat.reduceBEq, *], by simp only [go_sem, Nat.reduceEqDiff, reduceCtorEq, ↓reduceIte, Nat.reduceMul, Nat.reduceAdd, Nat.reduceLT, Nat.reduceLeDiff, Int.reduceLT, Int.reduceLE, Int.reduceToNat, Nat.reduceBEq, *], by simp only [go_sem, Nat.reduceEqDiff, reduceCtorEq, ↓reduceIte, Nat.reduceMul, Nat.reduceAdd, Nat.reduceLT, Nat.reduceLeDiff, Int.reduceLT, Int.reduceLE, Int.reduceToNat, Nat.reduceBEq, *]; rw [hS1.out, hf.out], by simp only [go_sem, Nat.reduceEqDiff, reduceCtorEq, ↓reduceIte, Nat.reduceMul, Nat.reduceAdd, Nat.reduceLT, Nat.reduceLeDiff, Int.reduceLT, Int.reduceLE, Int.reduceToNat, Nat.reduceBEq, *], h1⟩, by simp only [go_sem, Nat.reduceEqDiff, reduceCtorEq, ↓reduceIte, Nat.reduceMul, Nat.reduceAdd, Nat.reduceLT, Nat.reduceLeDiff, Int.reduceLT, Int.reduceLE, Int.reduceToNat, Nat.reduceBEq, *, idx]; exact mlt h1⟩
        · rw [if_pos (.inr h4)] at hins
          have hf := Sec.mk hins
          have h5 : ¬ k = O.length := by omega
          have hl1 : (O.take k).length ≤ 1000 := by rw [List.length_take]; omega
          have hl2 : (O.take k ++ [nth l i]).length ≤ 2000 := by rw [List.length_append, List.length_take]; simp; omega
          have hl3 : (O.drop k).length ≤ 1000 := by rw [List.length_drop]; omega
          clear hins hw2
          repeat (first
            | refine d_assoc ?_
            | refine d_sskip ?_
            | (refine d_sreg (by kernel_rfl) fun K hK => ?_; simp only [go_sem, Nat.reduceEqDiff, reduceCtorEq, ↓reduceIte, Nat.reduceMul, Nat.reduceAdd, Nat.reduceLT, Nat.reduceLeDiff, Int.reduceLT, Int.reduceLE, Int.reduceToNat, Nat.reduceBEq, *]; (first | refine hK.go _ ?_ | refine ⟨by omega, hK.go _ ?_⟩ | refine ⟨by omega, by omega, hK.go _ ?_⟩ | refine ⟨by omega, by omega, by omega, hK.go _ ?_⟩); clear hK K)
            | (refine d_reg (by kernel_rfl) fun K hK => ?_; simp only [go_sem, Nat.reduceEqDiff, reduceCtorEq, ↓reduceIte, Nat.reduceMul, Nat.reduceAdd, Nat.reduceLT, Nat.reduceLeDiff, Int.reduceLT, Int.reduceLE, Int.reduceToNat, Nat.reduceBEq, *]; (first | refine hK.go _ ?_ | refine ⟨by omega, hK.go _ ?_⟩ | refine ⟨by omega, by omega, hK.go _ ?_⟩ | refine ⟨by omega, by omega, by omega, hK.go _ ?_⟩); clear hK K)
            | (refine d_scond true rfl (fun _ => ?_) (fun h => by cases h))
            | (refine d_scond false rfl (fun h => by cases h) (fun _ => ?_))
            | (refine d_cond true rfl (fun _ => ?_) (fun h => by cases h))
            | (refine d_cond false rfl (fun h => by cases h) (fun _ => ?_))
            | refine d_exit ?_
            | refine d_sexit ?_
            | refine d_ret ?_
            | refine d_sret ?_
            | refine d_skip ?_)
          repeat (first | simp only [thenD, blockD, Nat.reduceEqDiff, reduceCtorEq, ↓reduceIte] | refine Imp.go (by assumption) _ ?_)
          repeat (first
            | refine d_assoc ?_
            | refine d_sskip ?_
            | (refine d_sreg (by kernel_rfl) fun K hK => ?_; simp only [go_sem, Nat.reduceEqDiff, reduceCtorEq, ↓reduceIte, Nat.reduceMul, Nat.reduceAdd, Nat.reduceLT, Nat.reduceLeDiff, Int.reduceLT, Int.reduceLE, Int.reduceToNat, Nat.reduceBEq, *]; (first | refine hK.go _ ?_ | refine ⟨by omega, hK.go _ ?_⟩ | refine ⟨by omega, by omega, hK.go _ ?_⟩ | refine ⟨by omega, by omega, by omega, hK.go _ ?_⟩); clear hK K)
            | (refine d_reg (by kernel_rfl) fun K hK => ?_; simp only [go_sem, Nat.reduceEqDiff, reduceCtorEq, ↓reduceIte, Nat.reduceMul, Nat.reduceAdd, Nat.reduceLT, Nat.reduceLeDiff, Int.reduceLT, Int.reduceLE, Int.reduceToNat, Nat.reduceBEq, *]; (first | refine hK.go _ ?_ | refine ⟨by omega, hK.go _ ?_⟩ | refine ⟨by omega, by omega, hK.go _ ?_⟩ | refine ⟨by omega, by omega, by omega, hK.go _ ?_⟩); clear hK K)
            | (refine d_scond true rfl (fun _ => ?_) (fun h => by cases h))
            | (refine d_scond false rfl (fun h => by cases h) (fun _ => ?_))
            | (refine d_cond true rfl (fun _ => ?_) (fun h => by cases h))
            | (refine d_cond false rfl (fun h => by cases h) (fun _ => ?_))
            | refine d_exit ?_
            | refine d_sexit ?_
            | refine d_ret ?_
            | refine d_sret ?_
            | refine d_skip ?_)
          repeat (first | simp only [thenD, blockD, Nat.reduceEqDiff, reduceCtorEq, ↓reduceIte] | refine Imp.go (by assumption) _ ?_)
          repeat (first
            | refine d_assoc ?_
            | refine d_sskip ?_
            | (refine d_sreg (by kernel_rfl) fun K hK => ?_; simp only [go_sem, Nat.reduceEqDiff, reduceCtorEq, ↓reduceIte, Nat.reduceMul, Nat.reduceAdd, Nat.reduceLT, Nat.reduceLeDiff, Int.reduceLT, Int.reduceLE, Int.reduceToNat, Nat.reduceBEq, *]; (first | refine hK.go _ ?_ | refine ⟨by omega, hK.go _ ?_⟩ | refine ⟨by omega, by omega, hK.go _ ?_⟩ | refine ⟨by omega, by omega, by omega, hK.go _ ?_⟩); clear hK K)
            | (refine d_reg (by kernel_rfl) fun K hK => ?_; simp only [go_sem, Nat.reduceEqDiff, reduceCtorEq, ↓reduceIte, Nat.reduceMul, Nat.reduceAdd, Nat.reduceLT, Nat.reduceLeDiff, Int.reduceLT, Int.reduceLE, Int.reduceToNat, Nat.reduceBEq, *]; (first | refine hK.go _ ?_ | refine ⟨by omega, hK.go _ ?_⟩ | refine ⟨by omega, by omega, hK.go _ ?_⟩ | refine ⟨by omega, by omega, by omega, hK.go _ ?_⟩); clear hK K)
            | (refine d_scond true rfl (fun _ => ?_) (fun h => by cases h))
            | (refine d_scond false rfl (fun h => by cases h) (fun _ => ?_))
            | (refine d_cond true rfl (fun _ => ?_) (fun h => by cases h))
            | (refine d_cond false rfl (fun h => by cases h) (fun _ => ?_))
            | refine d_exit ?_
            | refine d_sexit ?_
            | refine d_ret ?_
            | refine d_sret ?_
            | refine d_skip ?_)
          repeat (first | simp only [thenD, blockD, Nat.reduceEqDiff, reduceCtorEq, ↓reduceIte] | refine Imp.go (by assumption) _ ?_)
          exact ⟨⟨i + 1, 45, s2.gen 45, 3, .inr rfl, by simp only [go_sem, Nat.reduceEqDiff, reduceCtorEq, ↓reduceIte, Nat.reduceMul, Nat.reduceAdd, Nat.reduceLT, Nat.reduceLeDiff, Int.reduceLT, Int.reduceLE, Int.reduceToNat, Nat.reduceBEq, *], by simp only [go_sem, Nat.reduceEqDiff, reduceCtorEq, ↓reduceIte, Nat.reduceMul, Nat.reduceAdd, Nat.reduceLT, Nat.reduceLeDiff, Int.reduceLT, Int.reduceLE, Int.reduceToNat, Nat.reduceBEq, *], by simp only [go_sem, Nat.reduceEqDiff, reduceCtorEq, ↓reduceIte, Nat.reduceMul, Nat.reduceAdd, Nat.reduceLT, Nat.reduceLeDiff, Int.reduceLT, Int.reduceLE, Int.reduceToNat, Nat.reduceBEq, *]; rw [hS1.out, hf.out], by simp only [go_sem, Nat.reduceEqDiff, reduceCtorEq, ↓reduceIte, Nat.reduceMul, Nat.reduceAdd, Nat.reduceLT, Nat.reduceLeDiff, Int.reduceLT, Int.reduceLE, Int.reduceToNat, Nat.reduceBEq, *], h1⟩, by simp only [go_sem, Nat.reduceEqDiff, reduceCtorEq, ↓reduceIte, Nat.reduceMul, Nat.reduceAdd, Nat.reduceLT, Nat.reduceLeDiff, Int.reduceLT, Int.reduceLE, Int.reduceToNat, Nat.reduceBEq, *, idx]; exact mlt h1⟩
    · obtain rfl : k = O.length := by omega
      have hins := insS_at (nth l i) O O.length hk hlo.out (.inl rfl)
      rw [if_pos (.inl rfl), List.take_length, List.drop_length, List.append_nil] at hins
      have hf := Sec.mk hins
      have hl1 : O.length ≤ 1000 := by omega
      have hl2 : (O ++ [nth l i]).length ≤ 2000 := by rw [List.length_append]; simp; omega
      have hl3 : (O.drop O.length).length ≤ 1000 := by rw [List.length_drop]; omega
      clear hins hw2
      repeat (first
        | refine d_assoc ?_
        | refine d_sskip ?_
        | (refine d_sreg (by kernel_rfl) fun K hK => ?_; simp only [go_sem, Nat.reduceEqDiff, reduceCtorEq, ↓reduceIte, Nat.reduceMul, Nat.reduceAdd, Nat.reduceLT, Nat.reduceLeDiff, Int.reduceLT, Int.reduceLE, Int.reduceToNat, Nat.reduceBEq, *]; (first | refine hK.go _ ?_ | refine ⟨by omega, hK.go _ ?_⟩ | refine ⟨by omega, by omega, hK.go _ ?_⟩ | refine ⟨by omega, by omega, by omega, hK.go _ ?_⟩); clear hK K)
        | (refine d_reg (by kernel_rfl) fun K hK => ?_; simp only [go_sem, Nat.reduceEqDiff, reduceCtorEq, ↓reduceIte, Nat.reduceMul, Nat.reduceAdd, Nat.reduceLT, Nat.reduceLeDiff, Int.reduceLT, Int.reduceLE, Int.reduceToNat, Nat.reduceBEq, *]; (first | refine hK.go _ ?_ | refine ⟨by omega, hK.go _ ?_⟩ | refine ⟨by omega, by omega, hK.go _ ?_⟩ | refine ⟨by omega, by omega, by omega, hK.go _ ?_⟩); clear hK K)
        | (refine d_scond true rfl (fun _ => ?_) (fun h => by cases h))
        | (refine d_scond false rfl (fun h => by cases h) (fun _ => ?_))
        | (refine d_cond true rfl (fun _ => ?_) (fun h => by cases h))
        | (refine d_cond false rfl (fun h => by cases h) (fun _ => ?_))
        | refine d_exit ?_
        | refine d_sexit ?_
        | refine d_ret ?_
        | refine d_sret ?_
        | refine d_skip ?_)
      repeat (first | simp only [thenD, blockD, Nat.reduceEqDiff, reduceCtorEq, ↓reduceIte] | refine Imp.go (by assumption) _ ?_)
      repeat (first
        | refine d_assoc ?_
        | refine d_sskip ?_
        | (refine d_sreg (by kernel_rfl) fun K hK => ?_; simp only [go_sem, Nat.reduceEqDiff, reduceCtorEq, ↓reduceIte, Nat.reduceMul, Nat.reduceAdd, Nat.reduceLT, Nat.reduceLeDiff, Int.reduceLT, Int.reduceLE, Int.reduceToNat, Nat.reduceBEq, *]; (first | refine hK.go _ ?_ | refine ⟨by omega, hK.go _ ?_⟩ | refine ⟨by omega, by omega, hK.go _ ?_⟩ | refine ⟨by omega, by omega, by omega, hK.go _ ?_⟩); clear hK K)
        | (refine d_reg (by kernel_rfl) fun K hK => ?_; simp only [go_sem, Nat.reduceEqDiff, reduceCtorEq, ↓reduceIte, Nat.reduceMul, Nat.reduceAdd, Nat.reduceLT, Nat.reduceLeDiff, Int.reduceLT, Int.reduceLE, Int.reduceToNat, Nat.reduceBEq, *]; (first | refine hK.go _ ?_ | refine ⟨by omega, hK.go _ ?_⟩ | refine ⟨by omega, by omega, hK.go _ ?_⟩ | refine ⟨by omega, by omega, by omega, hK.go _ ?_⟩); clear hK K)
        | (refine d_scond true rfl (fun _ => ?_) (fun h => by cases h))
        | (refine d_scond false rfl (fun h => by cases h) (fun _ => ?_))
        | (refine d_cond true rfl (fun _ => ?_) (fun h => by cases h))
        | (refine d_cond false rfl (fun h => by cases h) (fun _ => ?_))
        | refine d_exit ?_
        | refine d_sexit ?_
        | refine d_ret ?_
        | refine d_sret ?_
        | refine d_skip ?_)
      repeat (first | simp only [thenD, blockD, Nat.reduceEqDiff, reduceCtorEq, ↓reduceIte] | refine Imp.go (by assumption) _ ?_)
      repeat (first
        | refine d_assoc ?_
        | refine d_sskip ?_
        | (refine d_sreg (by kernel_rfl) fun K hK => ?_; simp only [go_sem, Nat.reduceEqDiff, reduceCtorEq, ↓reduceIte, Nat.reduceMul, Nat.reduceAdd, Nat.reduceLT, Nat.reduceLeDiff, Int.reduceLT, Int.reduceLE, Int.reduceToNat, Nat.reduceBEq, *]; (first | refine hK.go _ ?_ | refine ⟨by omega, hK.go _ ?_⟩ | refine ⟨by omega, by omega, hK.go _ ?_⟩ | refine ⟨by omega, by omega, by omega, hK.go _ ?_⟩); clear hK K)
        | (refine d_reg (by kernel_rfl) fun K hK => ?_; simp only [go_sem, Nat.reduceEqDiff, reduceCtorEq, ↓reduceIte, Nat.reduceMul, Nat.reduceAdd, Nat.reduceLT, Nat.reduceLeDiff, Int.reduceLT, Int.reduceLE, Int.reduceToNat, Nat.reduceBEq, *]; (first | refine hK.go _ ?_ | refine ⟨by omega, hK.go _ ?_⟩ | refine ⟨by omega, by omega, hK.go _ ?_⟩ | refine ⟨by omega, by omega, by omega, hK.go _ ?_⟩); clear hK K)
        | (refine d_scond true rfl (fun _ => ?_) (fun h => by cases h))
        | (refine d_scond false rfl (fun h => by cases h) (fun _ => ?_))
        | (refine d_cond true rfl (fun _ => ?_) (fun h => by cases h))
        | (refine d_cond false rfl (fun h => by cases h) (fun _ => ?_))
        | refine d_exit ?_
        | refine d_sexit ?_
        | refine d_ret ?_
        | refine d_sret ?_
        | refine d_skip ?_)
      repeat (first | simp only [thenD, blockD, Nat.reduceEqDiff, reduceCtorEq, ↓reduceIte] | refine Imp.go (by assumption) _ ?_)
      exact ⟨⟨i + 1, 45, s2.gen 45, 3, .inr rfl, by simp only [go_sem, Nat.reduceEqDiff, reduceCtorEq, ↓reduceIte, Nat.reduceMul, Nat.reduceAdd, Nat.reduceLT, Nat.reduceLeDiff, Int.reduceLT, Int.reduceLE, Int.reduceToNat, Nat.reduceBEq, *], by simp only [go_sem, Nat.reduceEqDiff, reduceCtorEq, ↓reduceIte, Nat.reduceMul, Nat.reduceAdd, Nat.reduceLT, Nat.reduceLeDiff, Int.reduceLT, Int.reduceLE, Int.reduceToNat, Nat.reduceBEq, *], by simp only [go_sem, Nat.reduceEqDiff, reduceCtorEq, ↓reduceIte, Nat.reduceMul, Nat.reduceAdd, Nat.reduceLT, Nat.reduceLeDiff, Int.reduceLT, Int.reduceLE, Int.reduceToNat, Nat.reduceBEq, *]; rw [hS1.out, hf.out, List.drop_length, List.append_nil], by simp only [go_sem, Nat.reduceEqDiff, reduceCtorEq, ↓reduceIte, Nat.reduceMul, Nat.reduceAdd, Nat.reduceLT, Nat.reduceLeDiff, Int.reduceLT, Int.reduceLE, Int.reduceToNat, Nat.reduceBEq, *], h1⟩, by simp only [go_sem, Nat.reduceEqDiff, reduceCtorEq, ↓reduceIte, Nat.reduceMul, Nat.reduceAdd, Nat.reduceLT, Nat.reduceLeDiff, Int.reduceLT, Int.reduceLE, Int.reduceToNat, Nat.reduceBEq, *, idx]; exact mlt h1⟩
  · have hf : riseS (l.take i) = riseS l := by rw [List.take_of_length_le (by omega)]
    clear hSn
    repeat (first
      | refine d_assoc ?_
      | refine d_sskip ?_
      | (refine d_sreg (by kernel_rfl) fun K hK => ?_; simp only [go_sem, Nat.reduceEqDiff, reduceCtorEq, ↓reduceIte, Nat.reduceMul, Nat.reduceAdd, Nat.reduceLT, Nat.reduceLeDiff, Int.reduceLT, Int.reduceLE, Int.reduceToNat, Nat.reduceBEq, *]; (first | refine hK.go _ ?_ | refine ⟨by omega, hK.go _ ?_⟩ | refine ⟨by omega, by omega, hK.go _ ?_⟩ | refine ⟨by omega, by omega, by omega, hK.go _ ?_⟩); clear hK K)
      | (refine d_reg (by kernel_rfl) fun K hK => ?_; simp only [go_sem, Nat.reduceEqDiff, reduceCtorEq, ↓reduceIte, Nat.reduceMul, Nat.reduceAdd, Nat.reduceLT, Nat.reduceLeDiff, Int.reduceLT, Int.reduceLE, Int.reduceToNat, Nat.reduceBEq, *]; (first | refine hK.go _ ?_ | refine ⟨by omega, hK.go _ ?_⟩ | refine ⟨by omega, by omega, hK.go _ ?_⟩ | refine ⟨by omega, by omega, by omega, hK.go _ ?_⟩); clear hK K)
      | (refine d_scond true rfl (fun _ => ?_) (fun h => by cases h))
      | (refine d_scond false rfl (fun h => by cases h) (fun _ => ?_))
      | (refine d_cond true rfl (fun _ => ?_) (fun h => by cases h))
      | (refine d_cond false rfl (fun h => by cases h) (fun _ => ?_))
      | refine d_exit ?_
      | refine d_sexit ?_
      | refine d_ret ?_
      | refine d_sret ?_
      | refine d_skip ?_)
    repeat (first | simp only [thenD, blockD, Nat.reduceEqDiff, reduceCtorEq, ↓reduceIte] | refine Imp.go (by assumption) _ ?_)
    repeat (first
      | refine d_assoc ?_
      | refine d_sskip ?_
      | (refine d_sreg (by kernel_rfl) fun K hK => ?_; simp only [go_sem, Nat.reduceEqDiff, reduceCtorEq, ↓reduceIte, Nat.reduceMul, Nat.reduceAdd, Nat.reduceLT, Nat.reduceLeDiff, Int.reduceLT, Int.reduceLE, Int.reduceToNat, Nat.reduceBEq, *]; (first | refine hK.go _ ?_ | refine ⟨by omega, hK.go _ ?_⟩ | refine ⟨by omega, by omega, hK.go _ ?_⟩ | refine ⟨by omega, by omega, by omega, hK.go _ ?_⟩); clear hK K)
      | (refine d_reg (by kernel_rfl) fun K hK => ?_; simp only [go_sem, Nat.reduceEqDiff, reduceCtorEq, ↓reduceIte, Nat.reduceMul, Nat.reduceAdd, Nat.reduceLT, Nat.reduceLeDiff, Int.reduceLT, Int.reduceLE, Int.reduceToNat, Nat.reduceBEq, *]; (first | refine hK.go _ ?_ | refine ⟨by omega, hK.go _ ?_⟩ | refine ⟨by omega, by omega, hK.go _ ?_⟩ | refine ⟨by omega, by omega, by omega, hK.go _ ?_⟩); clear hK K)
      | (refine d_scond true rfl (fun _ => ?_) (fun h => by cases h))
      | (refine d_scond false rfl (fun h => by cases h) (fun _ => ?_))
      | (refine d_cond true rfl (fun _ => ?_) (fun h => by cases h))
      | (refine d_cond false rfl (fun h => by cases h) (fun _ => ?_))
      | refine d_exit ?_
      | refine d_sexit ?_
      | refine d_ret ?_
      | refine d_sret ?_
      | refine d_skip ?_)
    exact fin1 (.inr rfl) Try.results45 (by simp only [go_sem, Nat.reduceEqDiff, reduceCtorEq, ↓reduceIte, Nat.reduceMul, Nat.reduceAdd, Nat.reduceLT, Nat.reduceLeDiff, Int.reduceLT, Int.reduceLE, Int.reduceToNat, Nat.reduceBEq, *] <;> rfl) rfl
end Go.Proofs.Ytndlcfdlhliljaa.D
