/- The law RadixSums: how much all ahead of each place come to, or that it is too much. Conditions: none beyond the statement's own. -/
import Derived.Test.YtndlcfdlhliljaaRadix3
namespace Go.Proofs.Ytndlcfdlhliljaa.Rx
open Go.RowKit Go.Proofs.Ytndlcfdlhliljaa.Mem Go.Proofs.Ytndlcfdlhliljaa.Sl Go.Proofs.Ytndlcfdlhliljaa.RMath
set_option linter.unusedVariables false
set_option linter.unusedSimpArgs false

theorem Order_any (w : World) (v : Value) (ys : List Int) (h : Rd (ei .u64) 1 w v ys) (hy : ∀ y ∈ ys, 0 ≤ y ∧ y ≤ 18446744073709551615) (hm : ys.length ≤ 1000000000) :
    Calls Try.prog 62 #[v] w fun e w' => ∃ v', e = .returned v' ∧ Own (ei .i64) 1 3 w' w.heap.size v' (orderL ys) ∧ Below w.heap.size w w' := by
  have hc := order_any w v ys h hy hm
  go_enter Try.func62, Try.ntmps62
  go_wp2_with (go_at_call 70; refine hc.mono ?_; rintro e w' ⟨v', rfl, hO, hB⟩)
  go_ret
  exact ⟨_, rfl, hO, hB⟩

theorem same_b (w : World) (v u : Value) (xs ys : List Int) (h : Rd (ei .i64) 1 w v xs) (g : Rd (ei .i64) 1 w u ys) :
    Calls Try.prog 37 #[v, u] w fun e w' => e = .returned (.bool (decide (xs = ys))) ∧ Below w.heap.size w w' :=
  (same_any w v u xs ys h g).mono fun e w' ⟨he, n, hw⟩ => ⟨he, by rw [hw]; exact below_dn (Below.refl _ _) _⟩
theorem order313 (w : World) (v : Value) (h : Rd (ei .u64) 1 w v [3, 1, 3]) :
    Calls Try.prog 62 #[v] w fun e w' => ∃ v', e = .returned v' ∧ Own (ei .i64) 1 3 w' w.heap.size v' [1, 0, 2] ∧ Below w.heap.size w w' := by
  have e1 : orderL [3, 1, 3] = [1, 0, 2] := by decide +kernel
  have := Order_any w v [3, 1, 3] h (by decide) (by decide)
  rwa [e1] at this
theorem groups557 (w : World) (v : Value) (h : Rd (ei .u64) 1 w v [5, 5, 7]) :
    Calls Try.prog 63 #[v] w fun e w' => ∃ v', e = .returned v' ∧ Own (ei .i64) 1 3 w' w.heap.size v' [0, 2, 3] ∧ Below w.heap.size w w' := by
  have e2 : grpsAt [5, 5, 7] ([5, 5, 7] : List Int).length ++ [((([5, 5, 7] : List Int).length : Nat) : Int)] = [0, 2, 3] := by decide +kernel
  have := groups_any w v [5, 5, 7] h (by decide)
  rwa [e2] at this

theorem lives_ok (w : World) : Calls Try.prog 36 #[] w fun e w' => e = .returned (.bool true) ∧ Below w.heap.size w w' := by
  go_enter Try.func36, Try.ntmps36
  go_wp2_with fail
  have hR1 := (Own.lit 28 w w.heap.size #[.int .u64 3, .int .u64 1, .int .u64 3] [3, 1, 3] 3 (ei_len .u64) rfl rfl (Nat.le_refl _) (by decide)).rd
  refine (order313 _ _ hR1).mono ?_
  rintro e w1 ⟨v1, rfl, hO1, hB1⟩
  go_wp2_with fail
  have hR2 := (Own.lit 3 w1 w1.heap.size #[.int .i64 1, .int .i64 0, .int .i64 2] [1, 0, 2] 3 (ei_len .i64) rfl rfl (Nat.le_refl _) (by decide)).rd
  refine (same_b _ _ _ _ _ (hO1.alloc _).rd hR2).mono ?_
  rintro e W2 ⟨rfl, hb2⟩
  have hB2 : Below w.heap.size w W2 := by
    have h1 := hB1.size
    rw [size_alloc] at h1
    exact (((((Below.refl _ _).alloc (Nat.le_refl _) _).trans (hB1.mono (by rw [size_alloc]; omega))).alloc (by omega) _)).trans (hb2.mono (by rw [size_alloc]; omega))
  clear hb2 hO1 hR2
  go_wp2_with fail
  have hR3 := (Own.lit 28 W2 W2.heap.size #[.int .u64 5, .int .u64 5, .int .u64 7] [5, 5, 7] 3 (ei_len .u64) rfl rfl (Nat.le_refl _) (by decide)).rd
  refine (groups557 _ _ hR3).mono ?_
  rintro e w3 ⟨v3, rfl, hO3, hB3⟩
  go_wp2_with fail
  have hR4 := (Own.lit 3 w3 w3.heap.size #[.int .i64 0, .int .i64 2, .int .i64 3] [0, 2, 3] 3 (ei_len .i64) rfl rfl (Nat.le_refl _) (by decide)).rd
  refine (same_b _ _ _ _ _ (hO3.alloc _).rd hR4).mono ?_
  rintro e w4 ⟨rfl, hb4⟩
  go_wp2
  go_ret
  refine ⟨rfl, ?_⟩
  have hs2 := hB2.size
  have hs3 := hB3.size
  rw [size_alloc] at hs3
  exact (((hB2.alloc hs2 _).trans (hB3.mono (by rw [size_alloc]; omega))).alloc (by omega) _).trans (hb4.mono (by rw [size_alloc]; omega))

set_option maxRecDepth 100000 in
theorem radixSums_any (w : World) (v : Value) (xs : List Int) (h : Rd (ei .i64) 1 w v xs) :
    Calls Try.prog 8 #[v] w fun e w' => e = .returned (.bool true) ∧ Below w.heap.size w w' := by
  obtain ⟨A, c, rfl⟩ := h.slice
  have hl := h.at_.2.2.1
  have hl40 : (xs.take 40).length ≤ 40 := by rw [List.length_take]; omega
  go_enter Try.func8, Try.ntmps8
  go_wp2_with fail
  refine (few_any w _ xs 40 h (by decide)).mono ?_
  rintro e w1 ⟨v1, rfl, hO1, hB1⟩
  go_wp2_with fail
  refine (few_any w1 _ xs 40 (h.below hB1) (by decide)).mono ?_
  rintro e w2 ⟨v2, rfl, hO2, hB2⟩
  go_wp2_with fail
  refine (sums_any w2 _ _ hO2.rd (by omega)).mono ?_
  rintro e w3 ⟨hS, hB3⟩
  have hO1' : Own (ei .i64) 1 3 w3 w.heap.size v1 (xs.take 40) := (hO1.keep (T := fun _ => False) (Chg.of_below hB2 _) (fun _ _ => id)).keep (T := fun _ => False) (Chg.of_below hB3 _) (fun _ _ => id)
  have hB03 : Below w.heap.size w w3 := (hB1.trans (hB2.mono hB1.size)).trans (hB3.mono (Nat.le_trans hB1.size hB2.size))
  have href := refSums_any w3 v1 _ hO1'.rd (by omega)
  clear hO1 hO2 hO1' hB1 hB2 hB3 hl hl40
  cases hs : sumsS (xs.take 40) 0 with
  | none =>
    rw [hs] at hS href
    obtain rfl : e = _ := hS
    clear hs
    go_wp2_with fail
    refine href.mono ?_
    rintro e w4 ⟨hR, hB4⟩
    obtain rfl : e = _ := hR
    go_wp2_with fail
    refine (lives_ok w4).mono ?_
    rintro e w5 ⟨rfl, hB5⟩
    go_wp2
    go_ret
    exact ⟨rfl, (hB03.trans (hB4.mono hB03.size)).trans (hB5.mono (Nat.le_trans hB03.size hB4.size))⟩
  | some t =>
    rw [hs] at hS href
    obtain ⟨v3, rfl, hO3⟩ := hS
    clear hs
    go_wp2_with fail
    refine href.mono ?_
    rintro e w4 ⟨⟨v4, rfl, hO4⟩, hB4⟩
    go_wp2_with fail
    refine (same_b w4 v3 v4 _ _ (hO3.rd.below hB4) hO4.rd).mono ?_
    rintro e w5 ⟨rfl, hB5⟩
    rw [decide_eq_true rfl]
    go_wp2_with fail
    refine (lives_ok w5).mono ?_
    rintro e w6 ⟨rfl, hB6⟩
    go_wp2
    go_ret
    have h4 := hB4.size
    have h5 := hB5.size
    have h3 := hB03.size
    exact ⟨rfl, ((hB03.trans (hB4.mono h3)).trans (hB5.mono (Nat.le_trans h3 h4))).trans (hB6.mono (by omega))⟩
end Go.Proofs.Ytndlcfdlhliljaa.Rx
