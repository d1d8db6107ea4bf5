/- The law RadixPairs: any pairs in order, and each once. Conditions: none beyond the statement's own. -/
import Derived.Test.YtndlcfdlhliljaaRPairs2
namespace Go.Proofs.Ytndlcfdlhliljaa.Rx
open Go.RowKit Go.Proofs.Ytndlcfdlhliljaa.Mem Go.Proofs.Ytndlcfdlhliljaa.Sl Go.Proofs.Ytndlcfdlhliljaa.RMath
set_option linter.unusedVariables false
set_option linter.unusedSimpArgs false

theorem samePairs_b (w : World) (v u : Value) (l : List (Int × Int)) (h : Rd ep 2 w v l) (g : Rd ep 2 w u l) :
    Calls Try.prog 42 #[v, u] w fun e w' => e = .returned (.bool true) ∧ Below w.heap.size w w' :=
  (samePairs_any w v u l l h g rfl).mono fun e w' ⟨he, n, hw⟩ => ⟨he, by rw [hw]; exact below_dn (Below.refl _ _) _⟩
set_option maxRecDepth 100000 in
theorem radixPairs_any (w : World) (v : Value) (l : List (Int × Int)) (h : Rd ep 2 w v l) (hl : ∀ p ∈ l, In32 p) :
    Calls Try.prog 9 #[v] w fun e w' => e = .returned (.bool true) ∧ Below w.heap.size w w' := by
  obtain ⟨A, c, rfl⟩ := h.slice
  have hin : ∀ p ∈ l.take 50, In32 p := fun p hp => hl p (List.mem_of_mem_take hp)
  have hlen : (l.take 50).length ≤ 1000000 := by rw [List.length_take]; omega
  clear hl
  go_enter Try.func9, Try.ntmps9
  go_wp2_with fail
  refine (pairs_any w _ l 50 h (by decide)).mono ?_
  rintro e w1 ⟨v1, rfl, hO1, hB1⟩
  have hx1 := hO1.rd
  have h1 := h.below hB1
  clear hO1
  go_wp2_with fail
  refine (pairs_any w1 _ l 50 h1 (by decide)).mono ?_
  rintro e w2 ⟨v2, rfl, hO2, hB2⟩
  have hx2 := hx1.below hB2
  have h2 := h1.below hB2
  have hB02 := hB1.trans (hB2.mono hB1.size)
  clear hx1 h1 hB1 hB2
  go_wp2_with fail
  refine (Pairs_any w2 _ _ hO2.rd (by omega) hin).mono ?_
  rintro e w3 ⟨v3, rfl, hO3, hB3⟩
  have hx3 := hx2.below hB3
  have h3 := h2.below hB3
  have hr3 := hO3.rd
  have hB03 := hB02.trans (hB3.mono hB02.size)
  clear hx2 h2 hB02 hB3 hO2 hO3
  go_wp2_with fail
  refine (keys_any w3 _ _ hx3 (by omega) hin).mono ?_
  rintro e w4 ⟨v4, rfl, hO4, hB4⟩
  have hx4 := hx3.below hB4
  have h4 := h3.below hB4
  have hr4 := hr3.below hB4
  have hB04 := hB03.trans (hB4.mono hB03.size)
  clear hx3 h3 hr3 hB03 hB4
  go_wp2_with fail
  refine (refOrder_any w4 _ _ hO4.rd (by rw [keys_len]; omega) (keys_rng hin)).mono ?_
  rintro e w5 ⟨v5, rfl, hO5, hB5⟩
  have hx5 := hx4.below hB5
  have h5 := h4.below hB5
  have hr5 := hr4.below hB5
  have hB05 := hB04.trans (hB5.mono hB04.size)
  clear hx4 h4 hr4 hB04 hB5 hO4
  go_wp2_with fail
  refine (same_b w5 _ _ _ _ hr5 hO5.rd).mono ?_
  rintro e w6 ⟨rfl, hB6⟩
  rw [decide_eq_true rfl]
  have hx6 := hx5.below hB6
  have h6 := h5.below hB6
  have hB06 := hB05.trans (hB6.mono hB05.size)
  clear hx5 h5 hr5 hB05 hB6 hO5
  go_wp2_with fail
  refine (pairs_any w6 _ l 50 h6 (by decide)).mono ?_
  rintro e w7 ⟨v7, rfl, hO7, hB7⟩
  have hx7 := hx6.below hB7
  have hB07 := hB06.trans (hB7.mono hB06.size)
  clear hx6 h6 hB06 hB7
  go_wp2_with fail
  refine (sort_any w7 _ _ hO7.rd hlen hin).mono ?_
  rintro e w8 ⟨v8, rfl, hO8, hB8⟩
  have hx8 := hx7.below hB8
  have hr8 := hO8.rd
  have hB08 := hB07.trans (hB8.mono hB07.size)
  clear hx7 hB07 hB8 hO7 hO8
  go_wp2_with fail
  refine (refSort_any w8 _ _ hx8 hlen hin).mono ?_
  rintro e w9 ⟨v9, rfl, hO9, hB9⟩
  have hr9 := hr8.below hB9
  have hB09 := hB08.trans (hB9.mono hB08.size)
  clear hx8 hr8 hB08 hB9
  go_wp2_with fail
  refine (samePairs_b w9 _ _ _ hr9 hO9.rd).mono ?_
  rintro e w10 ⟨rfl, hB10⟩
  have hB10' := hB09.trans (hB10.mono hB09.size)
  clear hr9 hB09 hB10 hO9
  go_wp2_with fail
  refine (lives_ok w10).mono ?_
  rintro e w11 ⟨rfl, hB11⟩
  go_wp2
  go_ret
  exact ⟨rfl, hB10'.trans (hB11.mono hB10'.size)⟩
end Go.Proofs.Ytndlcfdlhliljaa.Rx
