/- The law MeterWithin holds: whether a number is at most the product of two others. Conditions: none beyond the statement. -/
import Derived.Test.YtndlcfdlhliljaaRows
import Derived.Test.YtndlcfdlhliljaaMeter
import Derived.Test.YtndlcfdlhliljaaShelf
import Derived.ProofKit
import Derived.OpenShut
import Derived.ChangeOld
import Derived.SizedLaws
namespace Go.Proofs.Ytndlcfdlhliljaa.Mt
open Go.RowKit Go.Maps Go.WideMaps Go.Proofs.Ytndlcfdlhliljaa.Mem Go.Proofs.Ytndlcfdlhliljaa.VMath
set_option linter.unusedVariables false
set_option linter.unusedSimpArgs false

def withinB (a b c : Int) : Bool := decide (0 ≤ a ∧ 0 ≤ b ∧ 0 ≤ c ∧ a ≤ b * c)

theorem within_neg (a b c : Int) (w : World) (h : a < 0 ∨ b < 0 ∨ c < 0) :
    Calls Try.prog 31 #[.int .i64 a, .int .i64 b, .int .i64 c] w fun e w' => e = .returned (.bool (withinB a b c)) ∧ w' = w := by
  have hf : withinB a b c = false := by unfold withinB; rw [decide_eq_false]; omega
  rw [hf]
  clear hf
  by_cases h1 : a < 0
  · go_enter Try.func31, Try.ntmps31
    go_wp2
    go_ret
    exact ⟨rfl, rfl⟩
  · by_cases h2 : b < 0
    · go_enter Try.func31, Try.ntmps31
      go_wp2
      go_ret
      exact ⟨rfl, rfl⟩
    · have h3 : c < 0 := by omega
      go_enter Try.func31, Try.ntmps31
      go_wp2
      go_ret
      exact ⟨rfl, rfl⟩

theorem within_nat (a b c : Nat) (w : World) (ha : a < 9223372036854775808) (hb : b < 9223372036854775808) (hc : c < 9223372036854775808) :
    Calls Try.prog 31 #[.int .i64 (a : Int), .int .i64 (b : Int), .int .i64 (c : Int)] w fun e w' => e = .returned (.bool (withinB a b c)) ∧ w' = w := by
  have e : withinB a b c = decide (a ≤ b * c) := by
    unfold withinB
    apply decide_eq_decide.2
    constructor
    · intro h; exact_mod_cast h.2.2.2
    · intro h; exact ⟨by omega, by omega, by omega, by exact_mod_cast h⟩
  rw [e]
  have hd : b * c = 18446744073709551616 * (b * c / 18446744073709551616) + b * c % 18446744073709551616 := (Nat.div_add_mod _ _).symm
  obtain ⟨p, hp⟩ : ∃ p, b * c / 18446744073709551616 = p := ⟨_, rfl⟩
  obtain ⟨q, hq⟩ : ∃ q, b * c % 18446744073709551616 = q := ⟨_, rfl⟩
  have hM := Try.bits_Mul64 b c (by omega) (by omega) w
  rw [hp, hq] at hM hd
  have hfin : decide (a ≤ b * c) = (decide (0 < p) || decide (a ≤ q)) := by
    rw [hd]
    by_cases h0 : 0 < p
    · have : a ≤ 18446744073709551616 * p + q := by omega
      simp [h0, this]
    · have : p = 0 := by omega
      subst this
      simp
  rw [hfin]
  clear hd hp hq hfin e
  by_cases h0 : 0 < p
  · have h0' : decide (0 < p) = true := decide_eq_true h0
    rw [h0', Bool.true_or]
    clear h0'
    go_enter Try.func31, Try.ntmps31
    go_wp2_with (go_at_call 57; refine hM.mono ?_; rintro e w' ⟨rfl, rfl⟩)
    go_ret
    exact ⟨rfl, rfl⟩
  · have h0' : decide (0 < p) = false := decide_eq_false h0
    rw [h0', Bool.false_or]
    obtain rfl : p = 0 := by omega
    clear h0' h0
    by_cases h1 : a ≤ q
    · have h1' : decide (a ≤ q) = true := decide_eq_true h1
      rw [h1']
      clear h1'
      go_enter Try.func31, Try.ntmps31
      go_wp2_with (go_at_call 57; refine hM.mono ?_; rintro e w' ⟨rfl, rfl⟩)
      go_ret
      exact ⟨by simp [h1], rfl⟩
    · have h1' : decide (a ≤ q) = false := decide_eq_false h1
      rw [h1']
      clear h1'
      go_enter Try.func31, Try.ntmps31
      go_wp2_with (go_at_call 57; refine hM.mono ?_; rintro e w' ⟨rfl, rfl⟩)
      go_ret
      exact ⟨by simp, rfl⟩

theorem within_any (a b c : Int) (w : World) (ha : a < 9223372036854775808) (hb : b < 9223372036854775808) (hc : c < 9223372036854775808) :
    Calls Try.prog 31 #[.int .i64 a, .int .i64 b, .int .i64 c] w fun e w' => e = .returned (.bool (withinB a b c)) ∧ w' = w := by
  by_cases h : a < 0 ∨ b < 0 ∨ c < 0
  · exact within_neg a b c w h
  · obtain ⟨x, rfl⟩ := Int.eq_ofNat_of_zero_le (show 0 ≤ a by omega)
    obtain ⟨y, rfl⟩ := Int.eq_ofNat_of_zero_le (show 0 ≤ b by omega)
    obtain ⟨z, rfl⟩ := Int.eq_ofNat_of_zero_le (show 0 ≤ c by omega)
    exact within_nat x y z w (by omega) (by omega) (by omega)

/-- At most a product, the other way round. -/
theorem within_div (a b c : Int) (ha : 0 < a) (hb : 0 < b) (hc : 0 < c) : withinB a b c = decide ((a - 1) / b < c) := by
  unfold withinB
  apply decide_eq_decide.2
  rw [Int.ediv_lt_iff_lt_mul hb, Int.mul_comm c b]
  omega

theorem law_any (a b c : Int) (w : World) (wa : -9223372036854775808 ≤ a ∧ a < 9223372036854775808) (wb : -9223372036854775808 ≤ b ∧ b < 9223372036854775808) (wc : -9223372036854775808 ≤ c ∧ c < 9223372036854775808) :
    Calls Try.prog 7 #[.int .i64 a, .int .i64 b, .int .i64 c] w fun e w' => e = .returned (.bool true) ∧ Below w.heap.size w w' := by
  have hW := within_any a b c w wa.2 wb.2 wc.2
  by_cases h : 0 ≤ a ∧ 0 ≤ b ∧ 0 ≤ c
  · obtain ⟨h1, h2, h3⟩ := h
    by_cases h0 : a = 0
    · subst h0
      have e : withinB 0 b c = true := by
        unfold withinB; rw [decide_eq_true_iff]
        exact ⟨by omega, h2, h3, Int.mul_nonneg h2 h3⟩
      rw [e] at hW
      clear e
      go_enter Try.func7, Try.ntmps7
      go_wp2_with (first | (go_at_call 31; refine hW.mono ?_; rintro e w' ⟨rfl, rfl⟩) | (go_at_call 32; refine (lives_ok _).mono ?_; rintro e w' ⟨rfl, hB⟩))
      go_ret
      exact ⟨rfl, hB⟩
    · by_cases hb0 : b = 0
      · subst hb0
        have e : withinB a 0 c = false := by unfold withinB; rw [decide_eq_false]; simp; omega
        rw [e] at hW
        clear e
        have h1' : 0 < a := by omega
        clear h0
        go_enter Try.func7, Try.ntmps7
        go_wp2_with (first | (go_at_call 31; refine hW.mono ?_; rintro e w' ⟨rfl, rfl⟩) | (go_at_call 32; refine (lives_ok _).mono ?_; rintro e w' ⟨rfl, hB⟩))
        go_ret
        exact ⟨rfl, hB⟩
      · by_cases hc0 : c = 0
        · subst hc0
          have e : withinB a b 0 = false := by unfold withinB; rw [decide_eq_false]; simp; omega
          rw [e] at hW
          clear e
          have h1' : 0 < a := by omega
          have h2' : 0 < b := by omega
          clear h0 hb0
          go_enter Try.func7, Try.ntmps7
          go_wp2_with (first | (go_at_call 31; refine hW.mono ?_; rintro e w' ⟨rfl, rfl⟩) | (go_at_call 32; refine (lives_ok _).mono ?_; rintro e w' ⟨rfl, hB⟩))
          go_ret
          exact ⟨rfl, hB⟩
        · have h1' : 0 < a := by omega
          have h2' : 0 < b := by omega
          have h3' : 0 < c := by omega
          rw [within_div a b c h1' h2' h3'] at hW
          clear h0 hb0 hc0
          go_enter Try.func7, Try.ntmps7
          go_wp2_with (first | (go_at_call 31; refine hW.mono ?_; rintro e w' ⟨rfl, rfl⟩) | (go_at_call 32; refine (lives_ok _).mono ?_; rintro e w' ⟨rfl, hB⟩))
          all_goals
            go_ret
            exact ⟨rfl, hB⟩
  · have e : withinB a b c = false := by unfold withinB; rw [decide_eq_false]; intro hh; exact h ⟨hh.1, hh.2.1, hh.2.2.1⟩
    rw [e] at hW
    clear e
    by_cases h1 : 0 ≤ a
    · by_cases h2 : 0 ≤ b
      · have h3 : c < 0 := by omega
        clear h
        go_enter Try.func7, Try.ntmps7
        go_wp2_with (first | (go_at_call 31; refine hW.mono ?_; rintro e w' ⟨rfl, rfl⟩) | (go_at_call 32; refine (lives_ok _).mono ?_; rintro e w' ⟨rfl, hB⟩))
        go_ret
        exact ⟨rfl, hB⟩
      · have h2' : b < 0 := by omega
        clear h h2
        go_enter Try.func7, Try.ntmps7
        go_wp2_with (first | (go_at_call 31; refine hW.mono ?_; rintro e w' ⟨rfl, rfl⟩) | (go_at_call 32; refine (lives_ok _).mono ?_; rintro e w' ⟨rfl, hB⟩))
        go_ret
        exact ⟨rfl, hB⟩
    · have h1' : a < 0 := by omega
      clear h h1
      go_enter Try.func7, Try.ntmps7
      go_wp2_with (first | (go_at_call 31; refine hW.mono ?_; rintro e w' ⟨rfl, rfl⟩) | (go_at_call 32; refine (lives_ok _).mono ?_; rintro e w' ⟨rfl, hB⟩))
      go_ret
      exact ⟨rfl, hB⟩
end Go.Proofs.Ytndlcfdlhliljaa.Mt
