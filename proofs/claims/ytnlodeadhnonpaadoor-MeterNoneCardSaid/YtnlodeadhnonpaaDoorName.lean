/- What is a name: the letters, the digits, and a text that is a name. Conditions: the text's length fits. -/
import Derived.Test.YtnlodeadhnonpaaDoorChecked
import Derived.Test.YtnlodeadhnonpaaDoorStr
import Derived.WalkKit
import Derived.RowKit
import Derived.Deep.QuietTactic
import Derived.Test.YtnlodeadhnonpaaDoorSl
namespace Go.Proofs.YtnlodeadhnonpaaDoor.Nm
open Go.RowKit Go.Joins Go.Proofs.YtnlodeadhnonpaaDoor.Mem Go.Proofs.YtnlodeadhnonpaaDoor.Str Go.Proofs.YtnlodeadhnonpaaDoor.Sl
set_option linter.unusedVariables false
set_option linter.unusedSimpArgs false

def letterI (a : Int) : Bool := decide (97 ≤ a) && decide (a ≤ 122) || decide (65 ≤ a) && decide (a ≤ 90)
def digitI (a : Int) : Bool := decide (48 ≤ a) && decide (a ≤ 57)
/-- A name's bytes, from the first on, or from a later one. -/
def nameL : Bool → List Nat → Bool
  | _, [] => true
  | f, b :: t => (letterI b || (!f && (digitI b || b == 95))) && nameL false t
def nameB (l : List Nat) : Bool := nameL true l && !l.isEmpty && decide (l.length ≤ 30)

theorem letter_calls (a : Int) (w : World) : Calls Tryd.prog 49 #[.int .u8 a] w fun e w' => e = .returned (.bool (letterI a)) ∧ ∃ k, w' = w.drewN k := by
  have hv : letterI a = (decide (97 ≤ a) && decide (a ≤ 122) || decide (65 ≤ a) && decide (a ≤ 90)) := rfl
  rw [hv]
  clear hv
  cases h1 : decide (97 ≤ a) <;> cases h2 : decide (a ≤ 122) <;> cases h3 : decide (65 ≤ a) <;> cases h4 : decide (a ≤ 90)
  all_goals
    go_enter Tryd.func49, Tryd.ntmps49
    go_wp2
    go_ret
    exact ⟨by simp, by first | exact ⟨0, rfl⟩ | exact ⟨_, rfl⟩⟩
theorem digit_calls (a : Int) (w : World) : Calls Tryd.prog 50 #[.int .u8 a] w fun e w' => e = .returned (.bool (digitI a)) ∧ ∃ k, w' = w.drewN k := by
  have hv : digitI a = (decide (48 ≤ a) && decide (a ≤ 57)) := rfl
  rw [hv]
  clear hv
  cases h1 : decide (48 ≤ a) <;> cases h2 : decide (a ≤ 57)
  all_goals
    go_enter Tryd.func50, Tryd.ntmps50
    go_wp2
    go_ret
    exact ⟨by simp, by first | exact ⟨0, rfl⟩ | exact ⟨_, rfl⟩⟩

theorem name_step (s : ByteArray) (i : Nat) (h : i < s.size) : nameL (decide (i = 0)) ((bs s).drop i) = ((letterI (bt s i) || (!decide (i = 0) && (digitI (bt s i) || bt s i == 95))) && nameL false ((bs s).drop (i + 1))) := by
  rw [List.drop_eq_getElem_cons (by rw [bs_length]; exact h), bs_bt s i h]
  simp only [nameL]
  have e : ((bs s)[i]'(by rw [bs_length]; exact h) == 95) = ((((bs s)[i]'(by rw [bs_length]; exact h) : Nat) : Int) == 95) := by
    rw [Bool.eq_iff_iff, beq_iff_eq, beq_iff_eq]; omega
  rw [e]
set_option maxRecDepth 100000 in
set_option maxHeartbeats 2000000 in
theorem name_calls (s : ByteArray) (w : World) (hs : s.size ≤ 140737488355328) :
    Calls Tryd.prog 36 #[.string s] w fun e w' => e = .returned (.bool (nameB (bs s))) ∧ ∃ k, w' = w.drewN k := by
  have hsS := Sec.mk hs
  clear hs
  go_enter Tryd.func36, Tryd.ntmps36
  go_wp2
  go_loopw [6] (fun v wr => ∃ x : Int, v = .int .i64 x ∧ Sec (∃ i : Nat, x = (i : Int) ∧ i ≤ s.size ∧ nameL true (bs s) = nameL (decide (i = 0)) ((bs s).drop i)) ∧ ∃ d, wr = w.drewN d) (fun v _ => s.size - (intOf v).toNat)
  case atStart => exact ⟨0, rfl, ⟨0, rfl, Nat.zero_le _, by simp⟩, 0, rfl⟩
  case round =>
    obtain ⟨x, rfl, hS, d, rfl⟩ := hrel
    by_cases c2 : x < (s.size : Int)
    · have c2b : decide (x < (s.size : Int)) = true := decide_eq_true c2
      have h0 : (0 ≤ x) = True := eq_true (by obtain ⟨i, rfl, _⟩ := hS.out; omega)
      have hq := eq_true c2
      have hb := bt_at s x
      have hnext : letterI (bt s x) = true ∨ (x ≠ 0 ∧ (digitI (bt s x) = true ∨ bt s x = 95)) → Sec (∃ i : Nat, wrap64 (x + 1) = (i : Int) ∧ x + 1 = (i : Int) ∧ i ≤ s.size ∧ nameL true (bs s) = nameL (decide (i = 0)) ((bs s).drop i)) := by
        intro hh
        obtain ⟨i, rfl, hi, he⟩ := hS.out
        have hi2 : i < s.size := by omega
        have := hsS.out
        refine ⟨i + 1, by rw [w64 (by omega) (by omega)]; omega, by omega, hi2, ?_⟩
        rw [he, name_step s i hi2]
        have : (letterI (bt s i) || (!decide (i = 0) && (digitI (bt s i) || bt s i == 95))) = true := by
          rcases hh with hh | ⟨h1, hh | hh⟩
          · simp [hh]
          · have : ¬ i = 0 := by omega
            simp [hh, this]
          · have : ¬ i = 0 := by omega
            simp [hh, this]
        rw [this]; simp
      have hstop : letterI (bt s x) = false → (x = 0 ∨ (digitI (bt s x) = false ∧ ¬ bt s x = 95)) → nameB (bs s) = false := by
        intro h1 hh
        obtain ⟨i, rfl, hi, he⟩ := hS.out
        have hi2 : i < s.size := by omega
        unfold nameB
        rw [he, name_step s i hi2, h1]
        rcases hh with hh | ⟨h2, h3⟩
        · have : i = 0 := by omega
          simp [this]
        · simp [h2, h3]
      clear c2 hS hsS
      cases hl : letterI (bt s x)
      · by_cases c8 : x = 0
        · have hr := hstop hl (.inl c8)
          have c8b : (x == 0) = true := beq_iff_eq.mpr c8
          clear hnext hstop c8
          go_wp2_with (first | (go_at_call 49; refine (letter_calls _ _).mono ?_; rintro e w' ⟨rfl, kd, rfl⟩))
          go_ret
          exact ⟨by rw [hr]; rfl, _, rfl⟩
        · have c8b : (x == 0) = false := beq_eq_false_iff_ne.mpr c8
          cases hd : digitI (bt s x)
          · by_cases c9 : bt s x = 95
            · have hn := hnext (.inr ⟨c8, .inr c9⟩)
              have c9b : (bt s x != 95) = false := bne_eq_false_iff_eq.mpr c9
              clear hnext hstop c8 c9
              go_wp2_with (first | (go_at_call 49; refine (letter_calls _ _).mono ?_; rintro e w' ⟨rfl, kd, rfl⟩) | (go_at_call 50; refine (digit_calls _ _).mono ?_; rintro e w' ⟨rfl, kd, rfl⟩))
              go_roundw
              case rel => exact ⟨_, rfl, by obtain ⟨i, h1, h2, h3, h4⟩ := hn.out; exact ⟨i, by first | exact h1 | exact h2, h3, h4⟩, _, rfl⟩
              case measure => obtain ⟨i, h1, h2, h3, h4⟩ := hn.out; have := of_eq_true hq; have := of_eq_true h0; simp [intOf, h1]; omega
            · have hr := hstop hl (.inr ⟨hd, c9⟩)
              have c9b : (bt s x != 95) = true := bne_iff_ne.mpr c9
              clear hnext hstop c8 c9
              go_wp2_with (first | (go_at_call 49; refine (letter_calls _ _).mono ?_; rintro e w' ⟨rfl, kd, rfl⟩) | (go_at_call 50; refine (digit_calls _ _).mono ?_; rintro e w' ⟨rfl, kd, rfl⟩))
              go_ret
              exact ⟨by rw [hr]; rfl, _, rfl⟩
          · have hn := hnext (.inr ⟨c8, .inl hd⟩)
            clear hnext hstop c8
            go_wp2_with (first | (go_at_call 49; refine (letter_calls _ _).mono ?_; rintro e w' ⟨rfl, kd, rfl⟩) | (go_at_call 50; refine (digit_calls _ _).mono ?_; rintro e w' ⟨rfl, kd, rfl⟩))
            go_roundw
            case rel => exact ⟨_, rfl, by obtain ⟨i, h1, h2, h3, h4⟩ := hn.out; exact ⟨i, by first | exact h1 | exact h2, h3, h4⟩, _, rfl⟩
            case measure => obtain ⟨i, h1, h2, h3, h4⟩ := hn.out; have := of_eq_true hq; have := of_eq_true h0; simp [intOf, h1]; omega
      · have hn := hnext (.inl hl)
        clear hnext hstop
        go_wp2_with (first | (go_at_call 49; refine (letter_calls _ _).mono ?_; rintro e w' ⟨rfl, kd, rfl⟩))
        go_roundw
        case rel => exact ⟨_, rfl, by obtain ⟨i, h1, h2, h3, h4⟩ := hn.out; exact ⟨i, by first | exact h1 | exact h2, h3, h4⟩, _, rfl⟩
        case measure => obtain ⟨i, h1, h2, h3, h4⟩ := hn.out; have := of_eq_true hq; have := of_eq_true h0; simp [intOf, h1]; omega
    · have c2b : decide (x < (s.size : Int)) = false := decide_eq_false c2
      have hv : nameB (bs s) = (!(bs s).isEmpty && decide ((bs s).length ≤ 30)) := by
        obtain ⟨i, rfl, hi, he⟩ := hS.out
        unfold nameB
        rw [he, List.drop_eq_nil_of_le (by rw [bs_length]; omega)]
        rfl
      clear c2 hS
      by_cases h0 : s.size = 0
      · have hr : nameB (bs s) = false := by rw [hv, bs_nil.2 h0]; rfl
        have hem : s.toList.isEmpty = true := by rw [toList_nil.2 h0]; rfl
        clear hv hsS h0
        go_wp2
        go_ret
        exact ⟨by rw [hr]; rfl, _, rfl⟩
      · have hem : s.toList.isEmpty = false := by
          cases e : s.toList with
          | nil => exact absurd (toList_nil.1 e) h0
          | cons _ _ => rfl
        have hne : (bs s).isEmpty = false := by
          cases e : bs s with
          | nil => exact absurd (bs_nil.1 e) h0
          | cons _ _ => rfl
        have hr : nameB (bs s) = decide ((s.size : Int) ≤ 30) := by
          rw [hv, hne, bs_length]
          have : decide (s.size ≤ 30) = decide ((s.size : Int) ≤ 30) := decide_eq_decide.2 (by omega)
          rw [this]; rfl
        clear hv hne h0 hsS
        go_wp2
        go_ret
        exact ⟨by rw [hr]; rfl, _, rfl⟩
end Go.Proofs.YtnlodeadhnonpaaDoor.Nm
