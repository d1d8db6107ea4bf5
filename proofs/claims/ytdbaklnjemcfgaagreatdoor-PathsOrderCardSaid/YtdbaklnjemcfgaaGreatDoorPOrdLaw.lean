/- Which of two rows of hops stands first, and a row's text, in plain words. Conditions: none. -/
import Derived.Test.YtdbaklnjemcfgaaGreatDoorHFew
import Derived.Lib.Join
import Derived.Lib.ItoaNum
import Derived.Lib.ItoaLen
namespace Go.Proofs.YtdbaklnjemcfgaaGreatDoor.D
open Go.RowKit Go.Proofs.YtdbaklnjemcfgaaGreatDoor.Mem
set_option linter.unusedVariables false
def cmpH (x y : Hop) : Int := if x = y then 0 else if x.1 < y.1 ∨ (x.1 = y.1 ∧ y.2 = true) then -1 else 1
def orderL : List Hop → List Hop → Int
  | [], [] => 0
  | [], _ :: _ => -1
  | _ :: _, [] => 1
  | x :: a, y :: b => if cmpH x y = 0 then orderL a b else cmpH x y
theorem cmpH_self (x : Hop) : cmpH x x = 0 := if_pos rfl
theorem cmpH_ne {x y : Hop} (h : x ≠ y) : cmpH x y ≠ 0 := by
  unfold cmpH
  rw [if_neg h]
  split <;> simp
theorem orderL_step (a b : List Hop) (i : Nat) (h1 : i < a.length) (h2 : i < b.length) : orderL (a.drop i) (b.drop i) = if cmpH (nth a i) (nth b i) = 0 then orderL (a.drop (i + 1)) (b.drop (i + 1)) else cmpH (nth a i) (nth b i) := by
  rw [drop_nth a i h1, drop_nth b i h2]; rfl
theorem orderL_a (a b : List Hop) (i : Nat) (h1 : a.length ≤ i) (h2 : i < b.length) : orderL (a.drop i) (b.drop i) = -1 := by
  rw [List.drop_of_length_le h1, drop_nth b i h2]; rfl
theorem orderL_b (a b : List Hop) (i : Nat) (h1 : i < a.length) (h2 : b.length ≤ i) : orderL (a.drop i) (b.drop i) = 1 := by
  rw [List.drop_of_length_le h2, drop_nth a i h1]; rfl
theorem orderL_ab (a b : List Hop) (i : Nat) (h1 : a.length ≤ i) (h2 : b.length ≤ i) : orderL (a.drop i) (b.drop i) = 0 := by
  rw [List.drop_of_length_le h1, List.drop_of_length_le h2]; rfl
def inR (n : Int) : Prop := -9223372036854775808 ≤ n ∧ n ≤ 9223372036854775807
def txtH (h : Hop) : List UInt8 := (if h.2 then 45 else 43) :: Lib.itoa h.1
def textL (l : List Hop) : List UInt8 := Lib.join (l.map txtH) [32]
theorem join_snoc (xs : List (List UInt8)) (x sep : List UInt8) : Lib.join (xs ++ [x]) sep = if xs = [] then x else Lib.join xs sep ++ sep ++ x := by
  cases xs with
  | nil => simp [Lib.join_one]
  | cons y r =>
    rw [if_neg (by simp), List.cons_append, Lib.join_cons, Lib.join_cons]
    simp [Lib.joinTail, List.append_assoc]
theorem textL_take (l : List Hop) (i : Nat) (h : i < l.length) : textL (l.take (i + 1)) = if i = 0 then txtH (nth l i) else textL (l.take i) ++ [32] ++ txtH (nth l i) := by
  unfold textL
  rw [take_nth l i h, List.map_append, List.map_cons, List.map_nil, join_snoc]
  by_cases h0 : i = 0
  · subst h0; simp
  · rw [if_neg h0, if_neg]
    intro e
    have e2 : (l.take i).length = 0 := by simpa only [List.length_map, List.length_nil] using congrArg List.length e
    rw [List.length_take] at e2
    omega
theorem txtH_len (h : Hop) (hr : inR h.1) : (txtH h).length ≤ 22 := by
  have := Lib.itoa_length_le h.1 hr.1 hr.2
  simp [txtH]; omega
theorem textL_len (l : List Hop) (hr : ∀ h ∈ l, inR h.1) : ∀ i, i ≤ l.length → (textL (l.take i)).length ≤ i * 23 := by
  intro i
  induction i with
  | zero => intro _; simp [textL, Lib.join_nil]
  | succ i ih =>
    intro hi
    have h1 := txtH_len (nth l i) (hr _ (nth_mem (by omega)))
    have h2 := ih (by omega)
    rw [textL_take l i (by omega)]
    split
    · omega
    · simp only [List.length_append, List.length_cons, List.length_nil]; omega
theorem digit_at : ∀ i : _root_.Fin 10, (([48, 49, 50, 51, 52, 53, 54, 55, 56, 57] : List UInt8).take (i.val + 1)).drop i.val = [UInt8.ofNat (48 + i.val)] := by decide +kernel
theorem dec_small {n : Nat} (h : n < 10) : (([48, 49, 50, 51, 52, 53, 54, 55, 56, 57] : List UInt8).take (n + 1)).drop n = Lib.decDigits n := by
  rw [Lib.decDigits_one h]; exact digit_at ⟨n, h⟩
theorem dec_big {n : Nat} (h : ¬ n < 10) : Lib.decDigits (n / 10) ++ Lib.decDigits (n % 10) = Lib.decDigits n := by
  rw [Lib.decDigits_one (by omega : n % 10 < 10)]
  exact (show Lib.decDigits n = _ by rw [Lib.decDigits, dif_neg h]).symm
theorem dec_len (n : Nat) (h : n < 18446744073709551616) : (Lib.decDigits n).length ≤ 20 := by rw [Lib.decDigits_length]; exact Lib.nDigits_le20 n h
end Go.Proofs.YtdbaklnjemcfgaaGreatDoor.D
