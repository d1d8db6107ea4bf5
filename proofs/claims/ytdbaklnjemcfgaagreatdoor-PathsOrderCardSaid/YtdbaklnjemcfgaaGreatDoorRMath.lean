/- The plain side of the byte sort: what a pass gives, and where each place comes to lie. Conditions: bytes below 256. -/
import Derived.Test.YtdbaklnjemcfgaaGreatDoorSl
namespace Go.Proofs.YtdbaklnjemcfgaaGreatDoor.RMath
open Go.Proofs.YtdbaklnjemcfgaaGreatDoor.Sl
set_option linter.unusedVariables false
set_option linter.unusedSimpArgs false
section
variable (f : Int → Nat)
/-- Those of one byte behind one another, byte by byte. -/
def bkt (l : List Int) (b : Nat) : List Int := l.filter (f · == b)
def passN (l : List Int) (n : Nat) : List Int := (List.range n).flatMap (bkt f l)
def passL (l : List Int) : List Int := passN f l 256
def pre (l : List Int) (b : Nat) : Nat := (passN f l b).length
theorem passN_succ (l : List Int) (n : Nat) : passN f l (n + 1) = passN f l n ++ bkt f l n := by
  unfold passN
  rw [List.range_succ, List.flatMap_append]
  simp
theorem pre_zero (l : List Int) : pre f l 0 = 0 := rfl
theorem pre_succ (l : List Int) (b : Nat) : pre f l (b + 1) = pre f l b + (bkt f l b).length := by
  unfold pre
  rw [passN_succ, List.length_append]
theorem pre_mono (l : List Int) {a b : Nat} (h : a ≤ b) : pre f l a ≤ pre f l b := by
  induction h with
  | refl => exact Nat.le_refl _
  | step h ih => rw [pre_succ]; omega
theorem passN_split (l : List Int) {a b : Nat} (h : a ≤ b) : ∃ r, passN f l b = passN f l a ++ r := by
  induction h with
  | refl => exact ⟨[], by simp⟩
  | step h ih =>
    obtain ⟨r, hr⟩ := ih
    exact ⟨r ++ bkt f l _, by rw [passN_succ, hr, List.append_assoc]⟩
theorem cnt_all (l : List Int) (n : Nat) : pre f l n = (l.filter fun x => decide (f x < n)).length := by
  induction n with
  | zero => rw [pre_zero, List.filter_eq_nil_iff.2 (by simp)]; rfl
  | succ n ih =>
    rw [pre_succ, ih]
    clear ih
    induction l with
    | nil => simp [bkt]
    | cons x l ih =>
      simp only [bkt, List.filter_cons] at ih ⊢
      by_cases h1 : f x < n
      · have h2 : ¬ f x = n := by omega
        have h3 : f x < n + 1 := by omega
        simp only [h1, h2, h3, decide_true, if_true, List.length_cons, beq_iff_eq, if_false] at ih ⊢
        omega
      · by_cases h2 : f x = n
        · have h3 : f x < n + 1 := by omega
          have h4 : ¬ n < n := by omega
          simp only [h2, decide_true, if_true, List.length_cons, beq_self_eq_true, h4, decide_false, Bool.false_eq_true, if_false, Nat.lt_succ_self] at ih ⊢
          omega
        · have h3 : ¬ f x < n + 1 := by omega
          simp only [h1, h2, h3, decide_false, Bool.false_eq_true, if_false, beq_iff_eq] at ih ⊢
          omega
theorem pre_all (l : List Int) (hf : ∀ x ∈ l, f x < 256) : pre f l 256 = l.length := by
  rw [cnt_all]
  congr 1
  rw [List.filter_eq_self]
  intro x hx
  simpa using hf x hx
theorem pre_le (l : List Int) (hf : ∀ x ∈ l, f x < 256) {b : Nat} (hb : b ≤ 256) : pre f l b ≤ l.length := by
  rw [← pre_all f l hf]; exact pre_mono f l hb
theorem passL_len (l : List Int) (hf : ∀ x ∈ l, f x < 256) : (passL f l).length = l.length := pre_all f l hf

/-- Where the i-th place comes to lie. -/
def pos (l : List Int) (i : Nat) : Nat := pre f l (f (nth 0 l i)) + (bkt f (l.take i) (f (nth 0 l i))).length

theorem filter_at (p : Int → Bool) : ∀ (l : List Int) (i : Nat), i < l.length → p (nth 0 l i) = true → (l.filter p)[((l.take i).filter p).length]? = some (nth 0 l i)
  | [], i, h, _ => by simp at h
  | x :: l, 0, _, h => by
    have h' : p x = true := h
    simp [List.filter_cons, h', nth]
  | x :: l, i + 1, h, hp => by
    have h1 : i < l.length := by simpa using h
    have e : nth 0 (x :: l) (i + 1) = nth 0 l i := by simp [nth]
    rw [e] at hp ⊢
    have ih := filter_at p l i h1 hp
    rw [List.take_succ_cons, List.filter_cons, List.filter_cons]
    by_cases hx : p x = true
    · rw [if_pos hx, if_pos hx, List.length_cons, List.getElem?_cons_succ]; exact ih
    · rw [if_neg hx, if_neg hx]; exact ih
theorem filter_take_lt (p : Int → Bool) (l : List Int) (i : Nat) (h : i < l.length) (hp : p (nth 0 l i) = true) : ((l.take i).filter p).length < (l.filter p).length := by
  have := filter_at p l i h hp
  exact (List.getElem?_eq_some_iff.1 this).1
theorem filter_from (p : Int → Bool) : ∀ (l : List Int) (j : Nat), j < (l.filter p).length → ∃ i, i < l.length ∧ p (nth 0 l i) = true ∧ ((l.take i).filter p).length = j
  | [], j, h => by simp at h
  | x :: l, j, h => by
    by_cases hx : p x = true
    · cases j with
      | zero => exact ⟨0, by simp, hx, by simp⟩
      | succ j =>
        rw [List.filter_cons, if_pos hx, List.length_cons] at h
        obtain ⟨i, h1, h2, h3⟩ := filter_from p l j (by omega)
        refine ⟨i + 1, by simpa using h1, by simpa [nth] using h2, ?_⟩
        rw [List.take_succ_cons, List.filter_cons, if_pos hx, List.length_cons, h3]
    · rw [List.filter_cons, if_neg hx] at h
      obtain ⟨i, h1, h2, h3⟩ := filter_from p l j h
      refine ⟨i + 1, by simpa using h1, by simpa [nth] using h2, ?_⟩
      rw [List.take_succ_cons, List.filter_cons, if_neg hx, h3]

theorem pos_lt (l : List Int) (hf : ∀ x ∈ l, f x < 256) (i : Nat) (h : i < l.length) : pos f l i < l.length := by
  have hx : nth 0 l i ∈ l := by rw [nth_eq 0 l i h]; exact List.getElem_mem _
  have h1 := filter_take_lt (f · == f (nth 0 l i)) l i h (by simp)
  have h2 := pre_succ f l (f (nth 0 l i))
  have h3 := pre_le f l hf (show f (nth 0 l i) + 1 ≤ 256 by have := hf _ hx; omega)
  unfold pos bkt at *
  omega
theorem passL_at (l : List Int) (hf : ∀ x ∈ l, f x < 256) (i : Nat) (h : i < l.length) : (passL f l)[pos f l i]? = some (nth 0 l i) := by
  have hx : nth 0 l i ∈ l := by rw [nth_eq 0 l i h]; exact List.getElem_mem _
  have hb := hf _ hx
  obtain ⟨r, hr⟩ := passN_split f l (show f (nth 0 l i) + 1 ≤ 256 by omega)
  have h1 := filter_at (f · == f (nth 0 l i)) l i h (by simp)
  have h2 := filter_take_lt (f · == f (nth 0 l i)) l i h (by simp)
  unfold passL
  rw [hr, passN_succ, List.append_assoc]
  unfold pos
  rw [List.getElem?_append_right (by unfold pre; omega)]
  have e : pre f l (f (nth 0 l i)) + (bkt f (l.take i) (f (nth 0 l i))).length - (passN f l (f (nth 0 l i))).length = (bkt f (l.take i) (f (nth 0 l i))).length := by unfold pre; omega
  rw [e, List.getElem?_append_left (by exact h2)]
  exact h1
theorem pos_onto (l : List Int) (hf : ∀ x ∈ l, f x < 256) (m : Nat) (h : m < l.length) : ∃ i, i < l.length ∧ pos f l i = m := by
  have hall := pre_all f l hf
  -- the byte in whose stretch m lies
  have : ∀ n, n ≤ 256 → m < pre f l n → ∃ b, b < n ∧ pre f l b ≤ m ∧ m < pre f l (b + 1) := by
    intro n
    induction n with
    | zero => intro _ hm; rw [pre_zero] at hm; omega
    | succ n ih =>
      intro hn hm
      by_cases h2 : m < pre f l n
      · obtain ⟨b, b1, b2, b3⟩ := ih (by omega) h2
        exact ⟨b, by omega, b2, b3⟩
      · exact ⟨n, by omega, by omega, hm⟩
  obtain ⟨b, b1, b2, b3⟩ := this 256 (Nat.le_refl _) (by omega)
  rw [pre_succ] at b3
  obtain ⟨i, i1, i2, i3⟩ := filter_from (f · == b) l (m - pre f l b) (by unfold bkt at b3; omega)
  have e : f (nth 0 l i) = b := by simpa using i2
  refine ⟨i, i1, ?_⟩
  unfold pos bkt
  rw [e, i3]; omega
/-- Whatever has each place where it comes to lie is what the pass gives. -/
theorem passL_eq (l o : List Int) (hf : ∀ x ∈ l, f x < 256) (hl : o.length = l.length) (h : ∀ i, i < l.length → nth 0 o (pos f l i) = nth 0 l i) : o = passL f l := by
  apply List.ext_getElem?
  intro m
  by_cases hm : m < l.length
  · obtain ⟨i, i1, rfl⟩ := pos_onto f l hf m hm
    rw [passL_at f l hf i i1, ← h i i1, nth_get 0 o _ (by omega)]
  · rw [List.getElem?_eq_none (by omega), List.getElem?_eq_none (by rw [passL_len f l hf]; omega)]
theorem pos_inj (l : List Int) (hf : ∀ x ∈ l, f x < 256) {i j : Nat} (hi : i < j) (hj : j < l.length) : pos f l i ≠ pos f l j := by
  have hxi : nth 0 l i ∈ l := by rw [nth_eq 0 l i (by omega)]; exact List.getElem_mem _
  have hxj : nth 0 l j ∈ l := by rw [nth_eq 0 l j hj]; exact List.getElem_mem _
  have h1 := filter_take_lt (f · == f (nth 0 l i)) l i (by omega) (by simp)
  have h2 := filter_take_lt (f · == f (nth 0 l j)) l j hj (by simp)
  by_cases h : f (nth 0 l i) = f (nth 0 l j)
  · -- one byte: the later one lies behind
    have h3 : nth 0 (l.take j) i = nth 0 l i := by
      rw [nth_eq 0 _ i (by rw [List.length_take]; omega), nth_eq 0 l i (by omega), List.getElem_take]
    have h4 := filter_take_lt (f · == f (nth 0 l j)) (l.take j) i (by rw [List.length_take]; omega) (by rw [h3]; simpa using h)
    rw [List.take_take, Nat.min_eq_left (by omega)] at h4
    unfold pos bkt
    rw [h]
    omega
  · rcases Nat.lt_or_gt_of_ne h with h5 | h5
    · have := pre_mono f l (show f (nth 0 l i) + 1 ≤ f (nth 0 l j) by omega)
      rw [pre_succ] at this
      unfold pos bkt at *
      omega
    · have := pre_mono f l (show f (nth 0 l j) + 1 ≤ f (nth 0 l i) by omega)
      rw [pre_succ] at this
      unfold pos bkt at *
      omega
end
end Go.Proofs.YtdbaklnjemcfgaaGreatDoor.RMath
