/- What the methods of a meter do, by one: New, Add, All, Left. Conditions: the meter's parts lie in two blocks of their own. -/
import Derived.Test.YtndlcfdlhliljaaPMeterWithinx1
import Derived.Maps.OwnOps
import Derived.Maps.OwnSet
import Derived.Test.YtndlcfdlhliljaaMem
import Derived.Test.YtndlcfdlhliljaaVMath
namespace Go.Proofs.Ytndlcfdlhliljaa.Mt
open Go.RowKit Go.Maps Go.WideMaps Go.Proofs.Ytndlcfdlhliljaa.PMeterWithin Go.Proofs.YtndlcfdlhliljaaW.PrintWords Go.Proofs.Ytndlcfdlhliljaa.Mem Go.Proofs.Ytndlcfdlhliljaa.VMath
set_option linter.unusedVariables false
set_option linter.unusedSimpArgs false

abbrev i64 (n : Int) : DataW Unit := .lit (.int .i64 n)
theorem lawS : Keyed Try.prog 9 := string_keyed Try.underlying9
theorem zeroI (w : World) : (zeroValue 3).run Try.prog w = .ok (.int .i64 0) w := by kernel_rfl

/-- A meter at block sb, its map at block bm, of at most n names, which reads as D; what was counted, and the most. -/
structure Mt (w : World) (sb bm n : Nat) (D : DataW Unit) (sum most : Int) : Prop where
  cells : w.heap[sb]? = some (.cells #[.map (some bm), .int .i64 sum, .int .i64 most] 93 (0, 0))
  own : w.ownsMap Try.prog 9 (plainElem Try.prog 3) bm n D
  ne : sb ≠ bm

theorem turned_keep {w w1 : World} {d sb bm : Nat} {o : Obj} (h : w.heap[sb]? = some o) (hne : sb ≠ bm) (ht : (w.drewN d).mapTurned w1 bm) : w1.heap[sb]? = some o :=
  (Chg.of_turned ht).heap (w := w.drewN d) h (lt_of_heap h) hne
theorem cell_in {w : World} {b : Nat} {c : Array Value} {t : TypeId} (h : w.heap[b]? = some (.cells c t (0, 0))) (i : Nat) (v : Value) (hv : c[i]? = some v) : w.cell? ⟨b, i, none⟩ = some v := by simp [World.cell?, h, hv]
theorem free_in {w : World} {b : Nat} {c : Array Value} {t : TypeId} (h : w.heap[b]? = some (.cells c t (0, 0))) (i : Nat) : w.frozen? ⟨b, i, none⟩ = false := by simp [World.frozen?, h]
theorem Mt.c0 {w sb bm n D sum most} (h : Mt w sb bm n D sum most) : w.cell? ⟨sb, 0, none⟩ = some (.map (some bm)) := by simp [World.cell?, h.cells]
theorem Mt.c1 {w sb bm n D sum most} (h : Mt w sb bm n D sum most) : w.cell? ⟨sb, 1, none⟩ = some (.int .i64 sum) := by simp [World.cell?, h.cells]
theorem Mt.c2 {w sb bm n D sum most} (h : Mt w sb bm n D sum most) : w.cell? ⟨sb, 2, none⟩ = some (.int .i64 most) := by simp [World.cell?, h.cells]
theorem Mt.fr {w sb bm n D sum most} (h : Mt w sb bm n D sum most) (i : Nat) : w.frozen? ⟨sb, i, none⟩ = false := by simp [World.frozen?, h.cells]

theorem Mt.drewN {w sb bm n D sum most} (h : Mt w sb bm n D sum most) (d : Nat) : Mt (w.drewN d) sb bm n D sum most := ⟨h.cells, h.own, h.ne⟩

theorem new_ok (m : Int) (w : World) (h0 : 0 ≤ m) (h1 : m ≤ 1000000000000) :
    Calls Try.prog 58 #[.int .i64 m] w fun e w' => e = .returned (.tuple #[.pointer (some ⟨w.heap.size + 1, 0, none⟩), .int .i64 0]) ∧ Mt w' (w.heap.size + 1) w.heap.size 0 (.map []) 0 m ∧ Below w.heap.size w w' := by
  have hmm := @run_makeMap Try.prog
  go_enter Try.func58, Try.ntmps58
  go_wp2
  go_ret2
  refine ⟨rfl, ⟨?_, ?_, by omega⟩, ?_⟩
  · have := heap_alloc_new (w.alloc (.map #[] 0)) (.cells #[.map (some w.heap.size), .int .i64 0, .int .i64 m] 93)
    rwa [size_alloc] at this
  · exact (World.ownsMap_made _ _ _ _).kept (World.grownBy_alloc _ _ none) (by simp)
  · exact ((Below.refl _ _).alloc (Nat.le_refl _) _).alloc (by rw [size_alloc]; omega) _

theorem new_bad (m : Int) (w : World) (h0 : m < 0 ∨ 1000000000000 < m) :
    Calls Try.prog 58 #[.int .i64 m] w fun e w' => e = .returned (.tuple #[.pointer none, .int .i64 1]) ∧ w' = w := by
  rcases h0 with h | h
  all_goals
    go_enter Try.func58, Try.ntmps58
    go_wp2
    go_ret2
    exact ⟨rfl, rfl⟩

theorem all_nil (w : World) : Calls Try.prog 60 #[.pointer none] w fun e w' => e = .returned (.int .i64 0) ∧ w' = w := by
  go_enter Try.func60, Try.ntmps60
  go_wp2
  go_ret
  exact ⟨rfl, rfl⟩
theorem all_ok {w sb bm n D sum most} (h : Mt w sb bm n D sum most) : Calls Try.prog 60 #[.pointer (some ⟨sb, 0, none⟩)] w fun e w' => e = .returned (.int .i64 sum) ∧ w' = w := by
  have c1 := h.c1
  go_enter Try.func60, Try.ntmps60
  go_wp2
  go_ret
  exact ⟨rfl, rfl⟩
theorem left_nil (w : World) : Calls Try.prog 61 #[.pointer none] w fun e w' => e = .returned (.int .i64 0) ∧ w' = w := by
  go_enter Try.func61, Try.ntmps61
  go_wp2
  go_ret
  exact ⟨rfl, rfl⟩
theorem left_ok {w sb bm n D sum most} (h : Mt w sb bm n D sum most) : Calls Try.prog 61 #[.pointer (some ⟨sb, 0, none⟩)] w fun e w' => e = .returned (.int .i64 (wrap64 (most - sum))) ∧ ∃ k, w' = w.drewN k := by
  have c1 := h.c1
  have c2 := h.c2
  go_enter Try.func61, Try.ntmps61
  go_wp2
  go_quiet (fail)
  go_wp2
  go_ret
  exact ⟨rfl, _, rfl⟩

/-! ### names -/
def letterB (b : Nat) : Bool := (97 ≤ b && b ≤ 122) || (65 ≤ b && b ≤ 90)
def digitB (b : Nat) : Bool := 48 ≤ b && b ≤ 57
/-- A name's bytes, from the first on, or from a later one. -/
def nameL : Bool → List Nat → Bool
  | _, [] => true
  | f, b :: t => (letterB b || (!f && (digitB b || b == 95))) && nameL false t
def nameB (l : List Nat) : Bool := nameL true l && !l.isEmpty && decide (l.length ≤ 30)

theorem letter_f : ∀ b : Nat, b < 256 → value_letter.f (b : Int) = some (letterB b) := by decide +kernel
theorem digit_f : ∀ b : Nat, b < 256 → value_digit.f (b : Int) = some (digitB b) := by decide +kernel
theorem name_l0 (d : Nat) : ∀ (k : Nat) (s : ByteArray) (i : Nat), i + d = s.size → s.size ≤ 140737488355328 → d < k →
    value_Name.l0 k s (s.size : Int) (i : Int) = some (nameL (decide (i = 0)) ((bs s).drop i) && !(bs s).isEmpty && decide ((bs s).length ≤ 30)) := by
  induction d with
  | zero =>
    intro k s i hi hs hk
    obtain ⟨k, rfl⟩ : ∃ m, k = m + 1 := ⟨k - 1, by omega⟩
    simp only [value_Name.l0]
    rw [if_neg (by omega), List.drop_eq_nil_of_le (by rw [bs_length]; omega)]
    by_cases h : s.size = 0
    · have h2 : s.toList = ([] : List UInt8) := by
        rw [ByteArray.toList_eq]; exact List.eq_nil_of_length_eq_zero (by rw [data_length]; exact h)
      have h3 : bs s = [] := List.eq_nil_of_length_eq_zero (by rw [bs_length]; exact h)
      rw [if_pos h2, h3]; simp [nameL]
    · have h2 : ¬ s.toList = ([] : List UInt8) := by
        rw [ByteArray.toList_eq]; intro e
        have := congrArg List.length e
        rw [data_length] at this; exact h this
      have h3 : (bs s).isEmpty = false := by
        cases e : bs s with
        | nil => have := congrArg List.length e; rw [bs_length] at this; exact absurd this h
        | cons _ _ => rfl
      have e30 : decide ((s.size : Int) ≤ 30) = decide (s.size ≤ 30) := decide_eq_decide.2 (by omega)
      rw [if_neg h2, h3, bs_length, e30]
      simp [nameL]
  | succ d ih =>
    intro k s i hi hs hk
    obtain ⟨k, rfl⟩ : ∃ m, k = m + 1 := ⟨k - 1, by omega⟩
    simp only [value_Name.l0]
    have hlt : i < (bs s).length := by rw [bs_length]; omega
    rw [if_pos (by omega), if_pos (by omega), if_pos (by omega), bs_bt s i (by omega), List.drop_eq_getElem_cons hlt]
    have hi1 := ih k s (i + 1) (by omega) hs (by omega)
    have hne : ¬ (bs s).isEmpty = true := by
      cases e : bs s with
      | nil => rw [e] at hlt; simp at hlt
      | cons _ _ => simp
    have e1 : decide (i + 1 = 0) = false := by simp
    rw [e1] at hi1
    have hb : (bs s)[i] < 256 := bs_lt s _ (List.getElem_mem _)
    generalize (bs s)[i] = b at hb ⊢
    rw [letter_f b hb, Option.bind_some, digit_f b hb, wrapS i (by omega), hi1]
    simp only [nameL]
    by_cases hl : letterB b = true
    · rw [if_pos hl, hl]; simp
    · have hl' : letterB b = false := by simpa using hl
      rw [if_neg hl, hl']
      by_cases h0 : i = 0
      · subst h0
        simp
      · rw [if_neg (by omega), Option.bind_some]
        have e0 : decide (i = 0) = false := by simpa using h0
        rw [e0]
        by_cases hd : digitB b = true
        · rw [if_pos hd, hd]; simp
        · have hd' : digitB b = false := by simpa using hd
          rw [if_neg hd, hd']
          by_cases hu : b = 95
          · subst hu; simp
          · rw [if_neg (by omega)]
            have : (b == 95) = false := by simpa using hu
            rw [this]; simp
theorem name_calls (s : ByteArray) (w : World) (hs : s.size ≤ 140737488355328) :
    Calls Try.prog 69 #[.string s] w fun e w' => e = .returned (.bool (nameB (bs s))) ∧ ∃ k, w' = w.drewN k :=
  (value_Name.calls (s.size + 1) s _ w (by
    have := name_l0 s.size (s.size + 1) s 0 (by omega) hs (by omega)
    simpa [value_Name.f, nameB] using this)).mono fun e w' ⟨he, hd⟩ => ⟨he, hd.out⟩

/-! ### Add -/
theorem add_nil (s : ByteArray) (k : Int) (w : World) : Calls Try.prog 59 #[.pointer none, .string s, .int .i64 k] w fun e w' => e = .returned (.int .i64 1) ∧ w' = w := by
  go_enter Try.func59, Try.ntmps59
  go_wp2
  go_ret
  exact ⟨rfl, rfl⟩
theorem add_form (sb : Nat) (w : World) (s : ByteArray) (k : Int) (hs : s.size ≤ 140737488355328) (hb : nameB (bs s) = false) :
    Calls Try.prog 59 #[.pointer (some ⟨sb, 0, none⟩), .string s, .int .i64 k] w fun e w' => e = .returned (.int .i64 2) ∧ ∃ d, w' = w.drewN d := by
  go_enter Try.func59, Try.ntmps59
  go_wp2_with (go_at_call 69; refine (name_calls s _ hs).mono ?_; rintro e w' ⟨rfl, kd, rfl⟩)
  go_ret
  exact ⟨rfl, _, rfl⟩
theorem add_arg (sb : Nat) (w : World) (s : ByteArray) (k : Int) (hs : s.size ≤ 140737488355328) (hb : nameB (bs s) = true) (hk : k < 0) :
    Calls Try.prog 59 #[.pointer (some ⟨sb, 0, none⟩), .string s, .int .i64 k] w fun e w' => e = .returned (.int .i64 1) ∧ ∃ d, w' = w.drewN d := by
  go_enter Try.func59, Try.ntmps59
  go_wp2_with (go_at_call 69; refine (name_calls s _ hs).mono ?_; rintro e w' ⟨rfl, kd, rfl⟩)
  go_ret
  exact ⟨rfl, _, rfl⟩
theorem add_full {w sb bm n D sum most} (h : Mt w sb bm n D sum most) (s : ByteArray) (k : Int) (hs : s.size ≤ 140737488355328) (hb : nameB (bs s) = true) (h0 : 0 ≤ sum) (h1 : sum ≤ most) (h2 : most ≤ 1000000000000) (hk : 0 ≤ k) (hf : most - sum < k) :
    Calls Try.prog 59 #[.pointer (some ⟨sb, 0, none⟩), .string s, .int .i64 k] w fun e w' => e = .returned (.int .i64 3) ∧ ∃ d, w' = w.drewN d := by
  have c1 := h.c1
  have c2 := h.c2
  go_enter Try.func59, Try.ntmps59
  go_wp2_with (go_at_call 69; refine (name_calls s _ hs).mono ?_; rintro e w' ⟨rfl, kd, rfl⟩)
  go_quiet (fail)
  go_wp2
  go_ret
  exact ⟨rfl, _, World.drewN_drewN ..⟩
set_option maxRecDepth 100000 in
theorem add_ok {w sb bm n D sum most} (h : Mt w sb bm n D sum most) (s : ByteArray) (k : Int) (hs : s.size ≤ 140737488355328) (hb : nameB (bs s) = true) (h0 : 0 ≤ sum) (h1 : sum ≤ most) (h2 : most ≤ 1000000000000) (hk : 0 ≤ k) (hf : k ≤ most - sum) (hn : n < maxLen) :
    Calls Try.prog 59 #[.pointer (some ⟨sb, 0, none⟩), .string s, .int .i64 k] w fun e w' => e = .returned (.int .i64 0) ∧
      ∃ c, D.atKey (.string s.data.toList) (i64 0) = i64 c ∧ Mt w' sb bm (n + 1) (D.put (.string s.data.toList) (i64 (wrap64 (c + k)))) (sum + k) most ∧ Chg (fun b => b = sb ∨ b = bm) w w' := by
  have c0 := h.c0
  have c1 := h.c1
  have c2 := h.c2
  have f1 := h.fr 1
  have hown := h.own
  have hkey : keyOf Try.prog 9 (.string s) = some (.string s.data.toList) := keyOf_string_mk Try.underlying9 (by unfold maxLen; omega)
  go_enter Try.func59, Try.ntmps59
  go_wp2_with (first
    | (go_at_call 69; refine (name_calls s _ hs).mono ?_; rintro e w' ⟨rfl, kd, rfl⟩))
  go_quiet (fail)
  go_wp2_with (first
    | (at_lookup; refine wpList_lookup_own_int _ rfl _ _ 91 rfl 9 3 .i64 lawS Try.underlying91 Try.underlying3 (zeroI _) bm n D rfl hown _ _ rfl hkey ?_; intro c hat hwc)
    | (at_mapUpdate; refine wpList_mapUpdate_in _ rfl _ _ _ 91 rfl 9 3 lawS Try.underlying91 _ bm n D rfl hown hn _ _ _ rfl rfl hkey _ [] (plainElem_int Try.underlying3 (wrap64_wf _)) ?_; intro w1 hown1 hturn1; have hb1 := turned_keep h.cells h.ne hturn1; have c1' := cell_in hb1 1 _ rfl; have f1' := free_in hb1 1; clear hb1))
  go_ret
  have hb1 := turned_keep h.cells h.ne hturn1
  have e := heap_setCell_at w1 sb 1 (.int .i64 (sum + k)) _ _ _ hb1
  refine ⟨rfl, c, hat, ⟨?_, ?_, h.ne⟩, ?_⟩
  · rw [e]; rfl
  · exact hown1.kept (row := some sb) ⟨rfl, rfl, rfl, by rw [size_setCell]; exact Nat.le_refl _, fun j _ hj => heap_setCell_ne _ _ _ (fun ej => hj (by rw [ej]))⟩ (fun ej => h.ne (Option.some.inj ej).symm)
  · exact (((Chg.refl _ _).drewN _).trans ((Chg.of_turned hturn1).mono (T' := fun b => b = sb ∨ b = bm) (fun b hb => .inr hb)) (fun b hb => .inl hb)).setCell _ _ (.inl (.inl rfl))

/-! ### what a meter of its own tells -/
theorem lives_ok (w : World) : Calls Try.prog 32 #[] w fun e w' => e = .returned (.bool true) ∧ Below w.heap.size w w' := by
  go_enter Try.func32, Try.ntmps32
  go_wp2_with (first
    | (go_at_call 58; refine (new_ok 5 w (by decide) (by decide)).mono ?_; rintro e w1 ⟨rfl, hM, hB⟩))
  refine (add_ok hM (⟨#[97]⟩ : ByteArray) 3 (by decide) (by decide) (by decide) (by decide) (by decide) (by decide) (by decide) (by decide)).mono ?_
  rintro e w2 ⟨rfl, c, hc, hM2, hC2⟩
  go_wp2_with fail
  refine (add_full hM2 (⟨#[98]⟩ : ByteArray) 3 (by decide) (by decide) (by decide) (by decide) (by decide) (by decide) (by decide)).mono ?_
  rintro e w3 ⟨rfl, d, rfl⟩
  go_wp2_with fail
  refine (all_ok (hM2.drewN d)).mono ?_
  rintro e w3 ⟨rfl, rfl⟩
  go_wp2_with fail
  refine (left_ok (hM2.drewN d)).mono ?_
  rintro e w3 ⟨rfl, d2, rfl⟩
  go_wp2
  go_ret
  refine ⟨by simp [wrap64], ?_⟩
  have h1 : Chg (fun b => b = w.heap.size + 1 ∨ b = w.heap.size) w w1 := Chg.of_below hB _
  exact ((h1.trans hC2 (fun b hb => .inl hb)).drewN (d + d2)).below (fun b hb => by rcases hb with hb | hb <;> omega)
end Go.Proofs.Ytndlcfdlhliljaa.Mt
