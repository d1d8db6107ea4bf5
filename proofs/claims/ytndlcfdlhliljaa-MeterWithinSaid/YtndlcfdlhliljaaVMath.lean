import Derived.Test.YtndlcfdlhliljaaWMore
import Derived.Laws.BitsLemmas
import Derived.Laws.Strings
import Derived.Lib.SmallJoins
namespace Go.Proofs.Ytndlcfdlhliljaa.VMath
set_option linter.unusedSimpArgs false
open Go.RowKit Go.Proofs.YtndlcfdlhliljaaW.PrintWords

/-- A number's bytes. -/
def enc (u : Nat) : List Nat := if u < 128 then [u] else (128 + u % 128) :: enc (u / 128)
termination_by u
decreasing_by omega

theorem enc_lt {u : Nat} (h : u < 128) : enc u = [u] := by rw [enc]; simp [h]
theorem enc_ge {u : Nat} (h : ¬ u < 128) : enc u = (128 + u % 128) :: enc (u / 128) := by rw [enc]; simp [h]

theorem enc_len (d : Nat) : ∀ u, u < 128 ^ (d + 1) → (enc u).length ≤ d + 1 := by
  induction d with
  | zero => intro u h; rw [enc_lt (by simpa using h)]; simp
  | succ d ih =>
    intro u h
    by_cases hu : u < 128
    · rw [enc_lt hu]; simp
    · rw [enc_ge hu]
      have := ih (u / 128) (by
        rw [Nat.pow_succ] at h
        exact Nat.div_lt_of_lt_mul (by omega))
      simp; omega

theorem enc_len10 {u : Nat} (h : u < 18446744073709551616) : (enc u).length ≤ 10 :=
  enc_len 9 u (by have : (128 : Nat) ^ (9 + 1) = 1180591620717411303424 := by decide
                  omega)

theorem enc_pos (u : Nat) : 0 < (enc u).length := by
  by_cases hu : u < 128
  · rw [enc_lt hu]; simp
  · rw [enc_ge hu]; simp

theorem enc_bytes (u : Nat) : ∀ x ∈ enc u, x < 256 := by
  induction u using Nat.strongRecOn with
  | ind u ih =>
    intro x hx
    by_cases hu : u < 128
    · rw [enc_lt hu] at hx; simp at hx; omega
    · rw [enc_ge hu] at hx
      rcases List.mem_cons.1 hx with h | h
      · omega
      · exact ih _ (by omega) x h

/-- What bytes begin with: from the i-th byte on, u behind it. -/
def gl : List Nat → Nat → Nat → Nat × Nat × Nat
  | [], _, _ => (0, 0, 7)
  | b :: t, i, u =>
    if 10 ≤ i then (0, 0, 7) else
    if i = 9 ∧ 1 < b then (0, 0, 2) else
    if 128 ≤ b then gl t (i + 1) (u + (b - 128) * 128 ^ i)
    else if b = 0 ∧ 0 < i then (0, 0, 2) else (u + b * 128 ^ i, i + 1, 0)

theorem pow_big {i : Nat} (h : 10 ≤ i) : 1180591620717411303424 ≤ 128 ^ i := by
  have : (128 : Nat) ^ 10 ≤ 128 ^ i := Nat.pow_le_pow_right (by decide) h
  have e : (128 : Nat) ^ 10 = 1180591620717411303424 := by decide
  omega
theorem pow9 : (128 : Nat) ^ 9 = 9223372036854775808 := by decide
theorem pow_big9 {i : Nat} (h : 9 ≤ i) : 9223372036854775808 ≤ 128 ^ i := by
  have : (128 : Nat) ^ 9 ≤ 128 ^ i := Nat.pow_le_pow_right (by decide) h
  rw [pow9] at this; omega
theorem pow_pos' (i : Nat) : 0 < 128 ^ i := Nat.pow_pos (by decide)

theorem gl_enc (v : Nat) : ∀ (r : List Nat) (i u : Nat), v * 128 ^ i < 18446744073709551616 → (0 < v ∨ i = 0) → gl (enc v ++ r) i u = (u + v * 128 ^ i, i + (enc v).length, 0) := by
  induction v using Nat.strongRecOn with
  | ind v ih =>
    intro r i u hb hv
    have hi : ¬ 10 ≤ i := by
      intro h
      have := pow_big h
      have hv' : 0 < v := by omega
      have : 128 ^ i ≤ v * 128 ^ i := Nat.le_mul_of_pos_left _ hv'
      omega
    by_cases hu : v < 128
    · rw [enc_lt hu]
      simp only [List.cons_append, List.nil_append, gl]
      rw [if_neg hi, if_neg, if_neg (by omega), if_neg (by omega)]
      · simp
      · rintro ⟨rfl, h1⟩
        rw [pow9] at hb; omega
    · rw [enc_ge hu]
      simp only [List.cons_append, gl]
      have hi9 : ¬ 9 ≤ i := by
        intro h
        have := pow_big9 h
        have : 128 * 128 ^ i ≤ v * 128 ^ i := Nat.mul_le_mul_right _ (by omega)
        omega
      have e : 128 ^ (i + 1) = 128 * 128 ^ i := by rw [Nat.pow_succ, Nat.mul_comm]
      have e2 : v * 128 ^ i = (v % 128) * 128 ^ i + (v / 128) * (128 * 128 ^ i) := by
        have h3 : v = v % 128 + 128 * (v / 128) := by omega
        have h4 : (v / 128) * (128 * 128 ^ i) = (128 * (v / 128)) * 128 ^ i := by rw [← Nat.mul_assoc, Nat.mul_comm (v / 128) 128]
        rw [h4, ← Nat.add_mul, ← h3]
      rw [if_neg hi, if_neg (by omega), if_pos (by omega)]
      rw [ih (v / 128) (by omega) r (i + 1) _ (by rw [e]; omega) (by omega)]
      rw [e]
      have e3 : 128 + v % 128 - 128 = v % 128 := by omega
      rw [e3]
      refine Prod.ext ?_ (Prod.ext ?_ rfl)
      · show u + v % 128 * 128 ^ i + v / 128 * (128 * 128 ^ i) = u + v * 128 ^ i
        omega
      · show i + 1 + (enc (v / 128)).length = i + ((128 + v % 128) :: enc (v / 128)).length
        simp; omega

/-- What of a whole number has been read, is what there was. -/
theorem gl_back : ∀ (l : List Nat) (i u x n : Nat), (∀ b ∈ l, b < 256) → gl l i u = (x, n, 0) →
    ∃ v r, l = enc v ++ r ∧ x = u + v * 128 ^ i ∧ n = i + (enc v).length ∧ (0 < v ∨ i = 0) ∧ v * 128 ^ i < 18446744073709551616
  | [], i, u, x, n, _, h => by simp [gl] at h
  | b :: t, i, u, x, n, hb, h => by
    simp only [gl] at h
    by_cases h1 : 10 ≤ i
    · rw [if_pos h1] at h; simp at h
    · rw [if_neg h1] at h
      by_cases h2 : i = 9 ∧ 1 < b
      · rw [if_pos h2] at h; simp at h
      · rw [if_neg h2] at h
        by_cases h3 : 128 ≤ b
        · rw [if_pos h3] at h
          obtain ⟨v, r, rfl, rfl, rfl, h4, h5⟩ := gl_back t (i + 1) _ x n (fun y hy => hb y (List.mem_cons_of_mem _ hy)) h
          have hb' := hb b List.mem_cons_self
          have hv : 0 < v := by omega
          have e : 128 ^ (i + 1) = 128 * 128 ^ i := by rw [Nat.pow_succ, Nat.mul_comm]
          rw [e] at h5
          have hnu : ¬ (b - 128 + 128 * v) < 128 := by omega
          have e5 : (b - 128 + 128 * v) * 128 ^ i = (b - 128) * 128 ^ i + v * (128 * 128 ^ i) := by
            rw [Nat.add_mul, Nat.mul_comm 128 v, Nat.mul_assoc]
          refine ⟨b - 128 + 128 * v, r, ?_, ?_, ?_, by omega, ?_⟩
          · rw [enc_ge hnu]
            have e1 : 128 + (b - 128 + 128 * v) % 128 = b := by omega
            have e2 : (b - 128 + 128 * v) / 128 = v := by omega
            rw [e1, e2]; rfl
          · rw [e5, e]; omega
          · rw [enc_ge hnu]
            have e2 : (b - 128 + 128 * v) / 128 = v := by omega
            rw [e2]; simp; omega
          · -- bounded: at most ten bytes, the last at most 1
            rw [e5]
            have hi8 : i ≤ 8 := by
              have hb1 : ¬ (i = 9) := by intro hh; exact h2 ⟨hh, by omega⟩
              omega
            have hd : 128 ^ i * 128 ^ (9 - i) = 9223372036854775808 := by rw [← Nat.pow_add, ← pow9]; congr 1; omega
            have hd2 : 128 ^ (9 - i) = 128 * 128 ^ (8 - i) := by rw [← Nat.pow_succ']; congr 1; omega
            have hp := pow_pos' i
            have q1 : (v + 1) * (128 * 128 ^ i) ≤ 18446744073709551616 := by
              -- v * M < 2^64 with M | 2^64
              have hM : (128 * 128 ^ i) * (2 * 128 ^ (8 - i)) = 18446744073709551616 := by
                have : 128 ^ i * (128 * 128 ^ (8 - i)) = 9223372036854775808 := by rw [← hd2]; exact hd
                have e7 : (128 * 128 ^ i) * (2 * 128 ^ (8 - i)) = 2 * (128 ^ i * (128 * 128 ^ (8 - i))) := by
                  simp only [Nat.mul_assoc, Nat.mul_comm, Nat.mul_left_comm]
                rw [e7, this]
              rw [← hM] at h5 ⊢
              rw [Nat.mul_comm v] at h5
              have := Nat.lt_of_mul_lt_mul_left h5
              rw [Nat.mul_comm (v + 1)]
              exact Nat.mul_le_mul_left _ this
            have q2 : (b - 128) * 128 ^ i ≤ 127 * 128 ^ i := Nat.mul_le_mul_right _ (by omega)
            rw [Nat.add_mul] at q1
            omega
        · rw [if_neg h3] at h
          by_cases h4 : b = 0 ∧ 0 < i
          · rw [if_pos h4] at h; simp at h
          · rw [if_neg h4] at h
            simp only [Prod.mk.injEq] at h
            obtain ⟨rfl, rfl, _⟩ := h
            refine ⟨b, t, by rw [enc_lt (by omega)]; rfl, rfl, by rw [enc_lt (by omega)]; rfl, by omega, ?_⟩
            by_cases h9 : i = 9
            · subst h9; rw [pow9]; omega
            · have : 128 ^ i * 128 ^ (9 - i) = 9223372036854775808 := by rw [← Nat.pow_add, ← pow9]; congr 1; omega
              have e9 : 128 ≤ 128 ^ (9 - i) := by
                have : 128 ^ 1 ≤ 128 ^ (9 - i) := Nat.pow_le_pow_right (by decide) (by omega)
                omega
              have q := Nat.mul_le_mul_left (128 ^ i) e9
              have q2 : b * 128 ^ i ≤ 127 * 128 ^ i := Nat.mul_le_mul_right _ (by omega)
              omega

/-- The number that bytes with more behind them make. -/
def dl : List Nat → Nat
  | [] => 0
  | b :: t => (b - 128) + 128 * dl t

theorem dl_lt (p : List Nat) (hp : ∀ b ∈ p, 128 ≤ b ∧ b < 256) : dl p < 128 ^ p.length := by
  induction p with
  | nil => simp [dl]
  | cons b t ih =>
    have h1 := ih (fun x hx => hp x (List.mem_cons_of_mem _ hx))
    have h2 := hp b List.mem_cons_self
    simp only [dl, List.length_cons, Nat.pow_succ]
    omega

theorem dl_snoc (p : List Nat) (b : Nat) : dl (p ++ [b]) = dl p + (b - 128) * 128 ^ p.length := by
  induction p with
  | nil => simp [dl]
  | cons c t ih =>
    simp only [List.cons_append, dl, ih, List.length_cons, Nat.pow_succ]
    have : (b - 128) * (128 ^ t.length * 128) = 128 * ((b - 128) * 128 ^ t.length) := by
      simp only [Nat.mul_assoc, Nat.mul_comm, Nat.mul_left_comm]
    rw [this]; omega

theorem enc_dl (p : List Nat) (b : Nat) (hp : ∀ b ∈ p, 128 ≤ b ∧ b < 256) (hb : b < 128) (h : 0 < b ∨ p = []) : enc (dl p + b * 128 ^ p.length) = p ++ [b] := by
  induction p with
  | nil => simp [dl, enc_lt hb]
  | cons c t ih =>
    have hc := hp c List.mem_cons_self
    have hb0 : 0 < b := by rcases h with h | h; · exact h
                           · cases h
    have h1 := ih (fun x hx => hp x (List.mem_cons_of_mem _ hx)) (.inl hb0)
    have e : dl (c :: t) + b * 128 ^ (c :: t).length = (c - 128) + 128 * (dl t + b * 128 ^ t.length) := by
      simp only [dl, List.length_cons, Nat.pow_succ]
      have : b * (128 ^ t.length * 128) = 128 * (b * 128 ^ t.length) := by simp only [Nat.mul_assoc, Nat.mul_comm, Nat.mul_left_comm]
      rw [this]; omega
    rw [e]
    have hbig : 0 < dl t + b * 128 ^ t.length := by
      have := Nat.mul_pos hb0 (pow_pos' t.length); omega
    rw [enc_ge (by omega)]
    have e1 : 128 + (c - 128 + 128 * (dl t + b * 128 ^ t.length)) % 128 = c := by omega
    have e2 : (c - 128 + 128 * (dl t + b * 128 ^ t.length)) / 128 = dl t + b * 128 ^ t.length := by omega
    rw [e1, e2, h1]; rfl

theorem enc_not_zero (u : Nat) : ∀ p, p ≠ [] → enc u ≠ p ++ [0] := by
  induction u using Nat.strongRecOn with
  | ind u ih =>
    intro p hp h
    by_cases hu : u < 128
    · rw [enc_lt hu] at h
      have := congrArg List.length h
      simp at this
      exact hp this
    · rw [enc_ge hu] at h
      cases p with
      | nil => exact hp rfl
      | cons c t =>
        simp only [List.cons_append, List.cons.injEq] at h
        by_cases ht : t = []
        · subst ht
          have h2 := h.2
          by_cases hv : u / 128 < 128
          · rw [enc_lt hv] at h2; simp at h2; omega
          · rw [enc_ge hv] at h2
            have := congrArg List.length h2
            have := enc_pos (u / 128 / 128)
            simp at *
        · exact ih (u / 128) (by omega) t ht h.2

/-! ### numbers of the machine -/
theorem u64_in {n : Int} (h0 : 0 ≤ n) (h1 : n < 18446744073709551616) : IntKind.u64.wrap n = n := by
  simp only [IntKind.wrap, IntKind.bits, IntKind.signed, Bool.false_and]
  simp
  omega
theorem i64_in {n : Int} (h0 : -9223372036854775808 ≤ n) (h1 : n < 9223372036854775808) : IntKind.i64.wrap n = n := by
  rw [IntKind.wrap_i64]; omega
theorem w64 {n : Int} (h0 : -9223372036854775808 ≤ n) (h1 : n < 9223372036854775808) : wrap64 n = n := by
  unfold wrap64; omega

theorem andNot128 : ∀ b : Nat, b < 256 → bits .andNot .u8 (b : Int) 128 = ((b % 128 : Nat) : Int) := by decide +kernel
theorem or128 : ∀ b : Nat, b < 256 → bits .or .u8 (b : Int) 128 = ((128 + b % 128 : Nat) : Int) := by decide +kernel
theorem or_comm (k : IntKind) (x y : Int) : bits .or k x y = bits .or k y x := by
  simp only [bits, BitVec.or_comm]
theorem or_low (x i b : Nat) (hx : x < 2 ^ i) (hi : i ≤ 63) (hb : b * 2 ^ i < 2 ^ 64) : bits .or .u64 (x : Int) ((b * 2 ^ i : Nat) : Int) = ((x + b * 2 ^ i : Nat) : Int) := by
  have hxi : (2 : Nat) ^ i ≤ 2 ^ 63 := Nat.pow_le_pow_right (by decide) hi
  rw [or_comm, bits_join .u64 64 (by decide) (fun n h0 h1 => u64_in h0 (by simpa using h1)) i]
  · push_cast; omega
  · exact Int.natCast_nonneg _
  · push_cast; exact Int.mul_emod_left _ _
  · exact_mod_cast hb
  · omega
  · exact_mod_cast hx
  · have : x < 2 ^ 64 := by
      have : (2 : Nat) ^ 63 < 2 ^ 64 := by decide
      omega
    exact_mod_cast this


/-! ### signs lowest -/
def zig (n : Int) : Nat := if n < 0 then (-(2 * n) - 1).toNat else (2 * n).toNat
theorem zig_lt {n : Int} (h0 : -9223372036854775808 ≤ n) (h1 : n < 9223372036854775808) : zig n < 18446744073709551616 := by
  unfold zig; split <;> omega
theorem xor_zero_u64 (x : Nat) (h1 : x < 18446744073709551616) : bits .xor .u64 (x : Int) 0 = (x : Int) := by
  show IntKind.u64.wrap (((BitVec.ofInt 64 (x : Int) ^^^ BitVec.ofInt 64 0).toNat : Nat) : Int) = _
  rw [show BitVec.ofInt 64 0 = 0#64 by decide, BitVec.xor_zero, BitVec.ofInt_natCast, BitVec.toNat_ofNat, Nat.mod_eq_of_lt (by omega), u64_in (by omega) (by omega)]
theorem xor_zero_i64 (x : Nat) (h1 : x < 9223372036854775808) : bits .xor .i64 (x : Int) 0 = (x : Int) := by
  show IntKind.i64.wrap (((BitVec.ofInt 64 (x : Int) ^^^ BitVec.ofInt 64 0).toNat : Nat) : Int) = _
  rw [show BitVec.ofInt 64 0 = 0#64 by decide, BitVec.xor_zero, BitVec.ofInt_natCast, BitVec.toNat_ofNat, Nat.mod_eq_of_lt (by omega), i64_in (by omega) (by omega)]
theorem xor_ones64 (x : Nat) (h1 : x < 18446744073709551616) : bits .xor .u64 (x : Int) 18446744073709551615 = ((18446744073709551615 - x : Nat) : Int) := by
  show IntKind.u64.wrap (((BitVec.ofInt 64 (x : Int) ^^^ BitVec.ofInt 64 18446744073709551615).toNat : Nat) : Int) = _
  rw [show BitVec.ofInt 64 18446744073709551615 = BitVec.allOnes 64 by decide, BitVec.xor_allOnes, BitVec.ofInt_natCast, BitVec.toNat_not, BitVec.toNat_ofNat, Nat.mod_eq_of_lt (by omega)]
  rw [u64_in (by omega) (by omega)]
theorem xor_ones_i64 (x : Nat) (h1 : x < 9223372036854775808) : bits .xor .i64 (x : Int) (-1) = -(x : Int) - 1 := by
  show IntKind.i64.wrap (((BitVec.ofInt 64 (x : Int) ^^^ BitVec.ofInt 64 (-1)).toNat : Nat) : Int) = _
  rw [show BitVec.ofInt 64 (-1) = BitVec.allOnes 64 by decide, BitVec.xor_allOnes, BitVec.ofInt_natCast, BitVec.toNat_not, BitVec.toNat_ofNat, Nat.mod_eq_of_lt (by omega)]
  rw [IntKind.wrap_i64]
  omega
theorem zig_go {n : Int} (h0 : -9223372036854775808 ≤ n) (h1 : n < 9223372036854775808) :
    bits .xor .u64 (IntKind.u64.wrap (wrap64 (n * 2))) (IntKind.u64.wrap (n / 9223372036854775808)) = (zig n : Int) := by
  unfold zig
  by_cases hn : n < 0
  · rw [if_pos hn]
    have e : n / 9223372036854775808 = -1 := by omega
    rw [e, show IntKind.u64.wrap (-1) = 18446744073709551615 by decide]
    obtain ⟨m, hm⟩ : ∃ m : Nat, IntKind.u64.wrap (wrap64 (n * 2)) = (m : Int) ∧ (m : Int) = 18446744073709551616 + 2 * n := by
      refine ⟨(18446744073709551616 + 2 * n).toNat, ?_, by omega⟩
      simp only [IntKind.wrap, IntKind.bits, IntKind.signed, Bool.false_and]
      unfold wrap64
      simp
      omega
    rw [hm.1, xor_ones64 m (by omega)]
    omega
  · rw [if_neg hn]
    have e : n / 9223372036854775808 = 0 := by omega
    rw [e, show IntKind.u64.wrap 0 = 0 by decide]
    have e2 : IntKind.u64.wrap (wrap64 (n * 2)) = 2 * n := by
      simp only [IntKind.wrap, IntKind.bits, IntKind.signed, Bool.false_and]
      unfold wrap64
      simp
      omega
    obtain ⟨m, hm⟩ : ∃ m : Nat, 2 * n = (m : Int) := ⟨(2 * n).toNat, by omega⟩
    rw [e2, hm, xor_zero_u64 m (by omega)]
    omega
theorem zig_ref {n : Int} (h0 : -9223372036854775808 ≤ n) (h1 : n < 9223372036854775808) :
    (if n < 0 then (some (IntKind.u64.wrap ((IntKind.u64.wrap (2 * (IntKind.u64.wrap (wrap64 (-(wrap64 (n + 1))))))) + 1))) else (some (IntKind.u64.wrap (2 * (IntKind.u64.wrap n))))) = some (zig n : Int) := by
  unfold zig
  by_cases hn : n < 0
  · rw [if_pos hn, if_pos hn]
    rw [w64 (n := n + 1) (by omega) (by omega), w64 (n := -(n + 1)) (by omega) (by omega), u64_in (n := -(n + 1)) (by omega) (by omega), u64_in (n := 2 * -(n + 1)) (by omega) (by omega), u64_in (by omega) (by omega)]
    congr 1; omega
  · rw [if_neg hn, if_neg hn, u64_in (n := n) (by omega) (by omega), u64_in (by omega) (by omega)]
    congr 1; omega
theorem and_one (u : Nat) (h : u < 18446744073709551616) : bits .and .u64 (u : Int) 1 = ((u % 2 : Nat) : Int) := by
  have := bits_mask .u64 64 (by decide) (fun n h0 h1 => u64_in h0 (by simpa using h1)) 1 (by decide) (u : Int) (by omega) (by show (u : Int) < 2 ^ 64; omega)
  simpa using this
theorem zag_zig {n : Int} (h0 : -9223372036854775808 ≤ n) (h1 : n < 9223372036854775808) :
    bits .xor .i64 (wrap64 ((zig n : Int) / 2)) (wrap64 (-(wrap64 (bits .and .u64 (zig n : Int) 1)))) = n := by
  rw [and_one _ (zig_lt h0 h1)]
  unfold zig
  by_cases hn : n < 0
  · rw [if_pos hn]
    obtain ⟨m, hm⟩ : ∃ m : Nat, (m : Int) = -n - 1 := ⟨(-n - 1).toNat, by omega⟩
    have e1 : (((-(2 * n) - 1).toNat : Nat) : Int) / 2 = m := by omega
    have e2 : (-(2 * n) - 1).toNat % 2 = 1 := by omega
    rw [e1, e2, w64 (by omega) (by omega), show wrap64 (-(wrap64 ((1 : Nat) : Int))) = -1 by simp [wrap64], xor_ones_i64 m (by omega)]
    omega
  · rw [if_neg hn]
    have e1 : (((2 * n).toNat : Nat) : Int) / 2 = n := by omega
    have e2 : (2 * n).toNat % 2 = 0 := by omega
    obtain ⟨m, hm⟩ : ∃ m : Nat, n = (m : Int) := ⟨n.toNat, by omega⟩
    rw [e1, e2, w64 (by omega) (by omega), show wrap64 (-(wrap64 ((0 : Nat) : Int))) = 0 by simp [wrap64], hm, xor_zero_i64 m (by omega)]

/-! ### texts as bytes -/
def bs (s : ByteArray) : List Nat := s.data.toList.map UInt8.toNat
theorem bs_length (s : ByteArray) : (bs s).length = s.size := by
  show (s.data.toList.map UInt8.toNat).length = _
  rw [List.length_map]; exact data_length s
theorem bs_lt (s : ByteArray) : ∀ b ∈ bs s, b < 256 := by
  intro b hb
  obtain ⟨x, _, rfl⟩ := List.mem_map.1 hb
  exact x.toNat_lt
theorem bs_bt (s : ByteArray) (i : Nat) (h : i < s.size) : bt s (i : Int) = (((bs s)[i]'(by rw [bs_length]; exact h) : Nat) : Int) := by
  unfold bt
  rw [dif_pos (by simpa using h)]
  simp only [bs, List.getElem_map]
  rfl
theorem bs_inj {s t : ByteArray} (h : bs s = bs t) : s.toList = t.toList := by
  rw [ByteArray.toList_eq, ByteArray.toList_eq]
  have inj : Function.Injective UInt8.toNat := fun a b hab => UInt8.toNat_inj.1 hab
  exact (List.map_inj_right (fun a b hab => inj hab)).1 h
theorem toList_bs {s t : ByteArray} (h : s.toList = t.toList) : bs s = bs t := by
  rw [ByteArray.toList_eq, ByteArray.toList_eq] at h
  unfold bs; rw [h]
theorem bs_eq {s t : ByteArray} (h : bs s = bs t) : s = t := by
  have := bs_inj h
  rw [ByteArray.toList_eq, ByteArray.toList_eq] at this
  cases s; cases t; congr; exact Array.toList_inj.1 this
theorem bs_append (s t : ByteArray) : bs (s ++ t) = bs s ++ bs t := by
  unfold bs; simp [ByteArray.data_append]
theorem bs_extract (s : ByteArray) (a b : Nat) : bs (s.extract a b) = ((bs s).drop a).take (b - a) := by
  unfold bs; rw [Lib.extract_data, List.map_take, List.map_drop]
theorem bs_nums (l : List Nat) (h : ∀ b ∈ l, b < 256) : bs (strOfNums (l.map fun b : Nat => (b : Int))) = l := by
  unfold bs
  rw [strOfNums_data, List.map_map, List.map_map]
  conv => rhs; rw [← List.map_id l]
  apply List.map_congr_left
  intro b hb
  have := h b hb
  simp [UInt8.toNat_ofNat', Nat.mod_eq_of_lt this]

/-! ### one place on -/
theorem wrapS (i : Nat) (h : i ≤ 1000000000000000) : wrap64 ((i : Int) + 1) = ((i + 1 : Nat) : Int) := by rw [w64 (by omega) (by omega)]; omega
theorem wrap7 (i : Nat) (h : i ≤ 10) : wrap64 (7 * (i : Int)) = ((7 * i : Nat) : Int) := by rw [w64 (by omega) (by omega)]; omega
theorem u64_nat (n : Nat) (h : n < 18446744073709551616) : IntKind.u64.wrap (n : Int) = (n : Int) := u64_in (Int.natCast_nonneg _) (by omega)
theorem pow7 (i : Nat) : (128 : Nat) ^ i = 2 ^ (7 * i) := by rw [Nat.pow_mul]
theorem place_lt (b i : Nat) (hi : i ≤ 9) (hb : b < 256) (h9 : ¬ (i = 9 ∧ 1 < b)) : b % 128 * 128 ^ i < 18446744073709551616 := by
  by_cases h99 : i = 9
  · subst h99
    have : b % 128 ≤ 1 := by omega
    have := Nat.mul_le_mul_right (128 ^ 9) this
    rw [pow9] at this ⊢; omega
  · have h1 : (128 : Nat) ^ i ≤ 128 ^ 8 := Nat.pow_le_pow_right (by decide) (by omega)
    have h2 : b % 128 * 128 ^ i ≤ 127 * 128 ^ 8 := Nat.mul_le_mul (by omega) h1
    have h3 : 127 * 128 ^ 8 < 18446744073709551616 := by decide
    omega
theorem sum_lt (u b i : Nat) (hi : i ≤ 9) (hb : b < 256) (hu : u < 128 ^ i) (h9 : ¬ (i = 9 ∧ 1 < b)) : u + b % 128 * 128 ^ i < 18446744073709551616 := by
  by_cases h99 : i = 9
  · subst h99
    have : b % 128 ≤ 1 := by omega
    have := Nat.mul_le_mul_right (128 ^ 9) this
    rw [pow9] at this hu ⊢; omega
  · have h1 : (128 : Nat) ^ (i + 1) ≤ 128 ^ 9 := Nat.pow_le_pow_right (by decide) (by omega)
    have h2 : b % 128 * 128 ^ i ≤ 127 * 128 ^ i := Nat.mul_le_mul_right _ (by omega)
    rw [Nat.pow_succ, pow9] at h1
    omega
theorem next_lt (u b i : Nat) (hb : b < 256) (hu : u < 128 ^ i) : u + (b - 128) * 128 ^ i < 128 ^ (i + 1) := by
  rw [Nat.pow_succ]
  have := Nat.mul_le_mul_right (128 ^ i) (show b - 128 ≤ 127 by omega)
  omega
/-- A byte joined at its place. -/
theorem join (u b i : Nat) (hi : i ≤ 9) (hb : b < 256) (hu : u < 128 ^ i) (h9 : ¬ (i = 9 ∧ 1 < b)) :
    bits .or .u64 (u : Int) (shl .u64 (IntKind.u64.wrap (bits .andNot .u8 (b : Int) 128)) (IntKind.u64.wrap (wrap64 (7 * (i : Int))))) = ((u + b % 128 * 128 ^ i : Nat) : Int) := by
  have hp := place_lt b i hi hb h9
  rw [andNot128 b hb, wrap7 i (by omega), u64_nat (7 * i) (by omega), u64_nat (b % 128) (by omega)]
  have e : min (((7 * i : Nat) : Int).toNat) IntKind.u64.bits = 7 * i := by show min (((7 * i : Nat) : Int).toNat) 64 = 7 * i; omega
  have e2 : ((b % 128 : Nat) : Int) * 2 ^ (7 * i) = ((b % 128 * 128 ^ i : Nat) : Int) := by rw [pow7 i]; push_cast; rfl
  unfold shl
  rw [e, e2, u64_nat _ hp, pow7 i]
  rw [pow7 i] at hp hu
  exact or_low u (7 * i) (b % 128) hu (by omega) hp
end Go.Proofs.Ytndlcfdlhliljaa.VMath
