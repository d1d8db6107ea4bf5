/- What the byte sort does as a whole, and what the statements of layer 4 call besides. Conditions: keys of 64 bits, fewer than 2^36 of them. -/
import Derived.Test.YtndlcfdlhliljaaRadix2
import Derived.Test.YtndlcfdlhliljaaShelf
import Derived.Laws.BitsLemmas
namespace Go.Proofs.Ytndlcfdlhliljaa.Rx
open Go.RowKit Go.Proofs.Ytndlcfdlhliljaa.Mem Go.Proofs.Ytndlcfdlhliljaa.Sl Go.Proofs.Ytndlcfdlhliljaa.RMath
set_option linter.unusedVariables false
set_option linter.unusedSimpArgs false

theorem bl_le (j : Nat) : ∀ f u, u < 2 ^ j → Lib.bitLenAux f u ≤ j := by
  induction j with
  | zero =>
    intro f u h
    have : u = 0 := by simpa using h
    subst this
    cases f <;> simp [Lib.bitLenAux]
  | succ j ih =>
    intro f u h
    cases f with
    | zero => simp [Lib.bitLenAux]
    | succ f =>
      simp only [Lib.bitLenAux]
      split
      · omega
      · have := ih f (u / 2) (by rw [Nat.pow_succ] at h; omega)
        omega
theorem bitLen_le (u : Nat) (h : u ≤ 18446744073709551615) : Lib.bitLen u ≤ 64 := bl_le 64 64 u (by omega)

theorem log_any (u : Int) (w : World) (h0 : 0 ≤ u) (h1 : u ≤ 18446744073709551615) :
    Calls Try.prog 56 #[.int .u64 u] w fun e w' => e = .returned (.int .i64 ((Lib.bitLen u.toNat : Int) - 1)) ∧ w' = w := by
  have hL := Try.bits_Len64 u w h0 h1
  have hb := bitLen_le u.toNat (by omega)
  obtain ⟨n, hn⟩ : ∃ n, Lib.bitLen u.toNat = n := ⟨_, rfl⟩
  rw [hn] at hL hb ⊢
  clear hn
  go_enter Try.func56, Try.ntmps56
  go_wp2_with (go_at_call 68; refine hL.mono ?_; rintro e w' ⟨rfl, rfl⟩)
  go_ret
  exact ⟨rfl, rfl⟩

/-- All keys' bits together. -/
def orA (l : List Int) : Int := l.foldl (fun a y => bits .or .u64 a y) 0
theorem orA_snoc (l : List Int) (y : Int) : orA (l ++ [y]) = bits .or .u64 (orA l) y := by simp [orA]
theorem bits_u64 (op : BinOp) (x y : Int) : 0 ≤ bits op .u64 x y ∧ bits op .u64 x y ≤ 18446744073709551615 := by
  unfold bits
  simp only [IntKind.wrap, IntKind.bits, IntKind.signed, Bool.false_and]
  simp
  omega
theorem orA_rng (l : List Int) : 0 ≤ orA l ∧ orA l ≤ 18446744073709551615 := by
  rcases List.eq_nil_or_concat l with rfl | ⟨l', y, rfl⟩
  · simp [orA]
  · rw [List.concat_eq_append, orA_snoc]; exact bits_u64 ..

/-- The first k places told, of n. -/
def iotaL (n k : Nat) : List Int := (List.range n).map fun i => if i < k then (i : Int) else 0
theorem iotaL_len (n k : Nat) : (iotaL n k).length = n := by simp [iotaL]
theorem iotaL_zero (n : Nat) : iotaL n 0 = List.replicate n 0 := by
  apply List.ext_getElem
  · rw [iotaL_len, List.length_replicate]
  · intro i h1 h2
    rw [List.getElem_replicate]
    simp only [iotaL, List.getElem_map]
    rw [if_neg (Nat.not_lt_zero _)]
theorem iotaL_set (n k : Nat) (hk : k < n) : iotaL n (k + 1) = (iotaL n k).set k (k : Int) := by
  apply List.ext_getElem
  · rw [List.length_set, iotaL_len, iotaL_len]
  · intro i h1 h2
    rw [List.getElem_set]
    by_cases h : k = i
    · subst h; simp [iotaL]
    · rw [if_neg h]
      simp only [iotaL, List.getElem_map, List.getElem_range]
      by_cases h3 : i < k
      · rw [if_pos h3, if_pos (by omega)]
      · rw [if_neg h3, if_neg (by omega)]

/-- The places behind p passes; in the end. -/
def passes (ys : List Int) : Nat → List Int
  | 0 => iotaL ys.length ys.length
  | p + 1 => passL (byteOf ys (8 * p)) (passes ys p)
def orderL (ys : List Int) : List Int := passes ys ((Lib.bitLen (orA ys).toNat + 7) / 8)
theorem passL_mem (f : Int → Nat) (l : List Int) (x : Int) (h : x ∈ passL f l) : x ∈ l := by
  unfold passL passN bkt at h
  obtain ⟨b, _, hb⟩ := List.mem_flatMap.1 h
  exact (List.mem_filter.1 hb).1
theorem passes_mem (ys : List Int) (p : Nat) : ∀ x ∈ passes ys p, 0 ≤ x ∧ x < ys.length := by
  induction p with
  | zero =>
    intro x hx
    unfold passes iotaL at hx
    obtain ⟨i, hi, rfl⟩ := List.mem_map.1 hx
    rw [List.mem_range] at hi
    rw [if_pos hi]; omega
  | succ p ih => intro x hx; exact ih x (passL_mem _ _ x hx)
theorem passes_len (ys : List Int) (p : Nat) : (passes ys p).length = ys.length := by
  induction p with
  | zero => exact iotaL_len _ _
  | succ p ih =>
    show (passL _ (passes ys p)).length = _
    rw [passL_len _ _ (fun x _ => byteOf_lt ..), ih]

set_option maxRecDepth 100000 in
set_option maxHeartbeats 1000000 in
theorem order_any (w : World) (v : Value) (ys : List Int) (h : Rd (ei .u64) 1 w v ys) (hy : ∀ y ∈ ys, 0 ≤ y ∧ y ≤ 18446744073709551615) (hm : ys.length ≤ 1000000000) :
    Calls Try.prog 70 #[v] w fun e w' => ∃ v', e = .returned v' ∧ Own (ei .i64) 1 3 w' w.heap.size v' (orderL ys) ∧ Below w.heap.size w w' := by
  obtain ⟨A, c, rfl⟩ := h.slice
  have hl := h.at_.2.2.1
  have hb8 : 8 * ys.length ≤ 281474976710656 := by omega
  go_enter Try.func70, Try.ntmps70
  go_wp2_with (at_make; refine wpList_mk1 (Value.int .i64) 0 rfl _ _ 51 rfl w.heap.size 3 8 Try.underlying51 infoI rfl ys.length rfl rfl hb8 hl (Nat.le_refl _) ?_; intro w1 hO hB1)
  clear hb8
  go_loopw [3, 13] (fun av i wr => ∃ k : Nat, k ≤ ys.length ∧ i = .int .i64 k ∧ av = .int .u64 (orA (ys.take k)) ∧ Own (ei .i64) 1 3 wr w.heap.size (.slice (some ⟨w.heap.size, 0, none⟩) ys.length ys.length) (iotaL ys.length k) ∧ Below w.heap.size w wr) (fun _ i _ => ys.length - (intOf i).toNat)
  case atStart => exact ⟨0, Nat.zero_le _, rfl, rfl, by rw [iotaL_zero]; exact hO, hB1⟩
  case round =>
    clear hO hB1
    obtain ⟨k, hk, rfl, rfl, hO, hB⟩ := hrel
    by_cases h1 : k < ys.length
    · obtain ⟨b, off, rfl, hbl, hc0⟩ := h.int k h1
      have hc := (hB.cell (p := ⟨b, off + k, none⟩) hbl).trans hc0
      clear hc0
      obtain ⟨gg, cap, hge, _, hgl, _, hgf, hgc⟩ := hO.row (by rw [iotaL_len]; omega)
      injection hge with he1 he2 he3
      injection he1 with he1
      injection he1 with he1 _ _
      subst he1
      have hgcp := hgc k _ (nth_get 0 _ k (by rw [iotaL_len]; exact h1)) 0 _ rfl
      rw [Nat.mul_one, Nat.add_zero] at hgcp
      have hgfp := hgf k
      have hO1 := Own.set (Value.int .i64) hO k (k : Int)
      have hor := Sec.mk (orA_snoc (ys.take k) (nth 0 ys k))
      rw [← take_nth 0 ys k h1] at hor
      have his := Sec.mk (iotaL_set ys.length k h1)
      clear hgf hgc he2 he3 hO
      have hne : b < w.heap.size := hbl
      go_wp2
      go_roundw
      case rel => exact ⟨k + 1, by omega, by go_num, by rw [hor.out], by rw [his.out]; exact hO1, hB.setCell (Nat.le_refl _) _⟩
      case measure => simp [intOf]; omega
    · obtain rfl : k = ys.length := by omega
      rw [List.take_length] at *
      have hrng := orA_rng ys
      have hbl := bitLen_le (orA ys).toNat (by omega)
      obtain ⟨a, ha⟩ : ∃ a, orA ys = a := ⟨_, rfl⟩
      rw [ha] at hrng hbl ⊢
      obtain ⟨L, hL⟩ : ∃ L, Lib.bitLen a.toNat = L := ⟨_, rfl⟩
      have hLog : ∀ W, Calls Try.prog 56 #[.int .u64 a] W fun e w' => e = .returned (.int .i64 ((L : Int) - 1)) ∧ w' = W := fun W => by
        rw [← hL]; exact log_any a W hrng.1 hrng.2
      have hfin := Sec.mk (show orderL ys = passes ys ((L + 7) / 8) by unfold orderL; rw [ha, hL])
      rw [hL] at hbl
      clear ha hL
      obtain ⟨wo, rfl⟩ : ∃ wo : World, wo = wr := ⟨_, rfl⟩
      go_wp2
      go_loopw [4, 7] (fun v sv w2 => ∃ (p : Nat) (vv : Value), vv = v ∧ 8 * p < L + 8 ∧ sv = .int .i64 ((8 * p : Nat) : Int) ∧ Own (ei .i64) 1 3 w2 w.heap.size v (passes ys p) ∧ Below w.heap.size w w2) (fun _ sv _ => 100 - (intOf sv).toNat)
      case atStart => exact ⟨0, _, rfl, by omega, rfl, hO, hB⟩
      case round =>
        clear hO hB
        obtain ⟨p, vv, rfl, hp, rfl, hO, hB⟩ := hrel
        obtain ⟨s, hs⟩ : ∃ s, 8 * p = s := ⟨_, rfl⟩
        have hpm := passes_mem ys p
        have hpl := passes_len ys p
        rw [hs] at hp ⊢
        have HS := Sec.mk hs
        clear hs
        by_cases h2 : s < L
        · have hR := hO.rd
          have hpass := pass_any _ vv _ (passes ys p) ys s (by omega) hR (h.below hB) hpm (fun y hy' => (hy y hy').1) (by omega)
          clear hpm hpl hR
          go_wp2_with (first
            | (go_at_call 56; refine (hLog _).mono ?_; rintro e w' ⟨rfl, rfl⟩)
            | (go_at_call 74; refine hpass.mono ?_; rintro e w3 ⟨v3, rfl, hO3, hB3⟩))
          go_roundw
          case rel =>
            have hs := HS.out
            refine ⟨p + 1, _, rfl, by omega, by go_num, ?_, hB.trans (hB3.mono hB.size)⟩
            rw [← hs] at hO3
            exact hO3.lower hB.size
          case measure => simp [intOf]; omega
        · have hs := HS.out
          obtain rfl : p = (L + 7) / 8 := by omega
          rw [← hfin.out] at hO
          clear hs
          go_wp2_with (go_at_call 56; refine (hLog _).mono ?_; rintro e w' ⟨rfl, rfl⟩)
          go_ret
          exact ⟨_, rfl, hO, hB⟩
end Go.Proofs.Ytndlcfdlhliljaa.Rx
