/- What the functions on pairs do: copies, keys, orders. Conditions: lists of at most some thousand pairs. -/
import Derived.Test.YtndlcfdlhliljaaRIns
import Derived.Test.YtndlcfdlhliljaaRadixSums
namespace Go.Proofs.Ytndlcfdlhliljaa.Rx
open Go.RowKit Go.Proofs.Ytndlcfdlhliljaa.Mem Go.Proofs.Ytndlcfdlhliljaa.Sl Go.Proofs.Ytndlcfdlhliljaa.RMath
set_option linter.unusedVariables false
set_option linter.unusedSimpArgs false

/-- A pair's cells. -/
def ep (p : Int × Int) : List Value := [.int .u32 p.1, .int .u32 p.2]
theorem ep_len (p : Int × Int) : (ep p).length = 2 := rfl
theorem ep_one (p : Int × Int) : ∀ u ∈ ep p, u.oneCell' = true := by intro u hu; simp [ep] at hu; rcases hu with rfl | rfl <;> rfl
theorem infoP : (Try.prog.info? 87).map (fun i => (i.zero, i.size, i.bytes)) = some (some (.agg #[.int .u32 0, .int .u32 0]), 2, 8) := by kernel_rfl
abbrev nthP (l : List (Int × Int)) (i : Nat) : Int × Int := nth (0, 0) l i
theorem rd_pair {w : World} {A : Option Addr} {n c : Nat} {l : List (Int × Int)} (h : Rd ep 2 w (.slice A n c) l) (i : Nat) (hi : i < n) :
    ∃ b off, A = some ⟨b, off, none⟩ ∧ b < w.heap.size ∧ w.cell? ⟨b, off + i * 2, none⟩ = some (.int .u32 (nthP l i).1) ∧ w.cell? ⟨b, off + i * 2 + 1, none⟩ = some (.int .u32 (nthP l i).2) := by
  obtain ⟨h1, _, _, h4⟩ := h.at_
  obtain ⟨b, off, e, hlt, hc⟩ := h4 (by omega)
  have h0 := hc i _ (nth_get (0, 0) l i (by omega)) 0 _ rfl
  have h1 := hc i _ (nth_get (0, 0) l i (by omega)) 1 _ rfl
  exact ⟨b, off, e, hlt, by simpa using h0, h1⟩

theorem pairs_any (w : World) (v : Value) (l : List (Int × Int)) (m : Nat) (h : Rd ep 2 w v l) (hm : m ≤ 1000) :
    Calls Try.prog 38 #[v, .int .i64 (m : Int)] w fun e w' => ∃ v', e = .returned v' ∧ Own ep 2 87 w' w.heap.size v' (l.take m) ∧ Below w.heap.size w w' := by
  obtain ⟨A, c, rfl⟩ := h.slice
  have hl := h.at_.2.2.1
  go_enter Try.func38, Try.ntmps38
  go_wp2
  go_loopw [5, 6] (fun v i wr => ∃ k : Nat, k ≤ l.length ∧ k ≤ m ∧ i = .int .i64 k ∧ Own ep 2 87 wr w.heap.size v (l.take k) ∧ Below w.heap.size w wr)
    (fun _ i _ => l.length - (intOf i).toNat)
  case atStart => exact ⟨0, Nat.zero_le _, Nat.zero_le _, rfl, Own.lit _ _ _ _ _ _ ep_len rfl rfl (Nat.le_refl _) (by omega), (Below.refl _ _).alloc (Nat.le_refl _) _⟩
  case round =>
    obtain ⟨k, hk1, hk2, rfl, hO, hB⟩ := hrel
    by_cases h1 : k < l.length
    · by_cases h2 : k < m
      · obtain ⟨b, off, rfl, hbl, hc0, hd0⟩ := rd_pair h k h1
        have hc := (hB.cell (p := ⟨b, off + k * 2, none⟩) hbl).trans hc0
        have hd := (hB.cell (p := ⟨b, off + k * 2 + 1, none⟩) hbl).trans hd0
        clear hc0 hd0
        have htl : (l.take k).length = k := by rw [List.length_take]; omega
        go_wp2_with (at_builtin; refine wpList_push rfl _ _ 59 rfl w.heap.size 87 _ 8 Try.underlying59 infoP rfl (by decide) rfl hO (nthP l k) _ _ rfl rfl (ep_one _) (by rw [htl]; omega) (by decide) hB.size ?_; intro v' w1 hO1 hC1 hat)
        go_roundw
        case rel =>
          refine ⟨k + 1, by omega, by omega, by go_num, ?_, ?_⟩
          · rw [take_nth (0, 0) l k h1]; exact hO1
          · exact ((Chg.of_below hB (fun b => w.heap.size ≤ b)).trans hC1 (fun b hb => .inr (hO.lt b hb.symm).1)).below (fun _ h => h)
        case measure => simp [intOf]; omega
      · obtain rfl : k = m := by omega
        go_wp2
        go_ret
        exact ⟨_, rfl, hO, hB⟩
    · obtain rfl : k = l.length := by omega
      go_wp2
      go_ret
      refine ⟨_, rfl, ?_, hB⟩
      rw [List.take_of_length_le (by omega)] at hO ⊢
      exact hO

/-- A pair as a number. -/
def keyP (p : Int × Int) : Int := p.1 * 4294967296 + p.2
def In32 (p : Int × Int) : Prop := 0 ≤ p.1 ∧ p.1 < 4294967296 ∧ 0 ≤ p.2 ∧ p.2 < 4294967296
theorem keyP_rng {p : Int × Int} (h : In32 p) : 0 ≤ keyP p ∧ keyP p ≤ 18446744073709551615 := by unfold keyP In32 at *; omega
theorem w32 {a : Int} (h0 : 0 ≤ a) (h1 : a < 4294967296) : IntKind.u64.wrap a = a := IntWalk.u64_in a ⟨h0, by omega⟩
theorem or32 {a b : Int} (h0 : 0 ≤ a) (h1 : a < 4294967296) (h2 : 0 ≤ b) (h3 : b < 4294967296) : bits .or .u64 (a * 4294967296) b = a * 4294967296 + b :=
  bits_join .u64 64 (by decide) (fun n h0 h1 => IntWalk.u64_in n ⟨h0, Int.le_of_lt_add_one (by simpa using h1)⟩) 32 _ _ (by omega) (by show a * 4294967296 % 4294967296 = 0; omega) (by show a * 4294967296 < 18446744073709551616; omega) h2 h3 (by show b < 18446744073709551616; omega)
theorem pack_any (p : Int × Int) (hp : In32 p) (w : World) : Calls Try.prog 71 #[.int .u32 p.1, .int .u32 p.2] w fun e w' => e = .returned (.int .u64 (keyP p)) ∧ w' = w := by
  obtain ⟨a, b⟩ := p
  obtain ⟨h0, h1, h2, h3⟩ := hp
  have e1 := w32 h0 h1
  have e2 := w32 h2 h3
  have e3 := or32 h0 h1 h2 h3
  go_enter Try.func71, Try.ntmps71
  go_wp2
  go_ret
  exact ⟨rfl, rfl⟩
theorem key_any (p : Int × Int) (hp : In32 p) (w : World) : Calls Try.prog 65 #[.agg #[.int .u32 p.1, .int .u32 p.2]] w fun e w' => e = .returned (.int .u64 (keyP p)) ∧ Below w.heap.size w w' := by
  obtain ⟨a, b⟩ := p
  obtain ⟨h0, h1, h2, h3⟩ := hp
  have e1 := w32 h0 h1
  have e2 := w32 h2 h3
  go_enter Try.func65, Try.ntmps65
  go_wp2
  go_ret
  exact ⟨rfl, (Below.refl _ _).alloc (Nat.le_refl _) _⟩

def keysL (l : List (Int × Int)) : List Int := l.map keyP
theorem keys_rng {l : List (Int × Int)} (hl : ∀ p ∈ l, In32 p) : ∀ y ∈ keysL l, 0 ≤ y ∧ y ≤ 18446744073709551615 := by
  intro y hy
  obtain ⟨p, hp, rfl⟩ := List.mem_map.1 hy
  exact keyP_rng (hl p hp)
theorem keys_len (l : List (Int × Int)) : (keysL l).length = l.length := List.length_map _
theorem keys_take (l : List (Int × Int)) (k : Nat) (h : k < l.length) : keysL (l.take (k + 1)) = keysL (l.take k) ++ [keyP (nthP l k)] := by
  rw [take_nth (0, 0) l k h]; simp [keysL]
theorem nth_in {l : List (Int × Int)} (hl : ∀ p ∈ l, In32 p) (k : Nat) (h : k < l.length) : In32 (nthP l k) := by
  unfold nthP; rw [nth_eq _ l k h]; exact hl _ (List.getElem_mem _)
theorem keys_any (w : World) (v : Value) (l : List (Int × Int)) (h : Rd ep 2 w v l) (hm : l.length ≤ 100000000) (hl : ∀ p ∈ l, In32 p) :
    Calls Try.prog 41 #[v] w fun e w' => ∃ v', e = .returned v' ∧ Own (ei .u64) 1 28 w' w.heap.size v' (keysL l) ∧ Below w.heap.size w w' := by
  obtain ⟨A, c, rfl⟩ := h.slice
  go_enter Try.func41, Try.ntmps41
  go_wp2
  go_loopw [3, 4] (fun v i wr => ∃ k : Nat, k ≤ l.length ∧ i = .int .i64 k ∧ Own (ei .u64) 1 28 wr w.heap.size v (keysL (l.take k)) ∧ Below w.heap.size w wr)
    (fun _ i _ => l.length - (intOf i).toNat)
  case atStart => exact ⟨0, Nat.zero_le _, rfl, Own.lit _ _ _ _ _ _ (ei_len _) rfl rfl (Nat.le_refl _) (by omega), (Below.refl _ _).alloc (Nat.le_refl _) _⟩
  case round =>
    obtain ⟨k, hk1, rfl, hO, hB⟩ := hrel
    by_cases h1 : k < l.length
    · obtain ⟨b, off, rfl, hbl, hc0, hd0⟩ := rd_pair h k h1
      have hc := (hB.cell (p := ⟨b, off + k * 2, none⟩) hbl).trans hc0
      have hd := (hB.cell (p := ⟨b, off + k * 2 + 1, none⟩) hbl).trans hd0
      clear hc0 hd0
      have htl := Sec.mk (show (keysL (l.take k)).length = k by rw [keys_len, List.length_take]; omega)
      have hin := Sec.mk (nth_in hl k h1)
      go_wp2_with (first
        | (go_at_call 65; refine (key_any _ hin.out _).mono ?_; rintro e w1 ⟨rfl, hB1⟩)
        | (at_builtin; refine wpList_push rfl _ _ 38 rfl w.heap.size 28 _ 8 Try.underlying38 infoU rfl (by decide) rfl (hO.keep (Chg.of_below hB1 (fun b => wr.heap.size ≤ b)) (fun k hk => by have := (hO.lt k hk).2; omega)) (keyP (nthP l k)) _ _ rfl rfl (ei_one _ _) (by rw [htl.out]; omega) (by decide) (Nat.le_trans hB.size hB1.size) ?_; intro v' w2 hO1 hC1 hat))
      go_roundw
      case rel =>
        refine ⟨k + 1, by omega, by go_num, ?_, ?_⟩
        · rw [keys_take l k h1]; exact hO1
        · exact (((Chg.of_below hB (fun b => w.heap.size ≤ b)).trans (Chg.of_below hB1 (fun b => w.heap.size ≤ b)) (fun b hb => .inl hb)).trans hC1 (fun b hb => .inr (hO.lt b hb.symm).1)).below (fun _ h => h)
      case measure => simp [intOf]; omega
    · obtain rfl : k = l.length := by omega
      rw [List.take_length] at hO
      go_wp2
      go_ret
      exact ⟨_, rfl, hO, hB⟩

theorem take_sameP {l m : List (Int × Int)} {k : Nat} (h : l.take k = m.take k) (h1 : k < l.length) (h2 : k < m.length) (he : nthP l k = nthP m k) : l.take (k + 1) = m.take (k + 1) := by
  rw [take_nth (0, 0) l k h1, take_nth (0, 0) m k h2, h]
  unfold nthP at he; rw [he]
theorem samePairs_any (w : World) (v u : Value) (l m : List (Int × Int)) (h : Rd ep 2 w v l) (g : Rd ep 2 w u m) (e : l = m) :
    Calls Try.prog 42 #[v, u] w fun e w' => e = .returned (.bool true) ∧ ∃ n, w' = w.drewN n := by
  subst e
  obtain ⟨A, c, rfl⟩ := h.slice
  obtain ⟨B, d, rfl⟩ := g.slice
  have hl := h.at_.2.2.1
  obtain ⟨n, hn⟩ : ∃ n, n = l.length := ⟨_, rfl⟩
  rw [← hn] at hl h g ⊢
  have Hn := Sec.mk hn
  clear hn
  go_enter Try.func42, Try.ntmps42
  go_wp2
  go_loopw [5] (fun i wr => ∃ k : Nat, k ≤ n ∧ i = .int .i64 k ∧ ∃ m, wr = w.drewN m) (fun i _ => n - (intOf i).toNat)
  case atStart => exact ⟨0, Nat.zero_le _, rfl, 0, rfl⟩
  case round =>
    obtain ⟨k, hk, rfl, m, rfl⟩ := hrel
    by_cases h1 : k < n
    · obtain ⟨b, off, rfl, hbl, hc, hd⟩ := rd_pair h k h1
      obtain ⟨b2, off2, rfl, hbl2, hc2, hd2⟩ := rd_pair g k h1
      obtain ⟨x, hx⟩ : ∃ x, nthP l k = x := ⟨_, rfl⟩
      rw [hx] at hc hd hc2 hd2
      clear hx
      go_wp2
      go_quiet (fail)
      go_wp2
      go_roundw
      case rel => exact ⟨k + 1, by omega, by go_num, _, rfl⟩
      case measure => simp [intOf]; omega
    · obtain rfl : k = n := by omega
      go_wp2
      go_ret
      exact ⟨rfl, _, rfl⟩
theorem wpList_mk0 {α : Type} {enc : α → List Value} {sz : Nat} {P : Program} {ops : Array Oper} {rest : List Oper} {o : Oper} {a : Act} {Q : Exit → Act → World → Prop} {W : World} (hg : o.guard = none) (l c : Operand) (t : TypeId) (hop : o.op = Op.makeSlice t l c)
    (base : Nat) (e : TypeId) (z : Value) (bytes : Nat) (ht : P.underlying t = some (.slice e)) (hinfo : (P.info? e).map (fun i => (i.zero, i.size, i.bytes)) = some (some z, sz, bytes)) (hsz : ∀ x, (enc x).length = sz)
    (n : Nat) (hl : a.eval l = .int .i64 0) (hc : a.eval c = .int .i64 (n : Int)) (b2 : bytes * n ≤ 281474976710656) (b3 : n ≤ 9223372036854775807) (b4 : base ≤ W.heap.size)
    (hK : ∀ w', Own enc sz e w' base (.slice (some ⟨W.heap.size, 0, none⟩) 0 n) [] → Below W.heap.size W w' → wpList P ops Q rest (a.put o.dst (.slice (some ⟨W.heap.size, 0, none⟩) 0 n)) w') :
    wpList P ops Q (o :: rest) a W := by
  obtain ⟨i, hi, hz0, hz1, hz2⟩ := info_parts hinfo
  refine wpList_make_own W hg l c t hop base e i z sz ht hi hz0 hz1 .i64 .i64 n n hl hc rfl (by rw [hz2]; exact b2) (by unfold maxLen; omega) b4 ?_
  intro w' h1 h2
  exact hK w' ⟨h1, hsz⟩ ⟨h2.os, h2.tape, h2.output, h2.size, fun k hk => h2.block k hk (by simp)⟩
set_option maxRecDepth 100000 in
theorem radixpairs_any (w : World) (v : Value) (l : List (Int × Int)) (h : Rd ep 2 w v l) (hm : l.length ≤ 100000000) (hl : ∀ p ∈ l, In32 p) :
    Calls Try.prog 64 #[v] w fun e w' => ∃ v', e = .returned v' ∧ Own (ei .i64) 1 3 w' w.heap.size v' (orderL (keysL l)) ∧ Below w.heap.size w w' := by
  obtain ⟨A, c, rfl⟩ := h.slice
  have hl3 := h.at_.2.2.1
  go_enter Try.func64, Try.ntmps64
  go_wp2_with (at_make; refine wpList_mk0 rfl _ _ 38 rfl w.heap.size 28 _ 8 Try.underlying38 infoU (ei_len .u64) l.length rfl rfl (by omega) hl3 (Nat.le_refl _) ?_; intro w1 hO hB1)
  go_loopw [3, 11] (fun v i wr => ∃ k : Nat, k ≤ l.length ∧ i = .int .i64 k ∧ Own (ei .u64) 1 28 wr w.heap.size v (keysL (l.take k)) ∧ Below w.heap.size w wr)
    (fun _ i _ => l.length - (intOf i).toNat)
  case atStart => exact ⟨0, Nat.zero_le _, rfl, hO, hB1⟩
  case round =>
    clear hO hB1
    obtain ⟨k, hk1, rfl, hO, hB⟩ := hrel
    by_cases h1 : k < l.length
    · obtain ⟨b, off, rfl, hbl, hc0, hd0⟩ := rd_pair h k h1
      have hc := (hB.cell (p := ⟨b, off + k * 2, none⟩) hbl).trans hc0
      have hd := (hB.cell (p := ⟨b, off + k * 2 + 1, none⟩) hbl).trans hd0
      clear hc0 hd0
      have htl := Sec.mk (show (keysL (l.take k)).length = k by rw [keys_len, List.length_take]; omega)
      have hin := Sec.mk (nth_in hl k h1)
      go_wp2_with (first
        | (go_at_call 71; refine (pack_any _ hin.out _).mono ?_; rintro e w1 ⟨rfl, rfl⟩)
        | (at_builtin; refine wpList_push rfl _ _ 38 rfl w.heap.size 28 _ 8 Try.underlying38 infoU rfl (by decide) rfl (hO.alloc _) (keyP (nthP l k)) _ _ (by show Value.slice _ _ _ = _; rw [size_alloc]) rfl (ei_one _ _) (by rw [htl.out]; omega) (by decide) (by rw [size_alloc]; exact Nat.le_succ_of_le hB.size) ?_; intro v' w2 hO1 hC1 hat))
      go_roundw
      case rel =>
        refine ⟨k + 1, by omega, by go_num, ?_, ?_⟩
        · rw [keys_take l k h1]; exact hO1
        · exact (((Chg.of_below hB (fun b => w.heap.size ≤ b)).alloc _).trans hC1 (fun b hb => .inr (hO.lt b hb.symm).1)).below (fun _ h => h)
      case measure => simp [intOf]; omega
    · obtain rfl : k = l.length := by omega
      rw [List.take_length] at hO
      go_wp2_with (go_at_call 70; refine (order_any _ _ _ hO.rd (keys_rng hl) (by rw [keys_len]; omega)).mono ?_; rintro e w2 ⟨v2, rfl, hO2, hB2⟩)
      go_ret
      exact ⟨_, rfl, hO2.lower hB.size, hB.trans (hB2.mono hB.size)⟩

theorem Pairs_any (w : World) (v : Value) (l : List (Int × Int)) (h : Rd ep 2 w v l) (hm : l.length ≤ 100000000) (hl : ∀ p ∈ l, In32 p) :
    Calls Try.prog 39 #[v] w fun e w' => ∃ v', e = .returned v' ∧ Own (ei .i64) 1 3 w' w.heap.size v' (orderL (keysL l)) ∧ Below w.heap.size w w' := by
  have hc := radixpairs_any w v l h hm hl
  go_enter Try.func39, Try.ntmps39
  go_wp2_with (go_at_call 64; refine hc.mono ?_; rintro e w' ⟨v', rfl, hO, hB⟩)
  go_ret
  exact ⟨_, rfl, hO, hB⟩

/-- Of a row each, but where it is the one ahead. -/
def dd (f : Nat → Int × Int) : Nat → List (Int × Int)
  | 0 => []
  | k + 1 => if k = 0 ∨ f (k - 1) ≠ f k then dd f k ++ [f k] else dd f k
theorem dd_yes (f : Nat → Int × Int) (k : Nat) (h : k = 0 ∨ f (k - 1) ≠ f k) : dd f (k + 1) = dd f k ++ [f k] := by simp only [dd]; rw [if_pos h]
theorem dd_no (f : Nat → Int × Int) (k : Nat) (h : ¬ (k = 0 ∨ f (k - 1) ≠ f k)) : dd f (k + 1) = dd f k := by simp only [dd]; rw [if_neg h]
theorem dd_len (f : Nat → Int × Int) : ∀ k, (dd f k).length ≤ k
  | 0 => Nat.le_refl _
  | k + 1 => by
    have := dd_len f k
    by_cases h : k = 0 ∨ f (k - 1) ≠ f k
    · rw [dd_yes f k h, List.length_append]; simp; omega
    · rw [dd_no f k h]; omega
theorem dd_last (f : Nat → Int × Int) : ∀ k, ∃ n, (dd f (k + 1)).length = n + 1 ∧ nthP (dd f (k + 1)) n = f k
  | 0 => ⟨0, by rw [dd_yes f 0 (.inl rfl)]; rfl, by rw [dd_yes f 0 (.inl rfl)]; rfl⟩
  | k + 1 => by
    by_cases h : k + 1 = 0 ∨ f (k + 1 - 1) ≠ f (k + 1)
    · refine ⟨(dd f (k + 1)).length, by rw [dd_yes f _ h, List.length_append]; rfl, ?_⟩
      rw [dd_yes f _ h]
      unfold nthP nth
      simp
    · obtain ⟨n, h1, h2⟩ := dd_last f k
      refine ⟨n, by rw [dd_no f _ h]; exact h1, ?_⟩
      rw [dd_no f _ h, h2]
      have : f (k + 1 - 1) = f (k + 1) := by
        by_cases e : f (k + 1 - 1) = f (k + 1)
        · exact e
        · exact absurd (.inr e) h
      simpa using this
/-- Pairs in order, each once. -/
def sortP (l : List (Int × Int)) : List (Int × Int) := dd (fun k => nthP l (nth 0 (orderL (keysL l)) k).toNat) l.length
end Go.Proofs.Ytndlcfdlhliljaa.Rx
