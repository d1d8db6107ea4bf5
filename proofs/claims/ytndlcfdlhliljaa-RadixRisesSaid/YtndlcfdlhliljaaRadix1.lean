/- What the small functions of layer 4 and its reference do: copies, sums, sameness. Conditions: lists of fewer than 2^40 numbers. -/
import Derived.Test.YtndlcfdlhliljaaSl
import Derived.Test.YtndlcfdlhliljaaProg
import Derived.WalkKit
import Derived.Deep.QuietTactic
import Derived.BigQuiet
import Derived.Deep.LoopGhost
import Derived.Deep.RegionLaw
import Derived.Outline
namespace Go.Proofs.Ytndlcfdlhliljaa.Rx
open Go.RowKit Go.Proofs.Ytndlcfdlhliljaa.Mem Go.Proofs.Ytndlcfdlhliljaa.Sl
set_option linter.unusedVariables false
set_option linter.unusedSimpArgs false

theorem infoI : (Try.prog.info? 3).map (fun i => (i.zero, i.size, i.bytes)) = some (some (.int .i64 0), 1, 8) := by kernel_rfl
theorem infoU : (Try.prog.info? 28).map (fun i => (i.zero, i.size, i.bytes)) = some (some (.int .u64 0), 1, 8) := by kernel_rfl

theorem few_any (w : World) (v : Value) (xs : List Int) (m : Nat) (h : Rd (ei .i64) 1 w v xs) (hm : m ≤ 1000) :
    Calls Try.prog 33 #[v, .int .i64 (m : Int)] w fun e w' => ∃ v', e = .returned v' ∧ Own (ei .i64) 1 3 w' w.heap.size v' (xs.take m) ∧ Below w.heap.size w w' := by
  obtain ⟨A, c, rfl⟩ := h.slice
  have hl := h.at_.2.2.1
  go_enter Try.func33, Try.ntmps33
  go_wp2
  go_loopw [5, 6] (fun v i wr => ∃ k : Nat, k ≤ xs.length ∧ k ≤ m ∧ i = .int .i64 k ∧ Own (ei .i64) 1 3 wr w.heap.size v (xs.take k) ∧ Below w.heap.size w wr)
    (fun _ i _ => xs.length - (intOf i).toNat)
  case atStart => exact ⟨0, Nat.zero_le _, Nat.zero_le _, rfl, Own.lit _ _ _ _ _ _ (ei_len _) rfl rfl (Nat.le_refl _) (by omega), (Below.refl _ _).alloc (Nat.le_refl _) _⟩
  case round =>
    obtain ⟨k, hk1, hk2, rfl, hO, hB⟩ := hrel
    by_cases h1 : k < xs.length
    · by_cases h2 : k < m
      · obtain ⟨b, off, rfl, hbl, hc0⟩ := h.int k h1
        have hc := (hB.cell (p := ⟨b, off + k, none⟩) hbl).trans hc0
        clear hc0
        have htl : (xs.take k).length = k := by rw [List.length_take]; omega
        go_wp2_with (at_builtin; refine wpList_push rfl _ _ 51 rfl w.heap.size 3 _ 8 Try.underlying51 infoI rfl (by decide) rfl hO (nth 0 xs k) _ _ rfl rfl (ei_one _ _) (by rw [htl]; omega) (by decide) hB.size ?_; intro v' w1 hO1 hC1 hat)
        go_roundw
        case rel =>
          refine ⟨k + 1, by omega, by omega, by go_num, ?_, ?_⟩
          · rw [take_nth 0 xs k h1]; exact hO1
          · exact ((Chg.of_below hB (fun b => w.heap.size ≤ b)).trans hC1 (fun b hb => .inr (hO.lt b hb.symm).1)).below (fun _ h => h)
        case measure => simp [intOf]; omega
      · obtain rfl : k = m := by omega
        go_wp2
        go_ret
        exact ⟨_, rfl, hO, hB⟩
    · obtain rfl : k = xs.length := by omega
      go_wp2
      go_ret
      refine ⟨_, rfl, ?_, hB⟩
      rw [List.take_of_length_le (by omega)] at hO ⊢
      exact hO

/-- How much all ahead of each place come to, behind s; none: too much, or below 0. -/
def sumsS : List Int → Int → Option (List Int)
  | [], _ => some []
  | n :: t, s => if n < 0 ∨ 9007199254740992 - s < n then none else (sumsS t (s + n)).map ((s + n) :: ·)
theorem sumsS_none (n : Int) (t : List Int) (s : Int) (h : n < 0 ∨ 9007199254740992 - s < n) : sumsS (n :: t) s = none := by simp only [sumsS]; rw [if_pos h]
theorem sumsS_some (n : Int) (t : List Int) (s : Int) (h0 : 0 ≤ n) (h : n ≤ 9007199254740992 - s) : sumsS (n :: t) s = (sumsS t (s + n)).map ((s + n) :: ·) := by simp only [sumsS]; rw [if_neg (by omega)]
/-- What has been told so far. -/
structure SumsAt (xs : List Int) (k : Nat) (o : List Int) (s : Int) : Prop where
  eq : sumsS xs 0 = (sumsS (xs.drop k) s).map (o ++ ·)
  len : o.length = k
  last : nth 0 (0 :: o) k = s
theorem SumsAt.start (xs : List Int) : SumsAt xs 0 [] 0 := ⟨by simp, rfl, rfl⟩
theorem SumsAt.next {xs : List Int} {k : Nat} {o : List Int} {s : Int} (h : SumsAt xs k o s) (hk : k < xs.length) (h0 : 0 ≤ nth 0 xs k) (h1 : nth 0 xs k ≤ 9007199254740992 - s) : SumsAt xs (k + 1) (o ++ [s + nth 0 xs k]) (s + nth 0 xs k) := by
  refine ⟨?_, by rw [List.length_append, h.len]; rfl, ?_⟩
  · rw [h.eq, drop_nth 0 xs k hk, sumsS_some _ _ _ h0 h1, Option.map_map]
    congr 1
    funext t
    simp
  · have hl := h.len
    unfold nth
    rw [List.getD_cons_succ, List.getD_eq_getElem?_getD, List.getElem?_append_right (by omega), hl]
    simp
theorem SumsAt.bad {xs : List Int} {k : Nat} {o : List Int} {s : Int} (h : SumsAt xs k o s) (hk : k < xs.length) (hb : nth 0 xs k < 0 ∨ 9007199254740992 - s < nth 0 xs k) : sumsS xs 0 = none := by
  rw [h.eq, drop_nth 0 xs k hk, sumsS_none _ _ _ hb]; rfl
theorem SumsAt.done {xs : List Int} {o : List Int} {s : Int} (h : SumsAt xs xs.length o s) : sumsS xs 0 = some o := by
  rw [h.eq, List.drop_length]; simp [sumsS]

/-- What Sums answers. -/
def SumsGo (w w' : World) (e : Ending) : Option (List Int) → Prop
  | none => e = .returned (.tuple #[.slice none 0 0, .int .i64 3])
  | some t => ∃ v', e = .returned (.tuple #[v', .int .i64 0]) ∧ Own (ei .i64) 1 3 w' w.heap.size v' (0 :: t)

theorem sums_any (w : World) (v : Value) (xs : List Int) (h : Rd (ei .i64) 1 w v xs) (hm : xs.length ≤ 100000000000) :
    Calls Try.prog 34 #[v] w fun e w' => SumsGo w w' e (sumsS xs 0) ∧ Below w.heap.size w w' := by
  obtain ⟨A, c, rfl⟩ := h.slice
  have hl := h.at_.2.2.1
  go_enter Try.func34, Try.ntmps34
  go_wp2
  go_loopw [4, 5, 11] (fun v sv i wr => ∃ (k : Nat) (o : List Int) (s : Int), k ≤ xs.length ∧ i = .int .i64 k ∧ sv = .int .i64 s ∧ 0 ≤ s ∧ s ≤ 9007199254740992 ∧ Sec (SumsAt xs k o s) ∧ Own (ei .i64) 1 3 wr w.heap.size v (0 :: o) ∧ Below w.heap.size w wr)
    (fun _ _ i _ => xs.length - (intOf i).toNat)
  case atStart => exact ⟨0, [], 0, Nat.zero_le _, rfl, rfl, by omega, by omega, ⟨SumsAt.start xs⟩, Own.lit _ _ _ _ _ _ (ei_len _) rfl rfl (Nat.le_refl _) (by omega), (Below.refl _ _).alloc (Nat.le_refl _) _⟩
  case round =>
    obtain ⟨k, o, s, hk1, rfl, rfl, hs0, hs1, hS, hO, hB⟩ := hrel
    by_cases h1 : k < xs.length
    · obtain ⟨b, off, rfl, hbl, hc0⟩ := h.int k h1
      have hc := (hB.cell (p := ⟨b, off + k, none⟩) hbl).trans hc0
      clear hc0
      have hlen := hS.out.len
      have hol : o.length ≤ 100000000000 := by omega
      clear hlen
      by_cases hneg : nth 0 xs k < 0
      · go_wp2
        go_ret2
        rw [hS.out.bad h1 (.inl hneg)]
        exact ⟨rfl, hB⟩
      · by_cases hbig : 9007199254740992 - s < nth 0 xs k
        · go_wp2
          go_ret2
          rw [hS.out.bad h1 (.inr hbig)]
          exact ⟨rfl, hB⟩
        · have h2 : 0 ≤ nth 0 xs k := by omega
          have h3 : nth 0 xs k ≤ 9007199254740992 - s := by omega
          clear hneg hbig
          have hN := Sec.mk (hS.out.next h1 h2 h3)
          go_wp2_with (at_builtin; refine wpList_push rfl _ _ 51 rfl w.heap.size 3 _ 8 Try.underlying51 infoI rfl (by decide) rfl hO (s + nth 0 xs k) _ _ rfl rfl (ei_one _ _) (by simp only [List.length_cons]; omega) (by decide) hB.size ?_; intro v' w1 hO1 hC1 hat)
          go_roundw
          case rel =>
            refine ⟨k + 1, o ++ [s + nth 0 xs k], s + nth 0 xs k, by omega, by go_num, rfl, by omega, by omega, hN, hO1, ?_⟩
            exact ((Chg.of_below hB (fun b => w.heap.size ≤ b)).trans hC1 (fun b hb => .inr (hO.lt b hb.symm).1)).below (fun _ h => h)
          case measure => simp [intOf]; omega
    · obtain rfl : k = xs.length := by omega
      go_wp2
      go_ret2
      rw [hS.out.done]
      exact ⟨⟨_, rfl, hO⟩, hB⟩

/-- What the reference's Sums answers. -/
def SumsRef (w w' : World) (e : Ending) : Option (List Int) → Prop
  | none => e = .returned (.tuple #[.slice none 0 0, .bool false])
  | some t => ∃ v', e = .returned (.tuple #[v', .bool true]) ∧ Own (ei .i64) 1 3 w' w.heap.size v' (0 :: t)

set_option maxRecDepth 100000 in
theorem refSums_any (w : World) (v : Value) (xs : List Int) (h : Rd (ei .i64) 1 w v xs) (hm : xs.length ≤ 100000000000) :
    Calls Try.prog 35 #[v] w fun e w' => SumsRef w w' e (sumsS xs 0) ∧ Below w.heap.size w w' := by
  obtain ⟨A, c, rfl⟩ := h.slice
  have hl := h.at_.2.2.1
  go_enter Try.func35, Try.ntmps35
  go_wp2
  go_loopw [4, 5] (fun v i wr => ∃ (k : Nat) (o : List Int) (s : Int), k ≤ xs.length ∧ i = .int .i64 k ∧ 0 ≤ s ∧ s ≤ 9007199254740992 ∧ Sec (SumsAt xs k o s) ∧ Own (ei .i64) 1 3 wr w.heap.size v (0 :: o) ∧ Below w.heap.size w wr)
    (fun _ i _ => xs.length - (intOf i).toNat)
  case atStart => exact ⟨0, [], 0, Nat.zero_le _, rfl, by omega, by omega, ⟨SumsAt.start xs⟩, Own.lit _ _ _ _ _ _ (ei_len _) rfl rfl (Nat.le_refl _) (by omega), (Below.refl _ _).alloc (Nat.le_refl _) _⟩
  case round =>
    obtain ⟨k, o, s, hk1, rfl, hs0, hs1, hS, hO, hB⟩ := hrel
    by_cases h1 : k < xs.length
    · obtain ⟨b, off, rfl, hbl, hc0⟩ := h.int k h1
      have hc := (hB.cell (p := ⟨b, off + k, none⟩) hbl).trans hc0
      clear hc0
      have hlen := hS.out.len
      have hol : o.length ≤ 100000000000 := by omega
      obtain ⟨n, hnk⟩ : ∃ n : Nat, n = k + 1 := ⟨_, rfl⟩
      obtain ⟨g, cap, rfl, hgb, hgl, hgc, hgf, hgr⟩ := hO.rowN (n := n) (by simp only [List.length_cons]; omega) (by omega)
      have hkn : k < n := by omega
      have hnS := Sec.mk hnk
      clear hnk
      have hcs := hgr k _ (nth_get 0 (0 :: o) k (by simp only [List.length_cons]; omega)) 0 _ rfl
      rw [hS.out.last, Nat.mul_one, Nat.add_zero] at hcs
      clear hlen hgr hgf
      by_cases hneg : nth 0 xs k < 0
      · go_wp2
        go_quiet (fail)
        go_wp2
        go_ret2
        rw [hS.out.bad h1 (.inl hneg)]
        exact ⟨rfl, below_dn hB _⟩
      · by_cases hbig : 9007199254740992 - s < nth 0 xs k
        · go_wp2
          go_quiet (fail)
          go_wp2
          · go_ret2
            rw [hS.out.bad h1 (.inr hbig)]
            exact ⟨rfl, below_dn hB _⟩
          · have hx : 0 ≤ nth 0 xs k ∧ nth 0 xs k ≤ IntKind.i64.wrap (9007199254740992 - s) := by assumption
            rw [IntWalk.i64_in _ (by omega)] at hx
            omega
        · have h2 : 0 ≤ nth 0 xs k := by omega
          have h3 : nth 0 xs k ≤ 9007199254740992 - s := by omega
          clear hneg hbig
          have hN := Sec.mk (hS.out.next h1 h2 h3)
          have hsw : decide (IntKind.i64.wrap (9007199254740992 - s) < nth 0 xs k) = false := by rw [IntWalk.i64_in _ (by omega)]; exact decide_eq_false (by omega)
          have hsw' : nth 0 xs k ≤ IntKind.i64.wrap (9007199254740992 - s) := by rw [IntWalk.i64_in _ (by omega)]; omega
          have hsv : IntKind.i64.wrap (s + nth 0 xs k) = s + nth 0 xs k := IntWalk.i64_in _ (by omega)
          go_wp2
          go_quiet (fail)
          go_wp2
          go_region_law ((refine step_push (by rfl) _ _ 51 (by rfl) w.heap.size 3 _ 8 Try.underlying51 infoI rfl (by decide) (by rfl) (hO.drewN _).drew (s + nth 0 xs k) _ _ (by rfl) (by rfl) (ei_one _ _) (by simp only [List.length_cons]; omega) (by decide) hB.size ?_; intro v' w1 hO1 hC1 hat))
          all_goals
            clear hsw hsv hsw'
            go_wp2
            go_roundw
            case rel =>
              refine ⟨k + 1, o ++ [s + nth 0 xs k], s + nth 0 xs k, by omega, by go_num, by omega, by omega, hN, hO1, ?_⟩
              exact (((Chg.of_below hB (fun b => w.heap.size ≤ b)).drewN _).drew.trans hC1 (fun b hb => .inr (hO.lt b hb.symm).1)).below (fun _ h => h)
            case measure => simp [intOf]; omega
    · obtain rfl : k = xs.length := by omega
      go_wp2
      go_ret2
      rw [hS.out.done]
      exact ⟨⟨_, rfl, hO⟩, hB⟩
theorem take_same {xs ys : List Int} {k : Nat} (h : xs.take k = ys.take k) (h1 : k < xs.length) (h2 : k < ys.length) (h3 : nth 0 xs k = nth 0 ys k) : xs.take (k + 1) = ys.take (k + 1) := by
  rw [take_nth 0 xs k h1, take_nth 0 ys k h2, h, h3]
theorem nth_ne {xs ys : List Int} {k : Nat} (h : nth 0 xs k ≠ nth 0 ys k) : xs ≠ ys := fun e => h (by rw [e])

theorem same_any (w : World) (v u : Value) (xs ys : List Int) (h : Rd (ei .i64) 1 w v xs) (g : Rd (ei .i64) 1 w u ys) :
    Calls Try.prog 37 #[v, u] w fun e w' => e = .returned (.bool (decide (xs = ys))) ∧ ∃ n, w' = w.drewN n := by
  obtain ⟨A, c, rfl⟩ := h.slice
  obtain ⟨B, d, rfl⟩ := g.slice
  have hl := h.at_.2.2.1
  have hl2 := g.at_.2.2.1
  by_cases hlen : xs.length = ys.length
  · obtain ⟨n, hn⟩ : ∃ n, n = xs.length := ⟨_, rfl⟩
    have hn2 : n = ys.length := by omega
    rw [← hn] at hl h ⊢
    rw [← hn2] at hl2 g ⊢
    have Hn := Sec.mk hn
    have Hn2 := Sec.mk hn2
    clear hn hn2 hlen hl2
    go_enter Try.func37, Try.ntmps37
    go_wp2
    go_loopw [5] (fun i wr => ∃ k : Nat, k ≤ n ∧ i = .int .i64 k ∧ Sec (xs.take k = ys.take k) ∧ ∃ m, wr = w.drewN m) (fun i _ => n - (intOf i).toNat)
    case atStart => exact ⟨0, Nat.zero_le _, rfl, ⟨rfl⟩, 0, rfl⟩
    case round =>
      obtain ⟨k, hk, rfl, hS, m, rfl⟩ := hrel
      by_cases h1 : k < n
      · obtain ⟨b, off, rfl, hbl, hc⟩ := h.int k h1
        obtain ⟨b2, off2, rfl, hbl2, hc2⟩ := g.int k h1
        by_cases he : nth 0 xs k = nth 0 ys k
        · have hN := Sec.mk (take_same hS.out (by have := Hn.out; omega) (by have := Hn2.out; omega) he)
          have he' : (nth 0 xs k != nth 0 ys k) = false := by simp [he]
          clear he
          go_wp2
          go_quiet (fail)
          go_wp2
          go_roundw
          case rel => exact ⟨k + 1, by omega, by go_num, hN, _, rfl⟩
          case measure => simp [intOf]; omega
        · have he' : (nth 0 xs k != nth 0 ys k) = true := by simp [he]
          have hne := Sec.mk (nth_ne he)
          clear he
          go_wp2
          go_quiet (fail)
          go_wp2
          go_ret
          exact ⟨by rw [decide_eq_false hne.out]; rfl, by first | exact ⟨_, rfl⟩ | exact ⟨_, World.drewN_drewN ..⟩⟩
      · obtain rfl : k = n := by omega
        have he : xs = ys := by
          have := hS.out
          rw [List.take_of_length_le (by have := Hn.out; omega), List.take_of_length_le (by have := Hn2.out; omega)] at this
          exact this
        have hE := Sec.mk he
        clear he
        go_wp2
        go_ret
        exact ⟨by rw [decide_eq_true hE.out]; rfl, _, rfl⟩
  · have he : decide (xs = ys) = false := decide_eq_false (fun e => hlen (by rw [e]))
    rw [he]
    clear he
    have hd : ((xs.length : Int) != (ys.length : Int)) = true := by simp; omega
    go_enter Try.func37, Try.ntmps37
    go_wp2
    go_ret
    exact ⟨rfl, 0, rfl⟩

/-- Where new ones begin, from the k-th on. -/
def grpsAt (xs : List Int) (k : Nat) : List Int := (List.range k).filterMap fun i => if i = 0 ∨ nth 0 xs (i - 1) ≠ nth 0 xs i then some (i : Int) else none
theorem grps_yes {xs : List Int} {k : Nat} (h : k = 0 ∨ nth 0 xs (k - 1) ≠ nth 0 xs k) : grpsAt xs (k + 1) = grpsAt xs k ++ [(k : Int)] := by
  unfold grpsAt
  rw [List.range_succ, List.filterMap_append]
  simp [h]
theorem grps_no {xs : List Int} {k : Nat} (h : ¬ (k = 0 ∨ nth 0 xs (k - 1) ≠ nth 0 xs k)) : grpsAt xs (k + 1) = grpsAt xs k := by
  unfold grpsAt
  rw [List.range_succ, List.filterMap_append]
  simp [h]
theorem grps_le (xs : List Int) (k : Nat) : (grpsAt xs k).length ≤ k := by
  unfold grpsAt
  have := List.length_filterMap_le (fun i => if i = 0 ∨ nth 0 xs (i - 1) ≠ nth 0 xs i then some (i : Int) else none) (List.range k)
  simpa using this

theorem groups_any (w : World) (v : Value) (xs : List Int) (h : Rd (ei .u64) 1 w v xs) (hm : xs.length ≤ 100000000000) :
    Calls Try.prog 63 #[v] w fun e w' => ∃ v', e = .returned v' ∧ Own (ei .i64) 1 3 w' w.heap.size v' (grpsAt xs xs.length ++ [(xs.length : Int)]) ∧ Below w.heap.size w w' := by
  obtain ⟨A, c, rfl⟩ := h.slice
  have hl := h.at_.2.2.1
  go_enter Try.func63, Try.ntmps63
  go_wp2
  go_loopw [3, 8] (fun v i wr => ∃ k : Nat, k ≤ xs.length ∧ i = .int .i64 k ∧ Own (ei .i64) 1 3 wr w.heap.size v (grpsAt xs k) ∧ Below w.heap.size w wr) (fun _ i _ => xs.length - (intOf i).toNat)
  case atStart => exact ⟨0, Nat.zero_le _, rfl, Own.nil _ _ _ (ei_len _), Below.refl _ _⟩
  case round =>
    obtain ⟨k, hk1, rfl, hO, hB⟩ := hrel
    have hgl := grps_le xs k
    by_cases h1 : k < xs.length
    · obtain ⟨b, off, hA, hbl, hc0⟩ := h.int k h1
      have hc := (hB.cell (p := ⟨b, off + k, none⟩) hbl).trans hc0
      clear hc0
      by_cases h0 : k = 0
      · subst h0
        subst hA
        rw [Nat.add_zero] at hc
        have h10 : 0 < xs.length := h1
        have hy := Sec.mk (grps_yes (xs := xs) (k := 0) (.inl rfl))
        go_wp2_with (at_builtin; refine wpList_push rfl _ _ 51 rfl w.heap.size 3 _ 8 Try.underlying51 infoI rfl (by decide) rfl hO ((0 : Nat) : Int) _ _ rfl rfl (ei_one _ _) (by omega) (by decide) hB.size ?_; intro v' w1 hO1 hC1 hat)
        go_roundw
        case rel => exact ⟨1, by omega, by go_num, by rw [hy.out]; exact hO1, ((Chg.of_below hB (fun b => w.heap.size ≤ b)).trans hC1 (fun b hb => .inr (hO.lt b hb.symm).1)).below (fun _ h => h)⟩
        case measure => simp [intOf]; omega
      · obtain ⟨b2, off2, hA2, hbl2, hc1⟩ := h.int (k - 1) (by omega)
        have e2 : b2 = b ∧ off2 = off := by
          rw [hA] at hA2; injection hA2 with e; injection e with e1 e2; exact ⟨e1.symm, e2.symm⟩
        obtain ⟨rfl, rfl⟩ := e2
        subst hA
        have hc2 := (hB.cell (p := ⟨b2, off2 + (k - 1), none⟩) hbl).trans hc1
        clear hc1 hA2 hbl2
        obtain ⟨j, rfl⟩ : ∃ j, k = j + 1 := ⟨k - 1, by omega⟩
        rw [Nat.add_sub_cancel] at hc2
        clear h0
        by_cases he : nth 0 xs j = nth 0 xs (j + 1)
        · have hy := Sec.mk (grps_no (xs := xs) (k := j + 1) (by simp [he]))
          have he' : (nth 0 xs j != nth 0 xs (j + 1)) = false := by simp [he]
          clear he
          go_wp2
          go_roundw
          case rel => exact ⟨j + 1 + 1, by omega, by go_num, by rw [hy.out]; exact hO, hB⟩
          case measure => simp [intOf]; omega
        · have hy := Sec.mk (grps_yes (xs := xs) (k := j + 1) (by simp [he]))
          have he' : (nth 0 xs j != nth 0 xs (j + 1)) = true := by simp [he]
          clear he
          go_wp2_with (at_builtin; refine wpList_push rfl _ _ 51 rfl w.heap.size 3 _ 8 Try.underlying51 infoI rfl (by decide) rfl hO ((j + 1 : Nat) : Int) _ _ rfl rfl (ei_one _ _) (by omega) (by decide) hB.size ?_; intro v' w1 hO1 hC1 hat)
          go_roundw
          case rel => exact ⟨j + 1 + 1, by omega, by go_num, by rw [hy.out]; exact hO1, ((Chg.of_below hB (fun b => w.heap.size ≤ b)).trans hC1 (fun b hb => .inr (hO.lt b hb.symm).1)).below (fun _ h => h)⟩
          case measure => simp [intOf]; omega
    · obtain rfl : k = xs.length := by omega
      go_wp2_with (at_builtin; refine wpList_push rfl _ _ 51 rfl w.heap.size 3 _ 8 Try.underlying51 infoI rfl (by decide) rfl hO (xs.length : Int) _ _ rfl rfl (ei_one _ _) (by omega) (by decide) hB.size ?_; intro v' w1 hO1 hC1 hat)
      go_ret
      exact ⟨_, rfl, hO1, ((Chg.of_below hB (fun b => w.heap.size ≤ b)).trans hC1 (fun b hb => .inr (hO.lt b hb.symm).1)).below (fun _ h => h)⟩
end Go.Proofs.Ytndlcfdlhliljaa.Rx
