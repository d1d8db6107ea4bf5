/- The plain law of the byte sort: what it gives is the places by rising keys, those of one key in their order; and so is what the reference gives. Conditions: keys of 64 bits. -/
import Derived.Test.YtdbaklnjemcfgaaGreatDoorROrd
namespace Go.Proofs.YtdbaklnjemcfgaaGreatDoor.Rx
open Go.RowKit Go.Proofs.YtdbaklnjemcfgaaGreatDoor.Sl Go.Proofs.YtdbaklnjemcfgaaGreatDoor.RMath
set_option linter.unusedVariables false
set_option linter.unusedSimpArgs false

/-- Two lists that rise strictly and hold the same are one. -/
theorem rise_unique {α : Type} {R : α → α → Prop} (irr : ∀ a, ¬ R a a) (asym : ∀ a b, R a b → ¬ R b a) : ∀ (l m : List α), l.Pairwise R → m.Pairwise R → (∀ x, x ∈ l ↔ x ∈ m) → l = m
  | [], m, _, _, h => by
    cases m with
    | nil => rfl
    | cons b m => exact absurd ((h b).2 (List.mem_cons_self ..)) (by simp)
  | a :: l, m, hl, hm, h => by
    cases m with
    | nil => exact absurd ((h a).1 (List.mem_cons_self ..)) (by simp)
    | cons b m =>
      have hl' := List.pairwise_cons.1 hl
      have hm' := List.pairwise_cons.1 hm
      have hab : a = b := by
        rcases List.mem_cons.1 ((h a).1 (List.mem_cons_self ..)) with e | e
        · exact e
        · rcases List.mem_cons.1 ((h b).2 (List.mem_cons_self ..)) with e2 | e2
          · exact e2.symm
          · exact absurd (hl'.1 b e2) (asym _ _ (hm'.1 a e))
      subst hab
      congr 1
      refine rise_unique irr asym l m hl'.2 hm'.2 fun x => ?_
      constructor
      · intro hx
        rcases List.mem_cons.1 ((h x).1 (List.mem_cons_of_mem _ hx)) with e | e
        · exact absurd (hl'.1 x hx) (by rw [e]; exact irr _)
        · exact e
      · intro hx
        rcases List.mem_cons.1 ((h x).2 (List.mem_cons_of_mem _ hx)) with e | e
        · exact absurd (hm'.1 x hx) (by rw [e]; exact irr _)
        · exact e

/-- By key, those of one key by place: of the keys' lowest 8 m bits. -/
def key (ys : List Int) (i : Int) : Nat := (nth 0 ys i.toNat).toNat
def Low (ys : List Int) (m : Nat) (i j : Int) : Prop := key ys i % 2 ^ (8 * m) < key ys j % 2 ^ (8 * m) ∨ (key ys i % 2 ^ (8 * m) = key ys j % 2 ^ (8 * m) ∧ i < j)

theorem byte_key (ys : List Int) (sh : Nat) (i : Int) (h : 0 ≤ nth 0 ys i.toNat) : byteOf ys sh i = key ys i / 2 ^ sh % 256 := by
  unfold byteOf key
  obtain ⟨n, hn⟩ := Int.eq_ofNat_of_zero_le h
  rw [hn]
  have e1 : ((2 ^ sh : Nat) : Int) = (2 : Int) ^ sh := Int.natCast_pow 2 sh
  rw [Int.toNat_natCast, ← e1]
  omega
theorem low_step (k m : Nat) : k % 2 ^ (8 * (m + 1)) = (k / 2 ^ (8 * m) % 256) * 2 ^ (8 * m) + k % 2 ^ (8 * m) := by
  have e : 2 ^ (8 * (m + 1)) = 2 ^ (8 * m) * 256 := by rw [Nat.mul_add, Nat.pow_add]
  rw [e, Nat.mod_mul]
  rw [Nat.mul_comm (k / 2 ^ (8 * m) % 256), Nat.add_comm]

theorem pass_rise (ys : List Int) (m : Nat) (l : List Int) (hy : ∀ i ∈ l, 0 ≤ nth 0 ys i.toNat) (h : l.Pairwise (Low ys m)) : (passL (byteOf ys (8 * m)) l).Pairwise (Low ys (m + 1)) := by
  have hlt : ∀ k, k % 2 ^ (8 * m) < 2 ^ (8 * m) := fun k => Nat.mod_lt _ (Nat.pow_pos (by decide))
  have hmem : ∀ n x, x ∈ passN (byteOf ys (8 * m)) l n → x ∈ l ∧ byteOf ys (8 * m) x < n := by
    intro n x hx
    unfold passN bkt at hx
    obtain ⟨b, hb, hx⟩ := List.mem_flatMap.1 hx
    obtain ⟨h1, h2⟩ := List.mem_filter.1 hx
    have : byteOf ys (8 * m) x = b := by simpa using h2
    exact ⟨h1, by rw [this]; exact List.mem_range.1 hb⟩
  have all : ∀ n, (passN (byteOf ys (8 * m)) l n).Pairwise (Low ys (m + 1)) := by
    intro n
    induction n with
    | zero => exact List.Pairwise.nil
    | succ n ih =>
      rw [passN_succ, List.pairwise_append]
      refine ⟨ih, ?_, ?_⟩
      · have hs : (bkt (byteOf ys (8 * m)) l n).Pairwise (Low ys m) := h.sublist List.filter_sublist
        refine hs.imp_of_mem ?_
        intro a b ha hb hab
        obtain ⟨ha1, ha2⟩ := List.mem_filter.1 ha
        obtain ⟨hb1, hb2⟩ := List.mem_filter.1 hb
        have ea : byteOf ys (8 * m) a = n := by simpa using ha2
        have eb : byteOf ys (8 * m) b = n := by simpa using hb2
        rw [byte_key ys _ a (hy a ha1)] at ea
        rw [byte_key ys _ b (hy b hb1)] at eb
        unfold Low at hab ⊢
        rw [low_step, low_step, ea, eb]
        omega
      · intro a ha b hb
        obtain ⟨ha1, ha2⟩ := hmem n a ha
        obtain ⟨hb1, hb2⟩ := List.mem_filter.1 hb
        have eb : byteOf ys (8 * m) b = n := by simpa using hb2
        rw [byte_key ys _ a (hy a ha1)] at ha2
        rw [byte_key ys _ b (hy b hb1)] at eb
        left
        rw [low_step, low_step, eb]
        have h1 := hlt (key ys a)
        have h2 := Nat.mul_le_mul_right (2 ^ (8 * m)) (show key ys a / 2 ^ (8 * m) % 256 + 1 ≤ n by omega)
        rw [Nat.add_mul, Nat.one_mul] at h2
        omega
  exact all 256
theorem passL_mem' (f : Int → Nat) (l : List Int) (hf : ∀ x ∈ l, f x < 256) (x : Int) : x ∈ passL f l ↔ x ∈ l := by
  constructor
  · exact passL_mem f l x
  · intro h
    unfold passL passN bkt
    exact List.mem_flatMap.2 ⟨f x, List.mem_range.2 (hf x h), List.mem_filter.2 ⟨h, by simp⟩⟩
theorem iota_mem (n : Nat) (x : Int) : x ∈ iotaL n n ↔ 0 ≤ x ∧ x < n := by
  unfold iotaL
  rw [List.mem_map]
  constructor
  · rintro ⟨i, hi, rfl⟩
    rw [List.mem_range] at hi
    rw [if_pos hi]; omega
  · rintro ⟨h0, h1⟩
    refine ⟨x.toNat, List.mem_range.2 (by omega), ?_⟩
    rw [if_pos (by omega)]; omega
theorem passes_rise (ys : List Int) (hy : ∀ y ∈ ys, 0 ≤ y) (m : Nat) : (passes ys m).Pairwise (Low ys m) ∧ ∀ x, x ∈ passes ys m ↔ 0 ≤ x ∧ x < ys.length := by
  induction m with
  | zero =>
    refine ⟨?_, iota_mem _⟩
    show (iotaL ys.length ys.length).Pairwise _
    unfold iotaL
    rw [List.pairwise_map]
    refine List.pairwise_lt_range.imp_of_mem ?_
    intro a b ha hb hab
    rw [List.mem_range] at ha hb
    rw [if_pos ha, if_pos hb]
    refine Or.inr ⟨?_, by omega⟩
    rw [Nat.mul_zero, Nat.pow_zero, Nat.mod_one, Nat.mod_one]
  | succ m ih =>
    refine ⟨pass_rise ys m _ ?_ ih.1, fun x => ?_⟩
    · intro i hi
      have := (ih.2 i).1 hi
      exact hy _ (by rw [nth_eq 0 ys _ (by omega)]; exact List.getElem_mem _)
    · rw [← ih.2 x]
      exact passL_mem' _ _ (fun x _ => byteOf_lt ..) x

/-! ### all keys lie below the highest bit of all -/
theorem bl_lt (f : Nat) : ∀ u, u < 2 ^ f → u < 2 ^ Lib.bitLenAux f u := by
  induction f with
  | zero => intro u h; simpa [Lib.bitLenAux] using h
  | succ f ih =>
    intro u h
    simp only [Lib.bitLenAux]
    split
    · omega
    · have := ih (u / 2) (by rw [Nat.pow_succ] at h; omega)
      rw [Nat.pow_add]
      omega
theorem bitLen_lt (u : Nat) (h : u ≤ 18446744073709551615) : u < 2 ^ Lib.bitLen u := bl_lt 64 u (by omega)
theorem or_nat (a b : Nat) (ha : a < 18446744073709551616) (hb : b < 18446744073709551616) : bits .or .u64 (a : Int) (b : Int) = ((a ||| b : Nat) : Int) :=
  (bits_nat .u64 64 (by decide) (fun n h0 h1 => by
    simp only [IntKind.wrap, IntKind.bits, IntKind.signed, Bool.false_and]
    simp
    have : n < 18446744073709551616 := h1
    omega) a b ha hb).2
theorem orF_ge (b : Nat) : ∀ (l : List Int) (a : Int), (∀ y ∈ l, 0 ≤ y ∧ y ≤ 18446744073709551615) → 0 ≤ a → a ≤ 18446744073709551615 → (l.foldl (fun a y => bits .or .u64 a y) a).toNat < 2 ^ b → a.toNat < 2 ^ b ∧ ∀ y ∈ l, y.toNat < 2 ^ b
  | [], a, _, _, _, h => ⟨h, by simp⟩
  | y :: l, a, hl, h0, h1, h => by
    rw [List.foldl_cons] at h
    have hy := hl y (List.mem_cons_self ..)
    obtain ⟨g1, g2⟩ := orF_ge b l _ (fun z hz => hl z (List.mem_cons_of_mem _ hz)) (bits_u64 .or a y).1 (bits_u64 .or a y).2 h
    obtain ⟨A, hA⟩ := Int.eq_ofNat_of_zero_le h0
    obtain ⟨Y, hY⟩ := Int.eq_ofNat_of_zero_le hy.1
    rw [hA, hY, or_nat A Y (by omega) (by omega), Int.toNat_natCast] at g1
    have k1 : A < 2 ^ b := Nat.lt_of_le_of_lt Nat.left_le_or g1
    have k2 : Y < 2 ^ b := Nat.lt_of_le_of_lt Nat.right_le_or g1
    refine ⟨by rw [hA]; exact k1, fun z hz => ?_⟩
    rcases List.mem_cons.1 hz with e | e
    · rw [e, hY]; exact k2
    · exact g2 z e
theorem orA_ge (l : List Int) (hl : ∀ y ∈ l, 0 ≤ y ∧ y ≤ 18446744073709551615) (b : Nat) (hb : (orA l).toNat < 2 ^ b) : ∀ y ∈ l, y.toNat < 2 ^ b :=
  (orF_ge b l 0 hl (by omega) (by omega) hb).2

/-- By key, those of one key by place. -/
def By (ys : List Int) (i j : Int) : Prop := nth 0 ys i.toNat < nth 0 ys j.toNat ∨ (nth 0 ys i.toNat = nth 0 ys j.toNat ∧ i < j)
theorem order_rise (ys : List Int) (hy : ∀ y ∈ ys, 0 ≤ y ∧ y ≤ 18446744073709551615) : (orderL ys).Pairwise (By ys) ∧ ∀ x, x ∈ orderL ys ↔ 0 ≤ x ∧ x < ys.length := by
  obtain ⟨h1, h2⟩ := passes_rise ys (fun y h => (hy y h).1) ((Lib.bitLen (orA ys).toNat + 7) / 8)
  refine ⟨?_, h2⟩
  have hr := orA_rng ys
  have hbig : ∀ y ∈ ys, y.toNat < 2 ^ (8 * ((Lib.bitLen (orA ys).toNat + 7) / 8)) := by
    refine orA_ge ys hy _ ?_
    have a1 := bitLen_lt (orA ys).toNat (by omega)
    have a2 : 2 ^ Lib.bitLen (orA ys).toNat ≤ 2 ^ (8 * ((Lib.bitLen (orA ys).toNat + 7) / 8)) := Nat.pow_le_pow_right (by decide) (by omega)
    omega
  refine h1.imp_of_mem ?_
  intro a b ha hb hab
  have ha' := (h2 a).1 ha
  have hb' := (h2 b).1 hb
  have ma : nth 0 ys a.toNat ∈ ys := by rw [nth_eq 0 ys _ (by omega)]; exact List.getElem_mem _
  have mb : nth 0 ys b.toNat ∈ ys := by rw [nth_eq 0 ys _ (by omega)]; exact List.getElem_mem _
  have ka := hbig _ ma
  have kb := hbig _ mb
  have pa := (hy _ ma).1
  have pb := (hy _ mb).1
  unfold Low key at hab
  rw [Nat.mod_eq_of_lt ka, Nat.mod_eq_of_lt kb] at hab
  unfold By
  omega
theorem By.irr (ys : List Int) (a : Int) : ¬ By ys a a := by unfold By; omega
theorem By.asym (ys : List Int) (a b : Int) (h : By ys a b) : ¬ By ys b a := by unfold By at *; omega
theorem order_eq (ys l : List Int) (hy : ∀ y ∈ ys, 0 ≤ y ∧ y ≤ 18446744073709551615) (h1 : l.Pairwise (By ys)) (h2 : ∀ x, x ∈ l ↔ 0 ≤ x ∧ x < ys.length) : l = orderL ys := by
  obtain ⟨g1, g2⟩ := order_rise ys hy
  exact rise_unique (By.irr ys) (By.asym ys) l _ h1 g1 (fun x => by rw [h2, g2])
end Go.Proofs.YtdbaklnjemcfgaaGreatDoor.Rx
