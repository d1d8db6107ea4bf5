/- The law VarintPuts over plain lists: numbers are put and read again. Conditions: the numbers are of 64 bits, the text behind is a string of the machine. -/
import Derived.Test.YtndlcfdlhliljaaPutsRun
import Derived.Test.YtndlcfdlhliljaaVMath
namespace Go.Proofs.Ytndlcfdlhliljaa.Pure
open Go.RowKit Go.Proofs.Ytndlcfdlhliljaa.PVarintPuts Go.Proofs.YtndlcfdlhliljaaW.PrintWords Go.Proofs.YtndlcfdlhliljaaW.PrintLast Go.Proofs.Ytndlcfdlhliljaa.VMath
set_option linter.unusedSimpArgs false
set_option linter.unusedVariables false

theorem put_l0 (u : Nat) : ∀ (k : Nat) (xs : List Int), (enc u).length ≤ k → xs.length + (enc u).length ≤ 140737488355328 → u < 18446744073709551616 →
    varint_put.l0 k xs (u : Int) = some (xs ++ (enc u).map fun b : Nat => (b : Int)) := by
  induction u using Nat.strongRecOn with
  | ind u ih =>
    intro k xs hk hl hu
    have hp := enc_pos u
    obtain ⟨k, rfl⟩ : ∃ m, k = m + 1 := ⟨k - 1, by omega⟩
    simp only [varint_put.l0]
    by_cases h : u < 128
    · rw [enc_lt h] at hl ⊢
      rw [if_neg (by omega), if_pos (by simp at hl; omega)]
      have : (u : Int) % 256 = u := by omega
      rw [this]; rfl
    · rw [enc_ge h] at hl hk ⊢
      simp only [List.length_cons] at hl hk
      rw [if_pos (by omega), if_pos (by omega)]
      have e1 : ((u : Int) / 128) = ((u / 128 : Nat) : Int) := by omega
      have e2 : ((u : Int) % 256) = ((u % 256 : Nat) : Int) := by omega
      rw [e1, e2, or128 (u % 256) (by omega), ih (u / 128) (by omega) k _ (by omega) (by simp; omega) (by omega)]
      have e3 : 128 + u % 256 % 128 = 128 + u % 128 := by omega
      rw [e3]
      simp
theorem put_f (u k : Nat) (xs : List Int) (hk : 10 ≤ k) (hl : xs.length ≤ 100000) (hu : u < 18446744073709551616) :
    varint_put.f k xs (u : Int) = some (xs ++ (enc u).map fun b : Nat => (b : Int)) := by
  have := enc_len10 hu
  exact put_l0 u k xs (by omega) (by omega) hu

theorem refPut_f (u : Nat) : ∀ k, (enc u).length ≤ k → u < 18446744073709551616 → ∃ t, bridlewayref02_Put.f k (u : Int) = some t ∧ bs t = enc u := by
  induction u using Nat.strongRecOn with
  | ind u ih =>
    intro k hk hu
    have hp := enc_pos u
    obtain ⟨k, rfl⟩ : ∃ m, k = m + 1 := ⟨k - 1, by omega⟩
    simp only [bridlewayref02_Put.f]
    by_cases h : u < 128
    · rw [if_pos (by omega)]
      refine ⟨_, rfl, ?_⟩
      rw [enc_lt h]
      have : (u : Int) % 256 = u := by omega
      rw [this]
      exact bs_nums [u] (by simp; omega)
    · rw [if_neg (by omega)]
      rw [enc_ge h] at hk
      simp only [List.length_cons] at hk
      have e1 : Int.tdiv (u : Int) 128 = ((u / 128 : Nat) : Int) := by rw [Int.tdiv_eq_ediv_of_nonneg (by omega)]; omega
      have e2 : Int.tmod (u : Int) 128 = ((u % 128 : Nat) : Int) := by rw [Int.tmod_eq_emod_of_nonneg (by omega)]; omega
      rw [e1, e2, u64_in (n := ((u / 128 : Nat) : Int)) (by omega) (by omega), u64_in (n := 128 + ((u % 128 : Nat) : Int)) (by omega) (by omega)]
      obtain ⟨t, ht, hb⟩ := ih (u / 128) (by omega) k (by omega) (by omega)
      rw [Option.bind_some, ht, Option.bind_some]
      have e3 : (128 + ((u % 128 : Nat) : Int)) % 256 = ((128 + u % 128 : Nat) : Int) := by omega
      rw [e3]
      have hs := bs_nums [128 + u % 128] (by simp; omega)
      have hl : (enc (u / 128)).length ≤ 10 := enc_len10 (by omega)
      have ht2 : t.size = (enc (u / 128)).length := by rw [← hb, bs_length]
      rw [if_pos (by rw [strOfNums_size, ht2]; simp only [List.length_cons, List.length_nil]; omega)]
      refine ⟨_, rfl, ?_⟩
      rw [bs_append, hb, enc_ge h]
      exact congrArg (· ++ enc (u / 128)) hs
theorem refPut_big (u k : Nat) (hk : 10 ≤ k) (hu : u < 18446744073709551616) : ∃ t, bridlewayref02_Put.f k (u : Int) = some t ∧ bs t = enc u :=
  refPut_f u k (by have := enc_len10 hu; omega) hu

/-- A triple of whole numbers, as the machine has it. -/
def c3 (r : Nat × Nat × Nat) : Int × Int × Int := ((r.1 : Int), (r.2.1 : Int), (r.2.2 : Int))

theorem get_l0 (d : Nat) : ∀ (k : Nat) (s : ByteArray) (i u : Nat), i + d = 10 → u < 128 ^ i → s.size ≤ 140737488355328 → 2 * d + 2 ≤ k →
    varint_get.l0 k s (u : Int) (i : Int) = some (c3 (gl ((bs s).drop i) i u)) := by
  induction d with
  | zero =>
    intro k s i u hi hu hs hk
    obtain ⟨k, rfl⟩ : ∃ m, k = m + 1 := ⟨k - 1, by omega⟩
    simp only [varint_get.l0]
    rw [if_neg (by unfold mn; split <;> omega)]
    cases h : (bs s).drop i with
    | nil => rfl
    | cons b t => simp only [gl]; rw [if_pos (by omega)]; rfl
  | succ d ih =>
    intro k s i u hi hu hs hk
    obtain ⟨k, rfl⟩ : ∃ m, k = m + 2 := ⟨k - 2, by omega⟩
    simp only [varint_get.l0]
    by_cases hlt : i < s.size
    · have hlt' : i < (bs s).length := by rw [bs_length]; exact hlt
      rw [if_pos (by unfold mn; split <;> omega), if_pos (by omega), if_pos (by omega)]
      rw [List.drop_eq_getElem_cons hlt']
      rw [bs_bt s i hlt]
      have hb : (bs s)[i] < 256 := bs_lt s _ (List.getElem_mem _)
      generalize (bs s)[i] = b at hb ⊢
      have hj : varint_get.j1 (k + 1) s (u : Int) (i : Int) (b : Int) (decide (i = 9 ∧ 1 < b)) = some (c3 (gl (b :: (bs s).drop (i + 1)) i u)) := by
        simp only [varint_get.j1, gl]
        rw [if_neg (by omega : ¬ 10 ≤ i)]
        by_cases h9 : i = 9 ∧ 1 < b
        · rw [if_pos (by simpa using h9), if_pos h9]; rfl
        · rw [if_neg (by simpa using h9), if_neg h9]
          rw [join u b i (by omega) hb hu h9, wrapS i (by omega), wrap7 i (by omega), u64_nat (7 * i) (by omega), if_pos (Int.natCast_nonneg _)]
          by_cases h128 : 128 ≤ b
          · rw [if_pos (by omega), if_pos h128]
            have e3 : b % 128 = b - 128 := by omega
            rw [e3]
            exact ih k s (i + 1) _ (by omega) (next_lt u b i hb hu) hs (by omega)
          · rw [if_neg (by omega), if_neg h128]
            have e3 : b % 128 = b := by omega
            rw [e3]
            by_cases h0 : b = 0
            · subst h0
              rw [if_pos (by rfl)]
              by_cases hi0 : 0 < i
              · rw [if_pos (by omega), if_pos ⟨rfl, hi0⟩]; rfl
              · rw [if_neg (by omega), if_neg (by omega)]; rfl
            · rw [if_neg (by omega), if_neg (by omega)]; rfl
      by_cases h9 : i = 9
      · rw [if_pos (by omega)]
        have : decide ((b : Int) > 1) = decide (i = 9 ∧ 1 < b) := by
          apply decide_eq_decide.2; omega
        rw [this]; exact hj
      · rw [if_neg (by omega)]
        have : false = decide (i = 9 ∧ 1 < b) := by
          symm; apply decide_eq_false; omega
        rw [this]; exact hj
    · rw [if_neg (by unfold mn; split <;> omega)]
      rw [List.drop_eq_nil_of_le (by rw [bs_length]; omega)]
      rfl
theorem get_f (k : Nat) (s : ByteArray) (hs : s.size ≤ 140737488355328) (hk : 22 ≤ k) : varint_get.f k s = some (c3 (gl (bs s) 0 0)) := by
  have := get_l0 10 k s 0 0 (by omega) (by decide) hs (by omega)
  simpa [varint_get.f] using this

theorem Put_l0 (d : Nat) : ∀ (k : Nat) (l : List Nat) (ys : List Nat) (i : Nat), i + d = l.length → (∀ u ∈ l, u < 18446744073709551616) → ys.length + 10 * d ≤ 100000 → l.length ≤ 100000 → d + 11 ≤ k →
    ∃ zs, varint_Put.l0 k (ys.map fun b : Nat => (b : Int)) (l.map fun b : Nat => (b : Int)) (l.length : Int) (i : Int) = some (strOfNums (zs.map fun b : Nat => (b : Int))) ∧ zs = ys ++ ((l.drop i).map enc).flatten := by
  induction d with
  | zero =>
    intro k l ys i hi hl hy hb hk
    obtain ⟨k, rfl⟩ : ∃ m, k = m + 1 := ⟨k - 1, by omega⟩
    simp only [varint_Put.l0]
    rw [if_neg (by omega)]
    refine ⟨ys, rfl, ?_⟩
    rw [List.drop_eq_nil_of_le (by omega)]; simp
  | succ d ih =>
    intro k l ys i hi hl hy hb hk
    obtain ⟨k, rfl⟩ : ∃ m, k = m + 1 := ⟨k - 1, by omega⟩
    simp only [varint_Put.l0]
    have hlt : i < l.length := by omega
    have hrd : rd (l.map fun b : Nat => (b : Int)) (i : Int) = ((l[i] : Nat) : Int) := by
      unfold rd
      simp [hlt]
    have hu := hl l[i] (List.getElem_mem _)
    rw [if_pos (by omega), if_pos (by omega), if_pos (by rw [List.length_map]; omega), hrd, put_f _ k _ (by omega) (by rw [List.length_map]; omega) hu, Option.bind_some]
    have hlb : l.length ≤ 100000 := hb
    have e1 : wrap64 ((i : Int) + 1) = ((i + 1 : Nat) : Int) := by rw [w64 (by omega) (by omega)]; omega
    rw [e1, ← List.map_append]
    have hle := enc_len10 hu
    obtain ⟨zs, h1, h2⟩ := ih k l (ys ++ enc l[i]) (i + 1) (by omega) hl (by rw [List.length_append]; omega) hb (by omega)
    refine ⟨zs, h1, ?_⟩
    rw [h2, List.drop_eq_getElem_cons hlt, List.map_cons, List.flatten_cons, List.append_assoc]
theorem Put_f (k : Nat) (l : List Nat) (hl : ∀ u ∈ l, u < 18446744073709551616) (hn : l.length ≤ 10000) (hk : l.length + 11 ≤ k) :
    ∃ t, varint_Put.f k (l.map fun b : Nat => (b : Int)) = some t ∧ bs t = (l.map enc).flatten := by
  obtain ⟨zs, h1, h2⟩ := Put_l0 l.length k l [] 0 (by omega) hl (by simp; omega) (by omega) hk
  refine ⟨_, by simpa [varint_Put.f] using h1, ?_⟩
  rw [bs_nums, h2]
  · simp
  · rw [h2]
    intro b hb
    simp only [List.nil_append, List.mem_flatten, List.mem_map] at hb
    obtain ⟨x, ⟨u, _, rfl⟩, hx⟩ := hb
    exact enc_bytes u b hx

theorem Get_f (k : Nat) (s : ByteArray) (hs : s.size ≤ 140737488355328) (hk : 22 ≤ k) : varint_Get.f k s = some (c3 (gl (bs s) 0 0)) := by
  simp only [varint_Get.f, get_f k s hs hk, Option.bind_some]

theorem lives_f (k : Nat) (hk : 50 ≤ k) : bridlewaylaw02_lives.f k = some true := by
  unfold bridlewaylaw02_lives.f
  have hb : bs (⟨#[172, 2, 120]⟩ : ByteArray) = [172, 2, 120] := by decide
  rw [Get_f k _ (by decide) (by omega), Option.bind_some, hb]
  obtain ⟨t, h1, h2⟩ := Put_f k [300] (by simp) (by simp) (by simp; omega)
  have e : [300].map (fun b : Nat => (b : Int)) = ([300] : List Int) := rfl
  rw [e] at h1
  rw [h1, Option.bind_some]
  have hen : enc 300 = [172, 2] := by rw [enc_ge (by decide), enc_lt (by decide)]
  have h3 : t.toList = ([172, 2] : List UInt8) := by
    have h4 : bs t = bs (⟨#[172, 2]⟩ : ByteArray) := by rw [h2]; simp [hen]; decide
    have := bs_inj h4
    rw [this, ByteArray.toList_eq]
  have hg : gl [172, 2, 120] 0 0 = (300, 2, 0) := by
    have := gl_enc 300 [120] 0 0 (by decide) (.inl (by decide))
    rw [hen] at this
    simpa using this
  rw [if_pos h3, hg]
  rfl
theorem Cut_f (s : ByteArray) (n : Nat) (hs : s.size ≤ 140737488355328) : ∃ t, bridlewaylaw02_Cut.f s (n : Int) = some t ∧ t.size ≤ n ∧ bs t = (bs s).take n := by
  unfold bridlewaylaw02_Cut.f
  by_cases h : n < s.size
  · rw [if_pos (by omega), if_pos (by omega), if_pos (by omega)]
    have e : bs (s.extract 0 (n : Int).toNat) = (bs s).take n := by
      rw [bs_extract]
      show List.take ((n : Int).toNat - 0) (List.drop 0 (bs s)) = _
      have : (n : Int).toNat - 0 = n := by omega
      rw [this]; rfl
    refine ⟨_, rfl, ?_, e⟩
    rw [← bs_length, e, List.length_take]; omega
  · rw [if_neg (by omega)]
    refine ⟨_, rfl, by omega, ?_⟩
    rw [List.take_of_length_le (by rw [bs_length]; omega)]

/-- A list of numbers, as the machine has it. -/
def cz (l : List Nat) : List Int := l.map fun b : Nat => (b : Int)
theorem cz_length (l : List Nat) : (cz l).length = l.length := List.length_map ..
theorem rd_cz (l : List Nat) (i : Nat) (h : i < l.length) : rd (cz l) (i : Int) = ((l[i] : Nat) : Int) := by
  unfold rd cz
  simp [h]
theorem cz_snoc (l : List Nat) (i : Nat) (h : i < l.length) : cz (l.take i) ++ [((l[i] : Nat) : Int)] = cz (l.take (i + 1)) := by
  rw [List.take_succ_eq_append_getElem h]
  unfold cz
  rw [List.map_append]; rfl
theorem wrapA (i j : Nat) (h : i + j ≤ 1000000000000000) : wrap64 ((i : Int) + (j : Int)) = ((i + j : Nat) : Int) := by rw [w64 (by omega) (by omega)]; omega

theorem Same_l0 (d : Nat) : ∀ (k : Nat) (l : List Int) (i : Nat), i + d = l.length → l.length ≤ 100000 → d < k → bridlewayref02_Same.l0 k l l (i : Int) = some true := by
  induction d with
  | zero =>
    intro k l i hi hl hk
    obtain ⟨k, rfl⟩ : ∃ m, k = m + 1 := ⟨k - 1, by omega⟩
    simp only [bridlewayref02_Same.l0]
    rw [if_neg (by omega)]
  | succ d ih =>
    intro k l i hi hl hk
    obtain ⟨k, rfl⟩ : ∃ m, k = m + 1 := ⟨k - 1, by omega⟩
    simp only [bridlewayref02_Same.l0]
    rw [if_pos (by omega), if_pos (by omega), if_pos (by omega), if_pos trivial, wrapS i (by omega)]
    exact ih k l (i + 1) (by omega) hl (by omega)
theorem Same_f (k : Nat) (l : List Int) (hl : l.length ≤ 100000) (hk : l.length < k) : bridlewayref02_Same.f k l l = some true := by
  unfold bridlewayref02_Same.f
  rw [if_pos rfl]
  exact Same_l0 l.length k l 0 (by omega) hl hk

theorem Few_l0 (d : Nat) : ∀ (k : Nat) (l : List Nat) (i : Nat), i + d = min 10 l.length → d < k → bridlewaylaw02_Few.l0 k (cz l) 10 (cz (l.take i)) (i : Int) = some (cz (l.take 10)) := by
  induction d with
  | zero =>
    intro k l i hi hk
    obtain ⟨k, rfl⟩ : ∃ m, k = m + 1 := ⟨k - 1, by omega⟩
    simp only [bridlewaylaw02_Few.l0]
    have e : l.take i = l.take 10 := by
      by_cases h : 10 ≤ l.length
      · have : i = 10 := by omega
        rw [this]
      · rw [List.take_of_length_le (by omega), List.take_of_length_le (by omega)]
    rw [e, cz_length]
    by_cases h : (i : Int) < (l.length : Int)
    · rw [if_pos h, if_neg (by omega)]
    · rw [if_neg h]
  | succ d ih =>
    intro k l i hi hk
    obtain ⟨k, rfl⟩ : ∃ m, k = m + 1 := ⟨k - 1, by omega⟩
    simp only [bridlewaylaw02_Few.l0]
    have hlt : i < l.length := by omega
    rw [cz_length, if_pos (by omega), if_pos (by omega), if_pos (by omega), if_pos (by rw [cz_length, List.length_take]; omega), rd_cz l i hlt, cz_snoc l i hlt, wrapS i (by omega)]
    exact ih k l (i + 1) (by omega) (by omega)
theorem Few_f (k : Nat) (l : List Nat) (hk : 11 ≤ k) : bridlewaylaw02_Few.f k (cz l) 10 = some (cz (l.take 10)) := by
  have := Few_l0 (min 10 l.length) k l 0 (by omega) (by omega)
  simpa [bridlewaylaw02_Few.f, cz] using this

/-- All bytes of numbers. -/
def encs (l : List Nat) : List Nat := (l.map enc).flatten
theorem encs_cons (u : Nat) (l : List Nat) : encs (u :: l) = enc u ++ encs l := rfl
theorem encs_le (l : List Nat) (h : ∀ u ∈ l, u < 18446744073709551616) : (encs l).length ≤ 10 * l.length := by
  induction l with
  | nil => simp [encs]
  | cons u l ih =>
    rw [encs_cons, List.length_append, List.length_cons]
    have := ih (fun x hx => h x (List.mem_cons_of_mem _ hx))
    have := enc_len10 (h u List.mem_cons_self)
    omega
theorem encs_take (l : List Nat) (i : Nat) (h : i < l.length) : encs (l.take (i + 1)) = encs (l.take i) ++ enc l[i] := by
  rw [List.take_succ_eq_append_getElem h]
  unfold encs
  rw [List.map_append, List.flatten_append]
  simp

theorem PutAll_l0 (d : Nat) : ∀ (k : Nat) (l : List Nat) (t : ByteArray) (i : Nat), i + d = l.length → l.length ≤ 100 → (∀ u ∈ l, u < 18446744073709551616) → bs t = encs (l.take i) → d + 11 ≤ k →
    ∃ r, bridlewayref02_PutAll.l0 k (cz l) t (i : Int) = some r ∧ bs r = encs l := by
  induction d with
  | zero =>
    intro k l t i hi hl hu ht hk
    obtain ⟨k, rfl⟩ : ∃ m, k = m + 1 := ⟨k - 1, by omega⟩
    simp only [bridlewayref02_PutAll.l0]
    rw [cz_length, if_neg (by omega)]
    refine ⟨t, rfl, ?_⟩
    rw [ht, List.take_of_length_le (by omega)]
  | succ d ih =>
    intro k l t i hi hl hu ht hk
    obtain ⟨k, rfl⟩ : ∃ m, k = m + 1 := ⟨k - 1, by omega⟩
    simp only [bridlewayref02_PutAll.l0]
    have hlt : i < l.length := by omega
    have hui := hu l[i] (List.getElem_mem _)
    obtain ⟨p, p1, p2⟩ := refPut_big l[i] k (by omega) hui
    have hp : p.size ≤ 10 := by rw [← bs_length, p2]; exact enc_len10 hui
    have htl : t.size ≤ 1000 := by
      rw [← bs_length, ht]
      have := encs_le (l.take i) (fun u hx => hu u (List.mem_of_mem_take hx))
      rw [List.length_take] at this; omega
    rw [cz_length, if_pos (by omega), if_pos (by omega), rd_cz l i hlt, p1, Option.bind_some, if_pos (by omega), wrapS i (by omega)]
    exact ih k l (t ++ p) (i + 1) (by omega) hl hu (by rw [bs_append, ht, p2, encs_take l i hlt]) (by omega)
theorem PutAll_f (k : Nat) (l : List Nat) (hl : l.length ≤ 100) (hu : ∀ u ∈ l, u < 18446744073709551616) (hk : 120 ≤ k) : ∃ r, bridlewayref02_PutAll.f k (cz l) = some r ∧ bs r = encs l :=
  PutAll_l0 l.length k l _ 0 (by omega) hl hu (by rfl) (by omega)

theorem List_enc (d : Nat) : ∀ (k : Nat) (s : ByteArray) (l r : List Nat) (i : Nat), i + d = l.length → l.length ≤ 100 → s.size ≤ 100000 → (∀ u ∈ l, u < 18446744073709551616) → bs s = encs l ++ r → d + 30 ≤ k →
    varint_List.l0 k s (l.length : Int) (cz (l.take i)) (((encs (l.take i)).length : Nat) : Int) = some (cz l, (((encs l).length : Nat) : Int), 0) := by
  induction d with
  | zero =>
    intro k s l r i hi hl hs hu hb hk
    obtain ⟨k, rfl⟩ : ∃ m, k = m + 1 := ⟨k - 1, by omega⟩
    simp only [varint_List.l0]
    rw [List.take_of_length_le (by omega), cz_length, if_neg (by omega)]
  | succ d ih =>
    intro k s l r i hi hl hs hu hb hk
    obtain ⟨k, rfl⟩ : ∃ m, k = m + 1 := ⟨k - 1, by omega⟩
    simp only [varint_List.l0]
    have hlt : i < l.length := by omega
    have hsplit : encs l = encs (l.take i) ++ encs (l.drop i) := by
      conv => lhs; rw [← List.take_append_drop i l]
      unfold encs
      rw [List.map_append, List.flatten_append]
    have hsz : (encs l).length ≤ s.size := by rw [← bs_length, hb, List.length_append]; omega
    have hle : (encs (l.take i)).length ≤ s.size := by rw [hsplit, List.length_append] at hsz; omega
    have htl : (cz (l.take i)).length = i := by rw [cz_length, List.length_take]; omega
    have hex : bs (s.extract ((((encs (l.take i)).length : Nat) : Int)).toNat s.size) = enc l[i] ++ (encs (l.drop (i + 1)) ++ r) := by
      rw [bs_extract, hb]
      have : ((((encs (l.take i)).length : Nat) : Int)).toNat = (encs (l.take i)).length := by omega
      rw [this, hsplit, List.append_assoc, List.drop_left, List.drop_eq_getElem_cons hlt, encs_cons, List.append_assoc, List.take_of_length_le]
      rw [← bs_length, hb, hsplit, List.drop_eq_getElem_cons hlt, encs_cons]
      simp only [List.length_append]; omega
    have hes : (s.extract ((((encs (l.take i)).length : Nat) : Int)).toNat s.size).size ≤ 100000 := by
      have : (s.extract ((((encs (l.take i)).length : Nat) : Int)).toNat s.size).size ≤ s.size := by rw [ByteArray.size_extract]; omega
      omega
    have hui := hu l[i] (List.getElem_mem _)
    rw [htl, if_pos (by omega), if_pos (Int.natCast_nonneg _), if_pos (by omega), get_f k _ (by omega) (by omega), Option.bind_some, hex, gl_enc l[i] _ 0 0 (by simpa using hui) (.inr rfl)]
    have e0 : (c3 (0 + l[i] * 128 ^ 0, 0 + (enc l[i]).length, 0)) = (((l[i] : Nat) : Int), (((enc l[i]).length : Nat) : Int), (0 : Int)) := by simp [c3]
    rw [e0, if_pos rfl, if_pos (by omega)]
    have e1 : wrap64 ((((encs (l.take i)).length : Nat) : Int) + (((enc l[i]).length : Nat) : Int)) = (((encs (l.take (i + 1))).length : Nat) : Int) := by
      have := enc_len10 hui
      rw [wrapA _ _ (by omega), encs_take l i hlt, List.length_append]
    show varint_List.l0 k s (l.length : Int) (cz (l.take i) ++ [((l[i] : Nat) : Int)]) (wrap64 ((((encs (l.take i)).length : Nat) : Int) + (((enc l[i]).length : Nat) : Int))) = _
    rw [e1, cz_snoc l i hlt]
    exact ih k s l r (i + 1) (by omega) hl hs hu hb (by omega)
theorem List_f (k : Nat) (s : ByteArray) (l r : List Nat) (hl : l.length ≤ 100) (hs : s.size ≤ 100000) (hu : ∀ u ∈ l, u < 18446744073709551616) (hb : bs s = encs l ++ r) (hk : 150 ≤ k) :
    varint_List.f k s (l.length : Int) = some (cz l, (((encs l).length : Nat) : Int), 0) := by
  unfold varint_List.f
  rw [if_neg (by omega)]
  exact List_enc l.length k s l r 0 (by omega) hl hs hu hb (by omega)

/-! ### how many bytes -/
theorem bl_le (j : Nat) : ∀ f u, u < 2 ^ j → Lib.bitLenAux f u ≤ j := by
  induction j with
  | zero =>
    intro f u h
    have : u = 0 := by simpa using h
    subst this
    cases f <;> simp [Lib.bitLenAux]
  | succ j ih =>
    intro f u h
    cases f with
    | zero => simp [Lib.bitLenAux]
    | succ f =>
      simp only [Lib.bitLenAux]
      split
      · omega
      · have := ih f (u / 2) (by rw [Nat.pow_succ] at h; omega)
        omega
theorem bl_seven (f u : Nat) (h : 128 ≤ u) : Lib.bitLenAux (f + 7) u = 7 + Lib.bitLenAux f (u / 128) := by
  simp only [Lib.bitLenAux]
  rw [if_neg (by omega), if_neg (by omega), if_neg (by omega), if_neg (by omega), if_neg (by omega), if_neg (by omega), if_neg (by omega)]
  have : u / 2 / 2 / 2 / 2 / 2 / 2 / 2 = u / 128 := by omega
  rw [this]; omega
theorem bl_pos (f u : Nat) (h : 0 < u) (hf : 0 < f) : 0 < Lib.bitLenAux f u := by
  obtain ⟨f, rfl⟩ : ∃ m, f = m + 1 := ⟨f - 1, by omega⟩
  simp only [Lib.bitLenAux]
  rw [if_neg (by omega)]; omega
theorem bl_enc (u : Nat) : ∀ f, u < 2 ^ f → (Lib.bitLenAux f u - 1) / 7 + 1 = (enc u).length := by
  induction u using Nat.strongRecOn with
  | ind u ih =>
    intro f hf
    by_cases h : u < 128
    · rw [enc_lt h]
      have := bl_le 7 f u h
      simp; omega
    · rw [enc_ge h]
      have h7 : 7 < f := by
        apply Nat.lt_of_not_le
        intro hle
        have : (2 : Nat) ^ f ≤ 2 ^ 7 := Nat.pow_le_pow_right (by decide) hle
        omega
      obtain ⟨g, rfl⟩ : ∃ m, f = m + 7 := ⟨f - 7, by omega⟩
      have hg : u / 128 < 2 ^ g := by
        rw [Nat.pow_add] at hf
        omega
      have := ih (u / 128) (by omega) g hg
      have hp := bl_pos g (u / 128) (by omega) (by omega)
      rw [bl_seven g u (by omega), List.length_cons]
      omega
theorem Size_f (k u : Nat) (hu : u < 18446744073709551616) : varint_Size.f k (u : Int) = some (((enc u).length : Nat) : Int) := by
  unfold varint_Size.f bits_Log.f bits_Len64.f
  have e : ((u : Int)).toNat = u := by omega
  rw [if_pos (by omega), if_pos (by omega), Option.bind_some, Option.bind_some, e]
  have hb := bl_enc u 64 (by omega)
  have hle := bl_le 64 64 u (by omega)
  have hl : Lib.bitLen u = Lib.bitLenAux 64 u := rfl
  rw [hl, w64 (n := ((Lib.bitLenAux 64 u : Nat) : Int) - 1) (by omega) (by omega)]
  have em : mx (((Lib.bitLenAux 64 u : Nat) : Int) - 1) 0 = ((Lib.bitLenAux 64 u - 1 : Nat) : Int) := by unfold mx; split <;> omega
  rw [em]
  have ed : ((Lib.bitLenAux 64 u - 1 : Nat) : Int) / 7 = (((Lib.bitLenAux 64 u - 1) / 7 : Nat) : Int) := by omega
  rw [ed, w64 (n := (((Lib.bitLenAux 64 u - 1) / 7 : Nat) : Int)) (by omega) (by omega), w64 (by omega) (by omega), ← hb]
  congr 1

theorem Puts_l0 (d : Nat) : ∀ (k : Nat) (l : List Nat) (c t : ByteArray) (i : Nat), i + d = l.length → l.length ≤ 100 → c.size ≤ 10 → (∀ u ∈ l, u < 18446744073709551616) → bs t = encs l → d + 200 ≤ k →
    bridlewaylaw02_VarintPuts.l0 k (cz l) c t (i : Int) = some true := by
  induction d with
  | zero =>
    intro k l c t i hi hl hc hu ht hk
    obtain ⟨k, rfl⟩ : ∃ m, k = m + 1 := ⟨k - 1, by omega⟩
    have hsz : t.size ≤ 1000 := by rw [← bs_length, ht]; have := encs_le l hu; omega
    simp only [bridlewaylaw02_VarintPuts.l0]
    have hb : bs (t ++ c) = encs l ++ bs c := by rw [bs_append, ht]
    rw [cz_length, if_neg (by omega), if_pos (by omega), List_f k (t ++ c) l (bs c) hl (by rw [ByteArray.size_append]; omega) hu hb (by omega), Option.bind_some, Same_f k (cz l) (by rw [cz_length]; omega) (by rw [cz_length]; omega), Option.bind_some, if_pos rfl]
    rw [if_pos (by show (((encs l).length : Nat) : Int) = _; rw [← bs_length, ht]), if_pos rfl, lives_f k (by omega)]
    rfl
  | succ d ih =>
    intro k l c t i hi hl hc hu ht hk
    obtain ⟨k, rfl⟩ : ∃ m, k = m + 1 := ⟨k - 1, by omega⟩
    simp only [bridlewaylaw02_VarintPuts.l0]
    have hlt : i < l.length := by omega
    have hui := hu l[i] (List.getElem_mem _)
    obtain ⟨p, p1, p2⟩ := refPut_big l[i] k (by omega) hui
    rw [cz_length, if_pos (by omega), if_pos (by omega), rd_cz l i hlt, Size_f k l[i] hui, Option.bind_some, p1, Option.bind_some, if_pos (by rw [← bs_length, p2]), wrapS i (by omega)]
    exact ih k l c t (i + 1) (by omega) hl hc hu ht (by omega)

theorem of_wf (l : List Int) (h : ∀ x ∈ l, (Lit.int .u64 x).wf = true) : ∃ n : List Nat, l = cz n ∧ ∀ u ∈ n, u < 18446744073709551616 := by
  induction l with
  | nil => exact ⟨[], rfl, by simp⟩
  | cons x l ih =>
    obtain ⟨n, rfl, hn⟩ := ih (fun y hy => h y (List.mem_cons_of_mem _ hy))
    have hx := h x List.mem_cons_self
    simp [Lit.wf, IntKind.min, IntKind.max, IntKind.signed, IntKind.bits] at hx
    refine ⟨x.toNat :: n, ?_, ?_⟩
    · unfold cz
      rw [List.map_cons]
      congr 1
      omega
    · intro u hu
      rcases List.mem_cons.1 hu with h | h
      · omega
      · exact hn u h

theorem VarintPuts : bridlewaylaw02_VarintPuts.Pure := by
  intro l0 b0 _ _ wl hb0
  obtain ⟨n, rfl, hn⟩ := of_wf l0 wl
  refine ⟨1000, ?_⟩
  unfold bridlewaylaw02_VarintPuts.f
  obtain ⟨c, hc1, hc2, -⟩ := Cut_f b0 10 (by omega)
  have hc1' : bridlewaylaw02_Cut.f b0 10 = some c := hc1
  have hm : ∀ u ∈ n.take 10, u < 18446744073709551616 := fun u hu => hn u (List.mem_of_mem_take hu)
  have hl : (n.take 10).length ≤ 10 := by rw [List.length_take]; omega
  obtain ⟨t, t1, t2⟩ := Put_f 1000 (n.take 10) hm (by omega) (by omega)
  obtain ⟨r, r1, r2⟩ := PutAll_f 1000 (n.take 10) (by omega) hm (by omega)
  have e10 : (n.take 10).take 10 = n.take 10 := by rw [List.take_take]; simp
  rw [Few_f 1000 n (by omega), Option.bind_some, hc1', Option.bind_some, Few_f 1000 (n.take 10) (by omega), Option.bind_some, e10]
  have t1' : varint_Put.f 1000 (cz (n.take 10)) = some t := t1
  rw [t1', Option.bind_some, r1, Option.bind_some, if_pos (bs_inj (by rw [t2, r2]; rfl))]
  exact Puts_l0 (n.take 10).length 1000 (n.take 10) c t 0 (by omega) (by omega) hc2 hm (by rw [t2]; rfl) (by omega)

end Go.Proofs.Ytndlcfdlhliljaa.Pure
