/- The law VarintGets over plain lists: what any bytes begin with. Conditions: the text is a string of the machine, the count is of 64 bits. -/
import Derived.Test.YtndlcfdlhliljaaPVarintGetsx4
import Derived.Test.YtndlcfdlhliljaaVMath
namespace Go.Proofs.Ytndlcfdlhliljaa.Pure
open Go.RowKit Go.Proofs.Ytndlcfdlhliljaa.PVarintGets Go.Proofs.YtndlcfdlhliljaaW.PrintWords Go.Proofs.YtndlcfdlhliljaaW.PrintLast Go.Proofs.Ytndlcfdlhliljaa.VMath
set_option linter.unusedSimpArgs false
set_option linter.unusedVariables false

theorem put_l0 (u : Nat) : ∀ (k : Nat) (xs : List Int), (enc u).length ≤ k → xs.length + (enc u).length ≤ 140737488355328 → u < 18446744073709551616 →
    varint_put.l0 k xs (u : Int) = some (xs ++ (enc u).map fun b : Nat => (b : Int)) := by
  induction u using Nat.strongRecOn with
  | ind u ih =>
    intro k xs hk hl hu
    have hp := enc_pos u
    obtain ⟨k, rfl⟩ : ∃ m, k = m + 1 := ⟨k - 1, by omega⟩
    simp only [varint_put.l0]
    by_cases h : u < 128
    · rw [enc_lt h] at hl ⊢
      rw [if_neg (by omega), if_pos (by simp at hl; omega)]
      have : (u : Int) % 256 = u := by omega
      rw [this]; rfl
    · rw [enc_ge h] at hl hk ⊢
      simp only [List.length_cons] at hl hk
      rw [if_pos (by omega), if_pos (by omega)]
      have e1 : ((u : Int) / 128) = ((u / 128 : Nat) : Int) := by omega
      have e2 : ((u : Int) % 256) = ((u % 256 : Nat) : Int) := by omega
      rw [e1, e2, or128 (u % 256) (by omega), ih (u / 128) (by omega) k _ (by omega) (by simp; omega) (by omega)]
      have e3 : 128 + u % 256 % 128 = 128 + u % 128 := by omega
      rw [e3]
      simp
theorem put_f (u k : Nat) (xs : List Int) (hk : 10 ≤ k) (hl : xs.length ≤ 100000) (hu : u < 18446744073709551616) :
    varint_put.f k xs (u : Int) = some (xs ++ (enc u).map fun b : Nat => (b : Int)) := by
  have := enc_len10 hu
  exact put_l0 u k xs (by omega) (by omega) hu

theorem refPut_f (u : Nat) : ∀ k, (enc u).length ≤ k → u < 18446744073709551616 → ∃ t, bridlewayref02_Put.f k (u : Int) = some t ∧ bs t = enc u := by
  induction u using Nat.strongRecOn with
  | ind u ih =>
    intro k hk hu
    have hp := enc_pos u
    obtain ⟨k, rfl⟩ : ∃ m, k = m + 1 := ⟨k - 1, by omega⟩
    simp only [bridlewayref02_Put.f]
    by_cases h : u < 128
    · rw [if_pos (by omega)]
      refine ⟨_, rfl, ?_⟩
      rw [enc_lt h]
      have : (u : Int) % 256 = u := by omega
      rw [this]
      exact bs_nums [u] (by simp; omega)
    · rw [if_neg (by omega)]
      rw [enc_ge h] at hk
      simp only [List.length_cons] at hk
      have e1 : Int.tdiv (u : Int) 128 = ((u / 128 : Nat) : Int) := by rw [Int.tdiv_eq_ediv_of_nonneg (by omega)]; omega
      have e2 : Int.tmod (u : Int) 128 = ((u % 128 : Nat) : Int) := by rw [Int.tmod_eq_emod_of_nonneg (by omega)]; omega
      rw [e1, e2, u64_in (n := ((u / 128 : Nat) : Int)) (by omega) (by omega), u64_in (n := 128 + ((u % 128 : Nat) : Int)) (by omega) (by omega)]
      obtain ⟨t, ht, hb⟩ := ih (u / 128) (by omega) k (by omega) (by omega)
      rw [Option.bind_some, ht, Option.bind_some]
      have e3 : (128 + ((u % 128 : Nat) : Int)) % 256 = ((128 + u % 128 : Nat) : Int) := by omega
      rw [e3]
      have hs := bs_nums [128 + u % 128] (by simp; omega)
      have hl : (enc (u / 128)).length ≤ 10 := enc_len10 (by omega)
      have ht2 : t.size = (enc (u / 128)).length := by rw [← hb, bs_length]
      rw [if_pos (by rw [strOfNums_size, ht2]; simp only [List.length_cons, List.length_nil]; omega)]
      refine ⟨_, rfl, ?_⟩
      rw [bs_append, hb, enc_ge h]
      exact congrArg (· ++ enc (u / 128)) hs
theorem refPut_big (u k : Nat) (hk : 10 ≤ k) (hu : u < 18446744073709551616) : ∃ t, bridlewayref02_Put.f k (u : Int) = some t ∧ bs t = enc u :=
  refPut_f u k (by have := enc_len10 hu; omega) hu

def c3 (r : Nat × Nat × Nat) : Int × Int × Int := ((r.1 : Int), (r.2.1 : Int), (r.2.2 : Int))

theorem get_l0 (d : Nat) : ∀ (k : Nat) (s : ByteArray) (i u : Nat), i + d = 10 → u < 128 ^ i → s.size ≤ 140737488355328 → 2 * d + 2 ≤ k →
    varint_get.l0 k s (u : Int) (i : Int) = some (c3 (gl ((bs s).drop i) i u)) := by
  induction d with
  | zero =>
    intro k s i u hi hu hs hk
    obtain ⟨k, rfl⟩ : ∃ m, k = m + 1 := ⟨k - 1, by omega⟩
    simp only [varint_get.l0]
    rw [if_neg (by unfold mn; split <;> omega)]
    cases h : (bs s).drop i with
    | nil => rfl
    | cons b t => simp only [gl]; rw [if_pos (by omega)]; rfl
  | succ d ih =>
    intro k s i u hi hu hs hk
    obtain ⟨k, rfl⟩ : ∃ m, k = m + 2 := ⟨k - 2, by omega⟩
    simp only [varint_get.l0]
    by_cases hlt : i < s.size
    · have hlt' : i < (bs s).length := by rw [bs_length]; exact hlt
      rw [if_pos (by unfold mn; split <;> omega), if_pos (by omega), if_pos (by omega)]
      rw [List.drop_eq_getElem_cons hlt']
      rw [bs_bt s i hlt]
      have hb : (bs s)[i] < 256 := bs_lt s _ (List.getElem_mem _)
      generalize (bs s)[i] = b at hb ⊢
      have hj : varint_get.j1 (k + 1) s (u : Int) (i : Int) (b : Int) (decide (i = 9 ∧ 1 < b)) = some (c3 (gl (b :: (bs s).drop (i + 1)) i u)) := by
        simp only [varint_get.j1, gl]
        rw [if_neg (by omega : ¬ 10 ≤ i)]
        by_cases h9 : i = 9 ∧ 1 < b
        · rw [if_pos (by simpa using h9), if_pos h9]; rfl
        · rw [if_neg (by simpa using h9), if_neg h9]
          rw [join u b i (by omega) hb hu h9, wrapS i (by omega), wrap7 i (by omega), u64_nat (7 * i) (by omega), if_pos (Int.natCast_nonneg _)]
          by_cases h128 : 128 ≤ b
          · rw [if_pos (by omega), if_pos h128]
            have e3 : b % 128 = b - 128 := by omega
            rw [e3]
            exact ih k s (i + 1) _ (by omega) (next_lt u b i hb hu) hs (by omega)
          · rw [if_neg (by omega), if_neg h128]
            have e3 : b % 128 = b := by omega
            rw [e3]
            by_cases h0 : b = 0
            · subst h0
              rw [if_pos (by rfl)]
              by_cases hi0 : 0 < i
              · rw [if_pos (by omega), if_pos ⟨rfl, hi0⟩]; rfl
              · rw [if_neg (by omega), if_neg (by omega)]; rfl
            · rw [if_neg (by omega), if_neg (by omega)]; rfl
      by_cases h9 : i = 9
      · rw [if_pos (by omega)]
        have : decide ((b : Int) > 1) = decide (i = 9 ∧ 1 < b) := by
          apply decide_eq_decide.2; omega
        rw [this]; exact hj
      · rw [if_neg (by omega)]
        have : false = decide (i = 9 ∧ 1 < b) := by
          symm; apply decide_eq_false; omega
        rw [this]; exact hj
    · rw [if_neg (by unfold mn; split <;> omega)]
      rw [List.drop_eq_nil_of_le (by rw [bs_length]; omega)]
      rfl
theorem get_f (k : Nat) (s : ByteArray) (hs : s.size ≤ 140737488355328) (hk : 22 ≤ k) : varint_get.f k s = some (c3 (gl (bs s) 0 0)) := by
  have := get_l0 10 k s 0 0 (by omega) (by decide) hs (by omega)
  simpa [varint_get.f] using this

theorem refGet_l0 (d : Nat) : ∀ (k : Nat) (s : ByteArray) (i : Nat) (p : Int), i + d = 10 → i ≤ s.size → s.size ≤ 140737488355328 → (i ≤ 9 → p = ((128 ^ i : Nat) : Int)) → (∀ b ∈ (bs s).take i, 128 ≤ b ∧ b < 256) → 3 * d + 20 ≤ k →
    bridlewayref02_Get.l0 k s (dl ((bs s).take i) : Int) p (i : Int) = some (c3 (gl ((bs s).drop i) i (dl ((bs s).take i)))) := by
  induction d with
  | zero =>
    intro k s i p hi hi2 hs hp hpre hk
    obtain ⟨k, rfl⟩ : ∃ m, k = m + 2 := ⟨k - 2, by omega⟩
    have hj : ∀ x, bridlewayref02_Get.j1 (k + 1) s x p (i : Int) false = some (0, 0, 7) := by
      intro x; simp only [bridlewayref02_Get.j1]; rw [if_neg (by simp)]
    simp only [bridlewayref02_Get.l0]
    have : gl ((bs s).drop i) i (dl ((bs s).take i)) = (0, 0, 7) := by
      cases h : (bs s).drop i with
      | nil => rfl
      | cons b t => simp only [gl]; rw [if_pos (by omega)]
    rw [this]
    have e : decide ((i : Int) < 10) = false := decide_eq_false (by omega)
    rw [e, hj, ite_self]; rfl
  | succ d ih =>
    intro k s i p hi hi2 hs hp hpre hk
    obtain ⟨k, rfl⟩ : ∃ m, k = m + 3 := ⟨k - 3, by omega⟩
    have hp' := hp (by omega)
    subst hp'
    simp only [bridlewayref02_Get.l0]
    by_cases hlt : i < s.size
    · have hlt' : i < (bs s).length := by rw [bs_length]; exact hlt
      rw [if_pos (by omega)]
      have e : decide ((i : Int) < 10) = true := decide_eq_true (by omega)
      rw [e]
      simp only [bridlewayref02_Get.j1]
      rw [if_pos trivial, if_pos (by omega), if_pos (by omega)]
      have htk : (bs s).take (i + 1) = (bs s).take i ++ [(bs s)[i]] := List.take_succ_eq_append_getElem hlt'
      have hlen : ((bs s).take i).length = i := by rw [List.length_take]; omega
      rw [List.drop_eq_getElem_cons hlt', bs_bt s i hlt]
      have hb : (bs s)[i] < 256 := bs_lt s _ (List.getElem_mem _)
      have hdl : dl ((bs s).take i) < 128 ^ i := by
        have := dl_lt ((bs s).take i) hpre
        rwa [hlen] at this
      generalize hB : (bs s)[i] = b at hb htk ⊢
      have etm : Int.tmod (IntKind.u64.wrap (b : Int)) 128 = ((b % 128 : Nat) : Int) := by
        rw [u64_in (by omega) (by omega), Int.tmod_eq_emod_of_nonneg (by omega)]; omega
      rw [etm]
      have hj : bridlewayref02_Get.j2 (k + 1) s (dl ((bs s).take i) : Int) ((128 ^ i : Nat) : Int) (i : Int) ((b % 128 : Nat) : Int) (decide (i = 9 ∧ 1 < b)) = some (c3 (gl (b :: (bs s).drop (i + 1)) i (dl ((bs s).take i)))) := by
        simp only [bridlewayref02_Get.j2, gl]
        rw [if_neg (by omega : ¬ 10 ≤ i)]
        by_cases h9 : i = 9 ∧ 1 < b
        · rw [if_pos (by simpa using h9), if_pos h9]; rfl
        · rw [if_neg (by simpa using h9), if_neg h9, if_pos (by omega), if_pos (by omega)]
          have hsum := sum_lt _ b i (by omega) hb hdl h9
          rw [← Int.natCast_mul, u64_nat _ (place_lt b i (by omega) hb h9), ← Int.natCast_add, u64_nat _ hsum, wrapS i (by omega), bs_bt s i hlt, hB]
          by_cases h128 : 128 ≤ b
          · rw [if_pos (by omega), if_pos h128]
            have e3 : b % 128 = b - 128 := by omega
            have e4 : dl ((bs s).take i) + (b - 128) * 128 ^ i = dl ((bs s).take (i + 1)) := by
              rw [htk, dl_snoc, hlen]
            rw [e3, e4]
            refine ih k s (i + 1) _ (by omega) (by omega) hs ?_ ?_ (by omega)
            · intro h9'
              have e5 : ((128 ^ i : Nat) : Int) * 128 = ((128 ^ (i + 1) : Nat) : Int) := by rw [Nat.pow_succ]; push_cast; rfl
              rw [e5]
              refine u64_nat _ ?_
              have h1 : (128 : Nat) ^ (i + 1) ≤ 128 ^ 9 := Nat.pow_le_pow_right (by decide) h9'
              rw [pow9] at h1
              omega
            · intro y hy
              rw [htk] at hy
              rcases List.mem_append.1 hy with hy | hy
              · exact hpre y hy
              · simp at hy; omega
          · rw [if_neg (by omega), if_neg h128]
            have e3 : b % 128 = b := by omega
            rw [e3] at hsum ⊢
            obtain ⟨t, ht, htb⟩ := refPut_big (dl ((bs s).take i) + b * 128 ^ i) k (by omega) hsum
            rw [ht, Option.bind_some, if_pos (by omega), if_pos (by omega)]
            have ex : bs (s.extract 0 ((i + 1 : Nat) : Int).toNat) = (bs s).take i ++ [b] := by
              rw [bs_extract, ← htk]
              show List.take (((i + 1 : Nat) : Int).toNat - 0) (List.drop 0 (bs s)) = _
              have : ((i + 1 : Nat) : Int).toNat - 0 = i + 1 := by omega
              rw [this]; rfl
            by_cases h0 : b = 0 ∧ 0 < i
            · rw [if_neg, if_pos h0]
              · rfl
              · intro hh
                have := toList_bs hh
                rw [ex, htb] at this
                obtain ⟨rfl, hi0⟩ := h0
                refine enc_not_zero _ _ ?_ this
                intro hnil
                rw [hnil] at hlen; simp at hlen; omega
            · rw [if_pos, if_neg h0]
              · rfl
              · apply bs_inj
                rw [ex, htb]
                have := enc_dl ((bs s).take i) b hpre (by omega) (by
                  by_cases hb0 : 0 < b
                  · exact .inl hb0
                  · right
                    have : i = 0 := by omega
                    subst this; rfl)
                rw [hlen] at this
                exact this
      by_cases h9 : i = 9
      · rw [if_pos (by omega)]
        have : decide ((b : Int) > 1) = decide (i = 9 ∧ 1 < b) := by
          apply decide_eq_decide.2; omega
        rw [this]; exact hj
      · rw [if_neg (by omega)]
        have : false = decide (i = 9 ∧ 1 < b) := by
          symm; apply decide_eq_false; omega
        rw [this]; exact hj
    · rw [if_neg (by omega)]
      simp only [bridlewayref02_Get.j1]
      rw [if_neg (by simp)]
      rw [List.drop_eq_nil_of_le (by rw [bs_length]; omega)]
      rfl
theorem refGet_f (k : Nat) (s : ByteArray) (hs : s.size ≤ 140737488355328) (hk : 50 ≤ k) : bridlewayref02_Get.f k s = some (c3 (gl (bs s) 0 0)) := by
  have := refGet_l0 10 k s 0 1 (by omega) (by omega) hs (by intro _; rfl) (by simp) (by omega)
  simpa [bridlewayref02_Get.f, dl] using this

theorem Put_l0 (d : Nat) : ∀ (k : Nat) (l : List Nat) (ys : List Nat) (i : Nat), i + d = l.length → (∀ u ∈ l, u < 18446744073709551616) → ys.length + 10 * d ≤ 100000 → l.length ≤ 100000 → d + 11 ≤ k →
    ∃ zs, varint_Put.l0 k (ys.map fun b : Nat => (b : Int)) (l.map fun b : Nat => (b : Int)) (l.length : Int) (i : Int) = some (strOfNums (zs.map fun b : Nat => (b : Int))) ∧ zs = ys ++ ((l.drop i).map enc).flatten := by
  induction d with
  | zero =>
    intro k l ys i hi hl hy hb hk
    obtain ⟨k, rfl⟩ : ∃ m, k = m + 1 := ⟨k - 1, by omega⟩
    simp only [varint_Put.l0]
    rw [if_neg (by omega)]
    refine ⟨ys, rfl, ?_⟩
    rw [List.drop_eq_nil_of_le (by omega)]; simp
  | succ d ih =>
    intro k l ys i hi hl hy hb hk
    obtain ⟨k, rfl⟩ : ∃ m, k = m + 1 := ⟨k - 1, by omega⟩
    simp only [varint_Put.l0]
    have hlt : i < l.length := by omega
    have hrd : rd (l.map fun b : Nat => (b : Int)) (i : Int) = ((l[i] : Nat) : Int) := by
      unfold rd
      simp [hlt]
    have hu := hl l[i] (List.getElem_mem _)
    rw [if_pos (by omega), if_pos (by omega), if_pos (by rw [List.length_map]; omega), hrd, put_f _ k _ (by omega) (by rw [List.length_map]; omega) hu, Option.bind_some]
    have hlb : l.length ≤ 100000 := hb
    have e1 : wrap64 ((i : Int) + 1) = ((i + 1 : Nat) : Int) := by rw [w64 (by omega) (by omega)]; omega
    rw [e1, ← List.map_append]
    have hle := enc_len10 hu
    obtain ⟨zs, h1, h2⟩ := ih k l (ys ++ enc l[i]) (i + 1) (by omega) hl (by rw [List.length_append]; omega) hb (by omega)
    refine ⟨zs, h1, ?_⟩
    rw [h2, List.drop_eq_getElem_cons hlt, List.map_cons, List.flatten_cons, List.append_assoc]
theorem Put_f (k : Nat) (l : List Nat) (hl : ∀ u ∈ l, u < 18446744073709551616) (hn : l.length ≤ 10000) (hk : l.length + 11 ≤ k) :
    ∃ t, varint_Put.f k (l.map fun b : Nat => (b : Int)) = some t ∧ bs t = (l.map enc).flatten := by
  obtain ⟨zs, h1, h2⟩ := Put_l0 l.length k l [] 0 (by omega) hl (by simp; omega) (by omega) hk
  refine ⟨_, by simpa [varint_Put.f] using h1, ?_⟩
  rw [bs_nums, h2]
  · simp
  · rw [h2]
    intro b hb
    simp only [List.nil_append, List.mem_flatten, List.mem_map] at hb
    obtain ⟨x, ⟨u, _, rfl⟩, hx⟩ := hb
    exact enc_bytes u b hx

theorem Get_f (k : Nat) (s : ByteArray) (hs : s.size ≤ 140737488355328) (hk : 22 ≤ k) : varint_Get.f k s = some (c3 (gl (bs s) 0 0)) := by
  simp only [varint_Get.f, get_f k s hs hk, Option.bind_some]

theorem lives_f (k : Nat) (hk : 50 ≤ k) : bridlewaylaw02_lives.f k = some true := by
  unfold bridlewaylaw02_lives.f
  have hb : bs (⟨#[172, 2, 120]⟩ : ByteArray) = [172, 2, 120] := by decide
  rw [Get_f k _ (by decide) (by omega), Option.bind_some, hb]
  obtain ⟨t, h1, h2⟩ := Put_f k [300] (by simp) (by simp) (by simp; omega)
  have e : [300].map (fun b : Nat => (b : Int)) = ([300] : List Int) := rfl
  rw [e] at h1
  rw [h1, Option.bind_some]
  have hen : enc 300 = [172, 2] := by rw [enc_ge (by decide), enc_lt (by decide)]
  have h3 : t.toList = ([172, 2] : List UInt8) := by
    have h4 : bs t = bs (⟨#[172, 2]⟩ : ByteArray) := by rw [h2]; simp [hen]; decide
    have := bs_inj h4
    rw [this, ByteArray.toList_eq]
  have hg : gl [172, 2, 120] 0 0 = (300, 2, 0) := by
    have := gl_enc 300 [120] 0 0 (by decide) (.inl (by decide))
    rw [hen] at this
    simpa using this
  rw [if_pos h3, hg]
  rfl
theorem Cut_f (s : ByteArray) (n : Nat) (hs : s.size ≤ 140737488355328) : ∃ t, bridlewaylaw02_Cut.f s (n : Int) = some t ∧ t.size ≤ n ∧ bs t = (bs s).take n := by
  unfold bridlewaylaw02_Cut.f
  by_cases h : n < s.size
  · rw [if_pos (by omega), if_pos (by omega), if_pos (by omega)]
    have e : bs (s.extract 0 (n : Int).toNat) = (bs s).take n := by
      rw [bs_extract]
      show List.take ((n : Int).toNat - 0) (List.drop 0 (bs s)) = _
      have : (n : Int).toNat - 0 = n := by omega
      rw [this]; rfl
    refine ⟨_, rfl, ?_, e⟩
    rw [← bs_length, e, List.length_take]; omega
  · rw [if_neg (by omega)]
    refine ⟨_, rfl, by omega, ?_⟩
    rw [List.take_of_length_le (by rw [bs_length]; omega)]

theorem Same_l0 (d : Nat) : ∀ (k : Nat) (l : List Int) (i : Nat), i + d = l.length → l.length ≤ 100000 → d < k → bridlewayref02_Same.l0 k l l (i : Int) = some true := by
  induction d with
  | zero =>
    intro k l i hi hl hk
    obtain ⟨k, rfl⟩ : ∃ m, k = m + 1 := ⟨k - 1, by omega⟩
    simp only [bridlewayref02_Same.l0]
    rw [if_neg (by omega)]
  | succ d ih =>
    intro k l i hi hl hk
    obtain ⟨k, rfl⟩ : ∃ m, k = m + 1 := ⟨k - 1, by omega⟩
    simp only [bridlewayref02_Same.l0]
    rw [if_pos (by omega), if_pos (by omega), if_pos (by omega), if_pos trivial, wrapS i (by omega)]
    exact ih k l (i + 1) (by omega) hl (by omega)
theorem Same_f (k : Nat) (l : List Int) (hl : l.length ≤ 100000) (hk : l.length < k) : bridlewayref02_Same.f k l l = some true := by
  unfold bridlewayref02_Same.f
  rw [if_pos rfl]
  exact Same_l0 l.length k l 0 (by omega) hl hk

theorem wrapA (i j : Nat) (h : i + j ≤ 1000000000000000) : wrap64 ((i : Int) + (j : Int)) = ((i + j : Nat) : Int) := by rw [w64 (by omega) (by omega)]; omega

theorem bs_from (s : ByteArray) (i : Nat) : bs (s.extract (i : Int).toNat s.size) = (bs s).drop i := by
  rw [bs_extract]
  have : (i : Int).toNat = i := by omega
  rw [this, List.take_of_length_le (by rw [List.length_drop, bs_length]; omega)]

/-- What a part that was read is. -/
theorem gl_part (l : List Nat) (hl : ∀ b ∈ l, b < 256) (x n : Nat) (h : gl l 0 0 = (x, n, 0)) : n = (enc x).length ∧ l = enc x ++ l.drop n ∧ x < 18446744073709551616 := by
  obtain ⟨v, r, h1, h2, h3, -, h5⟩ := gl_back l 0 0 x n hl h
  have : x = v := by rw [h2]; simp
  subst this
  have hn : n = (enc x).length := by omega
  refine ⟨hn, ?_, by simpa using h5⟩
  rw [hn, h1, List.drop_left]

theorem List_any (d : Nat) : ∀ (k : Nat) (s : ByteArray) (n : Int) (xs : List Int) (i : Nat), s.size - i = d → i ≤ s.size → s.size ≤ 1000 → xs.length ≤ i → d + 60 ≤ k →
    ∃ r, varint_List.l0 k s n xs (i : Int) = some r ∧ bridlewayref02_List.l0 k s n xs (i : Int) = some r ∧ r.1.length ≤ 1000 := by
  induction d using Nat.strongRecOn with
  | ind d ih =>
    intro k s n xs i hd hi hs hx hk
    obtain ⟨k, rfl⟩ : ∃ m, k = m + 1 := ⟨k - 1, by omega⟩
    simp only [varint_List.l0, bridlewayref02_List.l0]
    by_cases h1 : (xs.length : Int) < n
    · rw [if_pos h1, if_pos h1, if_pos (by omega), if_pos (by omega), if_pos (by omega), if_pos (by omega)]
      have hsz : (s.extract (i : Int).toNat s.size).size ≤ 1000 := by rw [← bs_length, bs_from, List.length_drop, bs_length]; omega
      rw [get_f k _ (by omega) (by omega), refGet_f k _ (by omega) (by omega), Option.bind_some, Option.bind_some]
      rw [bs_from]
      generalize hg : gl ((bs s).drop i) 0 0 = g
      obtain ⟨u, m, e⟩ := g
      show ∃ r, (if ((e : Nat) : Int) = 0 then _ else _) = some r ∧ (if ((e : Nat) : Int) = 0 then _ else _) = some r ∧ _
      by_cases he : e = 0
      · subst he
        have e0 : ((0 : Nat) : Int) = 0 := rfl
        have hx' : xs.length < 17592186044416 := by omega
        rw [if_pos e0, if_pos hx', if_pos e0, if_pos hx']
        obtain ⟨h2, h3, h4⟩ := gl_part _ (fun b hb => bs_lt s b (List.mem_of_mem_drop hb)) u m hg
        have hpos := enc_pos u
        have hlen : m ≤ ((bs s).drop i).length := by rw [h3, h2, List.length_append]; omega
        rw [List.length_drop, bs_length] at hlen
        have hw : wrap64 ((i : Int) + (c3 (u, m, 0)).2.1) = ((i + m : Nat) : Int) := wrapA i m (by omega)
        rw [hw]
        clear hw
        exact ih (s.size - (i + m)) (by omega) k s n _ (i + m) rfl (by omega) hs (by rw [List.length_append]; simp; omega) (by omega)
      · rw [if_neg (by omega), if_neg (by omega)]
        exact ⟨_, rfl, rfl, by simp⟩
    · rw [if_neg h1, if_neg h1]
      exact ⟨_, rfl, rfl, by show xs.length ≤ 1000; omega⟩
theorem List_f (k : Nat) (s : ByteArray) (n : Int) (hs : s.size ≤ 1000) (hk : 1100 ≤ k) : ∃ r, varint_List.f k s n = some r ∧ bridlewayref02_List.f k s n = some r ∧ r.1.length ≤ 1000 := by
  unfold varint_List.f bridlewayref02_List.f
  by_cases h : n < 0
  · rw [if_pos h, if_pos h]; exact ⟨_, rfl, rfl, by simp⟩
  · rw [if_neg h, if_neg h]
    exact List_any s.size k s n [] 0 (by omega) (by omega) hs (by simp) (by omega)

theorem All_any (d : Nat) : ∀ (k : Nat) (s t : ByteArray) (xs : List Int) (i : Nat), t.size = d → i ≤ s.size → (bs s).drop i = bs t → s.size ≤ 1000 → xs.length ≤ i → d + 60 ≤ k →
    ∃ r, varint_All.l0 k t xs = some r ∧ bridlewayref02_All.l0 k s xs (i : Int) = some r ∧ r.1.length ≤ 1000 ∧
      (r.2 = 0 → ∃ ys : List Nat, r.1 = xs ++ (ys.map fun b : Nat => (b : Int)) ∧ (ys.map enc).flatten = bs t ∧ (∀ u ∈ ys, u < 18446744073709551616)) := by
  induction d using Nat.strongRecOn with
  | ind d ih =>
    intro k s t xs i hd hi hst hs hx hk
    obtain ⟨k, rfl⟩ : ∃ m, k = m + 1 := ⟨k - 1, by omega⟩
    simp only [varint_All.l0, bridlewayref02_All.l0]
    have hsz : s.size - i = t.size := by rw [← bs_length t, ← hst, List.length_drop, bs_length]
    by_cases h1 : t.size = 0
    · have hnil : bs t = [] := List.eq_nil_of_length_eq_zero (by rw [bs_length]; exact h1)
      have ht : t.toList = ([] : List UInt8) := by
        rw [ByteArray.toList_eq]
        have : t.data.toList.length = 0 := by rw [data_length]; exact h1
        exact List.eq_nil_of_length_eq_zero this
      rw [if_pos ht, if_neg (by omega)]
      exact ⟨_, rfl, rfl, by show xs.length ≤ 1000; omega, fun _ => ⟨[], by simp, by simp [hnil], by simp⟩⟩
    · have ht : ¬ t.toList = ([] : List UInt8) := by
        rw [ByteArray.toList_eq]
        intro h
        have : t.data.toList.length = 0 := by rw [h]; rfl
        rw [data_length] at this
        exact h1 this
      rw [if_neg ht, if_pos (by omega), if_pos (by omega), if_pos (by omega)]
      have hsz2 : (s.extract (i : Int).toNat s.size).size ≤ 1000 := by rw [← bs_length, bs_from, List.length_drop, bs_length]; omega
      rw [get_f k t (by omega) (by omega), refGet_f k _ (by omega) (by omega), Option.bind_some, Option.bind_some, bs_from, hst]
      generalize hg : gl (bs t) 0 0 = g
      obtain ⟨u, m, e⟩ := g
      show ∃ r, (if ((e : Nat) : Int) = 0 then _ else _) = some r ∧ (if ((e : Nat) : Int) = 0 then _ else _) = some r ∧ _
      by_cases he : e = 0
      · subst he
        obtain ⟨h2, h3, h4⟩ := gl_part _ (bs_lt t) u m hg
        have hpos := enc_pos u
        have hlen : m ≤ t.size := by rw [← bs_length t, h3, h2, List.length_append]; omega
        have e0 : ((0 : Nat) : Int) = 0 := rfl
        have hx' : xs.length < 17592186044416 := by omega
        have c1 : (0 : Int) ≤ (c3 (u, m, 0)).2.1 := Int.natCast_nonneg m
        have c2 : (c3 (u, m, 0)).2.1 ≤ (t.size : Int) := by show ((m : Nat) : Int) ≤ _; omega
        rw [if_pos e0, if_pos hx', if_pos c1, if_pos c2, if_pos e0, if_pos hx']
        have hw : wrap64 ((i : Int) + (c3 (u, m, 0)).2.1) = ((i + m : Nat) : Int) := wrapA i m (by omega)
        rw [hw]
        clear hw
        have hbt : bs (t.extract ((c3 (u, m, 0)).2.1 : Int).toNat t.size) = (bs t).drop m := bs_from t m
        have hsz3 : (t.extract ((c3 (u, m, 0)).2.1 : Int).toNat t.size).size = t.size - m := by rw [← bs_length, hbt, List.length_drop, bs_length]
        obtain ⟨r, r1, r2, r3, r4⟩ := ih (t.size - m) (by omega) k s (t.extract ((c3 (u, m, 0)).2.1 : Int).toNat t.size) (xs ++ [(c3 (u, m, 0)).1]) (i + m) hsz3 (by omega) (by rw [hbt, ← hst, List.drop_drop]) hs (by rw [List.length_append]; simp; omega) (by omega)
        refine ⟨r, r1, r2, r3, fun h0 => ?_⟩
        obtain ⟨ys, y1, y2, y3⟩ := r4 h0
        refine ⟨u :: ys, ?_, ?_, ?_⟩
        · rw [y1, List.append_assoc]; rfl
        · rw [List.map_cons, List.flatten_cons, y2, hbt]; exact h3.symm
        · intro x hx
          rcases List.mem_cons.1 hx with h | h
          · rw [h]; exact h4
          · exact y3 x h
      · rw [if_neg (by omega), if_neg (by omega)]
        refine ⟨_, rfl, rfl, by simp, fun h => ?_⟩
        have : ((e : Nat) : Int) = 0 := h
        omega
theorem All_f (k : Nat) (s : ByteArray) (hs : s.size ≤ 1000) (hk : 1100 ≤ k) : ∃ r, varint_All.f k s = some r ∧ bridlewayref02_All.f k s = some r ∧ r.1.length ≤ 1000 ∧
      (r.2 = 0 → ∃ ys : List Nat, r.1 = (ys.map fun b : Nat => (b : Int)) ∧ (ys.map enc).flatten = bs s ∧ (∀ u ∈ ys, u < 18446744073709551616)) := by
  obtain ⟨r, h1, h2, h3, h4⟩ := All_any s.size k s s [] 0 rfl (by omega) (by simp) hs (by simp) (by omega)
  exact ⟨r, h1, h2, h3, by simpa using h4⟩

theorem VarintGets : bridlewaylaw02_VarintGets.Pure := by
  intro s0 n hs0 wn
  refine ⟨3001, ?_⟩
  unfold bridlewaylaw02_VarintGets.f
  obtain ⟨s, hs1, hs2, -⟩ := Cut_f s0 60 (by omega)
  have hs1' : bridlewaylaw02_Cut.f s0 60 = some s := hs1
  obtain ⟨l, l1, l2, l3⟩ := List_f 3001 s n (by omega) (by omega)
  obtain ⟨a, a1, a2, a3, a4⟩ := All_f 3001 s (by omega) (by omega)
  rw [hs1', Option.bind_some, Get_f 3001 s (by omega) (by omega), Option.bind_some, refGet_f 3001 s (by omega) (by omega), Option.bind_some, l1, Option.bind_some, l2, Option.bind_some, a1, Option.bind_some, a2, Option.bind_some]
  rw [if_pos rfl, if_pos rfl, if_pos rfl, Same_f 3001 l.1 (by omega) (by omega), Option.bind_some, if_pos rfl, if_pos rfl, if_pos rfl, Same_f 3001 a.1 (by omega) (by omega), Option.bind_some, if_pos rfl]
  have hb : (a.2 != a.2) = false := by simp
  rw [hb]
  generalize hg : gl (bs s) 0 0 = g
  obtain ⟨u, m, e⟩ := g
  simp only [bridlewaylaw02_VarintGets.j0]
  rw [if_neg (by simp)]
  have hlives := lives_f 3000 (by omega)
  -- the number's own bytes
  have hone : ∀ h : e = 0, ∃ p, varint_Put.f 3000 ([(c3 (u, m, e)).1] : List Int) = some p ∧ 0 ≤ (c3 (u, m, e)).2.1 ∧ (c3 (u, m, e)).2.1 ≤ (s.size : Int) ∧ p.toList = (s.extract 0 ((c3 (u, m, e)).2.1 : Int).toNat).toList := by
    intro he
    subst he
    obtain ⟨h2, h3, h4⟩ := gl_part _ (bs_lt s) u m hg
    obtain ⟨p, p1, p2⟩ := Put_f 3000 [u] (by simp; omega) (by simp) (by simp)
    have hlen : m ≤ s.size := by rw [← bs_length s, h3, h2, List.length_append]; omega
    refine ⟨p, p1, Int.natCast_nonneg m, by show ((m : Nat) : Int) ≤ _; omega, bs_inj ?_⟩
    have : ((c3 (u, m, 0)).2.1 : Int).toNat = m := by show ((m : Nat) : Int).toNat = m; omega
    rw [p2, this, bs_extract]
    simp only [List.map_cons, List.map_nil, List.flatten_cons, List.flatten_nil, List.append_nil, Nat.sub_zero, List.drop_zero]
    rw [h3, h2, List.take_left]
  have hend : (if (c3 (u, m, e)).2.2 = 0 then ((varint_Put.f 3000 (([(c3 (u, m, e)).1] : List Int))).bind fun t192 => (if 0 ≤ (c3 (u, m, e)).2.1 then (if (c3 (u, m, e)).2.1 ≤ (s.size : Int) then (if t192.toList = (s.extract 0 ((c3 (u, m, e)).2.1 : Int).toNat).toList then ((bridlewaylaw02_lives.f 3000).bind fun t193 => (some t193)) else (some false)) else (none)) else (none))) else ((bridlewaylaw02_lives.f 3000).bind fun t194 => (some t194))) = some true := by
    by_cases he : e = 0
    · obtain ⟨p, p1, p2, p3, p4⟩ := hone he
      have : (c3 (u, m, e)).2.2 = 0 := by rw [he]; rfl
      rw [if_pos this, p1, Option.bind_some, if_pos p2, if_pos p3, if_pos p4, hlives]
      rfl
    · have : ¬ (c3 (u, m, e)).2.2 = 0 := by show ¬ ((e : Nat) : Int) = 0; omega
      rw [if_neg this, hlives]; rfl
  by_cases ha : a.2 = 0
  · rw [if_pos ha]
    obtain ⟨ys, y1, y2, y3⟩ := a4 ha
    have hyl : ys.length ≤ 1000 := by have := congrArg List.length y1; rw [List.length_map] at this; omega
    obtain ⟨t, t1, t2⟩ := Put_f 3000 ys y3 (by omega) (by omega)
    rw [y1, t1, Option.bind_some, if_pos (bs_inj (by rw [t2, y2]))]
    exact hend
  · rw [if_neg ha]
    exact hend

end Go.Proofs.Ytndlcfdlhliljaa.Pure
