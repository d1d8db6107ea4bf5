/- The law VarintTexts over plain lists: a text with its length is put and read again. Conditions: both texts are strings of the machine, the bound is of 64 bits. -/
import Derived.Test.YtndlcfdlhliljaaTextsRun
import Derived.Test.YtndlcfdlhliljaaVMath
namespace Go.Proofs.Ytndlcfdlhliljaa.Pure
open Go.RowKit Go.Proofs.Ytndlcfdlhliljaa.PVarintTexts Go.Proofs.YtndlcfdlhliljaaW.PrintWords Go.Proofs.YtndlcfdlhliljaaW.PrintLast Go.Proofs.Ytndlcfdlhliljaa.VMath
set_option linter.unusedSimpArgs false
set_option linter.unusedVariables false

theorem put_l0 (u : Nat) : ∀ (k : Nat) (xs : List Int), (enc u).length ≤ k → xs.length + (enc u).length ≤ 140737488355328 → u < 18446744073709551616 →
    varint_put.l0 k xs (u : Int) = some (xs ++ (enc u).map fun b : Nat => (b : Int)) := by
  induction u using Nat.strongRecOn with
  | ind u ih =>
    intro k xs hk hl hu
    have hp := enc_pos u
    obtain ⟨k, rfl⟩ : ∃ m, k = m + 1 := ⟨k - 1, by omega⟩
    simp only [varint_put.l0]
    by_cases h : u < 128
    · rw [enc_lt h] at hl ⊢
      rw [if_neg (by omega), if_pos (by simp at hl; omega)]
      have : (u : Int) % 256 = u := by omega
      rw [this]; rfl
    · rw [enc_ge h] at hl hk ⊢
      simp only [List.length_cons] at hl hk
      rw [if_pos (by omega), if_pos (by omega)]
      have e1 : ((u : Int) / 128) = ((u / 128 : Nat) : Int) := by omega
      have e2 : ((u : Int) % 256) = ((u % 256 : Nat) : Int) := by omega
      rw [e1, e2, or128 (u % 256) (by omega), ih (u / 128) (by omega) k _ (by omega) (by simp; omega) (by omega)]
      have e3 : 128 + u % 256 % 128 = 128 + u % 128 := by omega
      rw [e3]
      simp
theorem put_f (u k : Nat) (xs : List Int) (hk : 10 ≤ k) (hl : xs.length ≤ 100000) (hu : u < 18446744073709551616) :
    varint_put.f k xs (u : Int) = some (xs ++ (enc u).map fun b : Nat => (b : Int)) := by
  have := enc_len10 hu
  exact put_l0 u k xs (by omega) (by omega) hu

theorem refPut_f (u : Nat) : ∀ k, (enc u).length ≤ k → u < 18446744073709551616 → ∃ t, bridlewayref02_Put.f k (u : Int) = some t ∧ bs t = enc u := by
  induction u using Nat.strongRecOn with
  | ind u ih =>
    intro k hk hu
    have hp := enc_pos u
    obtain ⟨k, rfl⟩ : ∃ m, k = m + 1 := ⟨k - 1, by omega⟩
    simp only [bridlewayref02_Put.f]
    by_cases h : u < 128
    · rw [if_pos (by omega)]
      refine ⟨_, rfl, ?_⟩
      rw [enc_lt h]
      have : (u : Int) % 256 = u := by omega
      rw [this]
      exact bs_nums [u] (by simp; omega)
    · rw [if_neg (by omega)]
      rw [enc_ge h] at hk
      simp only [List.length_cons] at hk
      have e1 : Int.tdiv (u : Int) 128 = ((u / 128 : Nat) : Int) := by rw [Int.tdiv_eq_ediv_of_nonneg (by omega)]; omega
      have e2 : Int.tmod (u : Int) 128 = ((u % 128 : Nat) : Int) := by rw [Int.tmod_eq_emod_of_nonneg (by omega)]; omega
      rw [e1, e2, u64_in (n := ((u / 128 : Nat) : Int)) (by omega) (by omega), u64_in (n := 128 + ((u % 128 : Nat) : Int)) (by omega) (by omega)]
      obtain ⟨t, ht, hb⟩ := ih (u / 128) (by omega) k (by omega) (by omega)
      rw [Option.bind_some, ht, Option.bind_some]
      have e3 : (128 + ((u % 128 : Nat) : Int)) % 256 = ((128 + u % 128 : Nat) : Int) := by omega
      rw [e3]
      have hs := bs_nums [128 + u % 128] (by simp; omega)
      have hl : (enc (u / 128)).length ≤ 10 := enc_len10 (by omega)
      have ht2 : t.size = (enc (u / 128)).length := by rw [← hb, bs_length]
      rw [if_pos (by rw [strOfNums_size, ht2]; simp only [List.length_cons, List.length_nil]; omega)]
      refine ⟨_, rfl, ?_⟩
      rw [bs_append, hb, enc_ge h]
      exact congrArg (· ++ enc (u / 128)) hs
theorem refPut_big (u k : Nat) (hk : 10 ≤ k) (hu : u < 18446744073709551616) : ∃ t, bridlewayref02_Put.f k (u : Int) = some t ∧ bs t = enc u :=
  refPut_f u k (by have := enc_len10 hu; omega) hu

def c3 (r : Nat × Nat × Nat) : Int × Int × Int := ((r.1 : Int), (r.2.1 : Int), (r.2.2 : Int))

theorem get_l0 (d : Nat) : ∀ (k : Nat) (s : ByteArray) (i u : Nat), i + d = 10 → u < 128 ^ i → s.size ≤ 140737488355328 → 2 * d + 2 ≤ k →
    varint_get.l0 k s (u : Int) (i : Int) = some (c3 (gl ((bs s).drop i) i u)) := by
  induction d with
  | zero =>
    intro k s i u hi hu hs hk
    obtain ⟨k, rfl⟩ : ∃ m, k = m + 1 := ⟨k - 1, by omega⟩
    simp only [varint_get.l0]
    rw [if_neg (by unfold mn; split <;> omega)]
    cases h : (bs s).drop i with
    | nil => rfl
    | cons b t => simp only [gl]; rw [if_pos (by omega)]; rfl
  | succ d ih =>
    intro k s i u hi hu hs hk
    obtain ⟨k, rfl⟩ : ∃ m, k = m + 2 := ⟨k - 2, by omega⟩
    simp only [varint_get.l0]
    by_cases hlt : i < s.size
    · have hlt' : i < (bs s).length := by rw [bs_length]; exact hlt
      rw [if_pos (by unfold mn; split <;> omega), if_pos (by omega), if_pos (by omega)]
      rw [List.drop_eq_getElem_cons hlt']
      rw [bs_bt s i hlt]
      have hb : (bs s)[i] < 256 := bs_lt s _ (List.getElem_mem _)
      generalize (bs s)[i] = b at hb ⊢
      have hj : varint_get.j1 (k + 1) s (u : Int) (i : Int) (b : Int) (decide (i = 9 ∧ 1 < b)) = some (c3 (gl (b :: (bs s).drop (i + 1)) i u)) := by
        simp only [varint_get.j1, gl]
        rw [if_neg (by omega : ¬ 10 ≤ i)]
        by_cases h9 : i = 9 ∧ 1 < b
        · rw [if_pos (by simpa using h9), if_pos h9]; rfl
        · rw [if_neg (by simpa using h9), if_neg h9]
          rw [join u b i (by omega) hb hu h9, wrapS i (by omega), wrap7 i (by omega), u64_nat (7 * i) (by omega), if_pos (Int.natCast_nonneg _)]
          by_cases h128 : 128 ≤ b
          · rw [if_pos (by omega), if_pos h128]
            have e3 : b % 128 = b - 128 := by omega
            rw [e3]
            exact ih k s (i + 1) _ (by omega) (next_lt u b i hb hu) hs (by omega)
          · rw [if_neg (by omega), if_neg h128]
            have e3 : b % 128 = b := by omega
            rw [e3]
            by_cases h0 : b = 0
            · subst h0
              rw [if_pos (by rfl)]
              by_cases hi0 : 0 < i
              · rw [if_pos (by omega), if_pos ⟨rfl, hi0⟩]; rfl
              · rw [if_neg (by omega), if_neg (by omega)]; rfl
            · rw [if_neg (by omega), if_neg (by omega)]; rfl
      by_cases h9 : i = 9
      · rw [if_pos (by omega)]
        have : decide ((b : Int) > 1) = decide (i = 9 ∧ 1 < b) := by
          apply decide_eq_decide.2; omega
        rw [this]; exact hj
      · rw [if_neg (by omega)]
        have : false = decide (i = 9 ∧ 1 < b) := by
          symm; apply decide_eq_false; omega
        rw [this]; exact hj
    · rw [if_neg (by unfold mn; split <;> omega)]
      rw [List.drop_eq_nil_of_le (by rw [bs_length]; omega)]
      rfl
theorem get_f (k : Nat) (s : ByteArray) (hs : s.size ≤ 140737488355328) (hk : 22 ≤ k) : varint_get.f k s = some (c3 (gl (bs s) 0 0)) := by
  have := get_l0 10 k s 0 0 (by omega) (by decide) hs (by omega)
  simpa [varint_get.f] using this

theorem refGet_l0 (d : Nat) : ∀ (k : Nat) (s : ByteArray) (i : Nat) (p : Int), i + d = 10 → i ≤ s.size → s.size ≤ 140737488355328 → (i ≤ 9 → p = ((128 ^ i : Nat) : Int)) → (∀ b ∈ (bs s).take i, 128 ≤ b ∧ b < 256) → 3 * d + 20 ≤ k →
    bridlewayref02_Get.l0 k s (dl ((bs s).take i) : Int) p (i : Int) = some (c3 (gl ((bs s).drop i) i (dl ((bs s).take i)))) := by
  induction d with
  | zero =>
    intro k s i p hi hi2 hs hp hpre hk
    obtain ⟨k, rfl⟩ : ∃ m, k = m + 2 := ⟨k - 2, by omega⟩
    have hj : ∀ x, bridlewayref02_Get.j1 (k + 1) s x p (i : Int) false = some (0, 0, 7) := by
      intro x; simp only [bridlewayref02_Get.j1]; rw [if_neg (by simp)]
    simp only [bridlewayref02_Get.l0]
    have : gl ((bs s).drop i) i (dl ((bs s).take i)) = (0, 0, 7) := by
      cases h : (bs s).drop i with
      | nil => rfl
      | cons b t => simp only [gl]; rw [if_pos (by omega)]
    rw [this]
    have e : decide ((i : Int) < 10) = false := decide_eq_false (by omega)
    rw [e, hj, ite_self]; rfl
  | succ d ih =>
    intro k s i p hi hi2 hs hp hpre hk
    obtain ⟨k, rfl⟩ : ∃ m, k = m + 3 := ⟨k - 3, by omega⟩
    have hp' := hp (by omega)
    subst hp'
    simp only [bridlewayref02_Get.l0]
    by_cases hlt : i < s.size
    · have hlt' : i < (bs s).length := by rw [bs_length]; exact hlt
      rw [if_pos (by omega)]
      have e : decide ((i : Int) < 10) = true := decide_eq_true (by omega)
      rw [e]
      simp only [bridlewayref02_Get.j1]
      rw [if_pos trivial, if_pos (by omega), if_pos (by omega)]
      have htk : (bs s).take (i + 1) = (bs s).take i ++ [(bs s)[i]] := List.take_succ_eq_append_getElem hlt'
      have hlen : ((bs s).take i).length = i := by rw [List.length_take]; omega
      rw [List.drop_eq_getElem_cons hlt', bs_bt s i hlt]
      have hb : (bs s)[i] < 256 := bs_lt s _ (List.getElem_mem _)
      have hdl : dl ((bs s).take i) < 128 ^ i := by
        have := dl_lt ((bs s).take i) hpre
        rwa [hlen] at this
      generalize hB : (bs s)[i] = b at hb htk ⊢
      have etm : Int.tmod (IntKind.u64.wrap (b : Int)) 128 = ((b % 128 : Nat) : Int) := by
        rw [u64_in (by omega) (by omega), Int.tmod_eq_emod_of_nonneg (by omega)]; omega
      rw [etm]
      have hj : bridlewayref02_Get.j2 (k + 1) s (dl ((bs s).take i) : Int) ((128 ^ i : Nat) : Int) (i : Int) ((b % 128 : Nat) : Int) (decide (i = 9 ∧ 1 < b)) = some (c3 (gl (b :: (bs s).drop (i + 1)) i (dl ((bs s).take i)))) := by
        simp only [bridlewayref02_Get.j2, gl]
        rw [if_neg (by omega : ¬ 10 ≤ i)]
        by_cases h9 : i = 9 ∧ 1 < b
        · rw [if_pos (by simpa using h9), if_pos h9]; rfl
        · rw [if_neg (by simpa using h9), if_neg h9, if_pos (by omega), if_pos (by omega)]
          have hsum := sum_lt _ b i (by omega) hb hdl h9
          rw [← Int.natCast_mul, u64_nat _ (place_lt b i (by omega) hb h9), ← Int.natCast_add, u64_nat _ hsum, wrapS i (by omega), bs_bt s i hlt, hB]
          by_cases h128 : 128 ≤ b
          · rw [if_pos (by omega), if_pos h128]
            have e3 : b % 128 = b - 128 := by omega
            have e4 : dl ((bs s).take i) + (b - 128) * 128 ^ i = dl ((bs s).take (i + 1)) := by
              rw [htk, dl_snoc, hlen]
            rw [e3, e4]
            refine ih k s (i + 1) _ (by omega) (by omega) hs ?_ ?_ (by omega)
            · intro h9'
              have e5 : ((128 ^ i : Nat) : Int) * 128 = ((128 ^ (i + 1) : Nat) : Int) := by rw [Nat.pow_succ]; push_cast; rfl
              rw [e5]
              refine u64_nat _ ?_
              have h1 : (128 : Nat) ^ (i + 1) ≤ 128 ^ 9 := Nat.pow_le_pow_right (by decide) h9'
              rw [pow9] at h1
              omega
            · intro y hy
              rw [htk] at hy
              rcases List.mem_append.1 hy with hy | hy
              · exact hpre y hy
              · simp at hy; omega
          · rw [if_neg (by omega), if_neg h128]
            have e3 : b % 128 = b := by omega
            rw [e3] at hsum ⊢
            obtain ⟨t, ht, htb⟩ := refPut_big (dl ((bs s).take i) + b * 128 ^ i) k (by omega) hsum
            rw [ht, Option.bind_some, if_pos (by omega), if_pos (by omega)]
            have ex : bs (s.extract 0 ((i + 1 : Nat) : Int).toNat) = (bs s).take i ++ [b] := by
              rw [bs_extract, ← htk]
              show List.take (((i + 1 : Nat) : Int).toNat - 0) (List.drop 0 (bs s)) = _
              have : ((i + 1 : Nat) : Int).toNat - 0 = i + 1 := by omega
              rw [this]; rfl
            by_cases h0 : b = 0 ∧ 0 < i
            · rw [if_neg, if_pos h0]
              · rfl
              · intro hh
                have := toList_bs hh
                rw [ex, htb] at this
                obtain ⟨rfl, hi0⟩ := h0
                refine enc_not_zero _ _ ?_ this
                intro hnil
                rw [hnil] at hlen; simp at hlen; omega
            · rw [if_pos, if_neg h0]
              · rfl
              · apply bs_inj
                rw [ex, htb]
                have := enc_dl ((bs s).take i) b hpre (by omega) (by
                  by_cases hb0 : 0 < b
                  · exact .inl hb0
                  · right
                    have : i = 0 := by omega
                    subst this; rfl)
                rw [hlen] at this
                exact this
      by_cases h9 : i = 9
      · rw [if_pos (by omega)]
        have : decide ((b : Int) > 1) = decide (i = 9 ∧ 1 < b) := by
          apply decide_eq_decide.2; omega
        rw [this]; exact hj
      · rw [if_neg (by omega)]
        have : false = decide (i = 9 ∧ 1 < b) := by
          symm; apply decide_eq_false; omega
        rw [this]; exact hj
    · rw [if_neg (by omega)]
      simp only [bridlewayref02_Get.j1]
      rw [if_neg (by simp)]
      rw [List.drop_eq_nil_of_le (by rw [bs_length]; omega)]
      rfl
theorem refGet_f (k : Nat) (s : ByteArray) (hs : s.size ≤ 140737488355328) (hk : 50 ≤ k) : bridlewayref02_Get.f k s = some (c3 (gl (bs s) 0 0)) := by
  have := refGet_l0 10 k s 0 1 (by omega) (by omega) hs (by intro _; rfl) (by simp) (by omega)
  simpa [bridlewayref02_Get.f, dl] using this

theorem Put_l0 (d : Nat) : ∀ (k : Nat) (l : List Nat) (ys : List Nat) (i : Nat), i + d = l.length → (∀ u ∈ l, u < 18446744073709551616) → ys.length + 10 * d ≤ 100000 → l.length ≤ 100000 → d + 11 ≤ k →
    ∃ zs, varint_Put.l0 k (ys.map fun b : Nat => (b : Int)) (l.map fun b : Nat => (b : Int)) (l.length : Int) (i : Int) = some (strOfNums (zs.map fun b : Nat => (b : Int))) ∧ zs = ys ++ ((l.drop i).map enc).flatten := by
  induction d with
  | zero =>
    intro k l ys i hi hl hy hb hk
    obtain ⟨k, rfl⟩ : ∃ m, k = m + 1 := ⟨k - 1, by omega⟩
    simp only [varint_Put.l0]
    rw [if_neg (by omega)]
    refine ⟨ys, rfl, ?_⟩
    rw [List.drop_eq_nil_of_le (by omega)]; simp
  | succ d ih =>
    intro k l ys i hi hl hy hb hk
    obtain ⟨k, rfl⟩ : ∃ m, k = m + 1 := ⟨k - 1, by omega⟩
    simp only [varint_Put.l0]
    have hlt : i < l.length := by omega
    have hrd : rd (l.map fun b : Nat => (b : Int)) (i : Int) = ((l[i] : Nat) : Int) := by
      unfold rd
      simp [hlt]
    have hu := hl l[i] (List.getElem_mem _)
    rw [if_pos (by omega), if_pos (by omega), if_pos (by rw [List.length_map]; omega), hrd, put_f _ k _ (by omega) (by rw [List.length_map]; omega) hu, Option.bind_some]
    have hlb : l.length ≤ 100000 := hb
    have e1 : wrap64 ((i : Int) + 1) = ((i + 1 : Nat) : Int) := by rw [w64 (by omega) (by omega)]; omega
    rw [e1, ← List.map_append]
    have hle := enc_len10 hu
    obtain ⟨zs, h1, h2⟩ := ih k l (ys ++ enc l[i]) (i + 1) (by omega) hl (by rw [List.length_append]; omega) hb (by omega)
    refine ⟨zs, h1, ?_⟩
    rw [h2, List.drop_eq_getElem_cons hlt, List.map_cons, List.flatten_cons, List.append_assoc]
theorem Put_f (k : Nat) (l : List Nat) (hl : ∀ u ∈ l, u < 18446744073709551616) (hn : l.length ≤ 10000) (hk : l.length + 11 ≤ k) :
    ∃ t, varint_Put.f k (l.map fun b : Nat => (b : Int)) = some t ∧ bs t = (l.map enc).flatten := by
  obtain ⟨zs, h1, h2⟩ := Put_l0 l.length k l [] 0 (by omega) hl (by simp; omega) (by omega) hk
  refine ⟨_, by simpa [varint_Put.f] using h1, ?_⟩
  rw [bs_nums, h2]
  · simp
  · rw [h2]
    intro b hb
    simp only [List.nil_append, List.mem_flatten, List.mem_map] at hb
    obtain ⟨x, ⟨u, _, rfl⟩, hx⟩ := hb
    exact enc_bytes u b hx

theorem Get_f (k : Nat) (s : ByteArray) (hs : s.size ≤ 140737488355328) (hk : 22 ≤ k) : varint_Get.f k s = some (c3 (gl (bs s) 0 0)) := by
  simp only [varint_Get.f, get_f k s hs hk, Option.bind_some]

theorem lives_f (k : Nat) (hk : 50 ≤ k) : bridlewaylaw02_lives.f k = some true := by
  unfold bridlewaylaw02_lives.f
  have hb : bs (⟨#[172, 2, 120]⟩ : ByteArray) = [172, 2, 120] := by decide
  rw [Get_f k _ (by decide) (by omega), Option.bind_some, hb]
  obtain ⟨t, h1, h2⟩ := Put_f k [300] (by simp) (by simp) (by simp; omega)
  have e : [300].map (fun b : Nat => (b : Int)) = ([300] : List Int) := rfl
  rw [e] at h1
  rw [h1, Option.bind_some]
  have hen : enc 300 = [172, 2] := by rw [enc_ge (by decide), enc_lt (by decide)]
  have h3 : t.toList = ([172, 2] : List UInt8) := by
    have h4 : bs t = bs (⟨#[172, 2]⟩ : ByteArray) := by rw [h2]; simp [hen]; decide
    have := bs_inj h4
    rw [this, ByteArray.toList_eq]
  have hg : gl [172, 2, 120] 0 0 = (300, 2, 0) := by
    have := gl_enc 300 [120] 0 0 (by decide) (.inl (by decide))
    rw [hen] at this
    simpa using this
  rw [if_pos h3, hg]
  rfl
theorem Cut_f (s : ByteArray) (n : Nat) (hs : s.size ≤ 140737488355328) : ∃ t, bridlewaylaw02_Cut.f s (n : Int) = some t ∧ t.size ≤ n ∧ bs t = (bs s).take n := by
  unfold bridlewaylaw02_Cut.f
  by_cases h : n < s.size
  · rw [if_pos (by omega), if_pos (by omega), if_pos (by omega)]
    have e : bs (s.extract 0 (n : Int).toNat) = (bs s).take n := by
      rw [bs_extract]
      show List.take ((n : Int).toNat - 0) (List.drop 0 (bs s)) = _
      have : (n : Int).toNat - 0 = n := by omega
      rw [this]; rfl
    refine ⟨_, rfl, ?_, e⟩
    rw [← bs_length, e, List.length_take]; omega
  · rw [if_neg (by omega)]
    refine ⟨_, rfl, by omega, ?_⟩
    rw [List.take_of_length_le (by rw [bs_length]; omega)]

theorem wf64 {a : Int} (h : (Lit.int .i64 a).wf = true) : -9223372036854775808 ≤ a ∧ a < 9223372036854775808 := by
  simp [Lit.wf, IntKind.min, IntKind.max, IntKind.signed, IntKind.bits] at h
  omega
theorem wrapN (i : Nat) (h : i ≤ 1000000000000000) : wrap64 (i : Int) = (i : Int) := w64 (by omega) (by omega)
theorem wrapA (i j : Nat) (h : i + j ≤ 1000000000000000) : wrap64 ((i : Int) + (j : Int)) = ((i + j : Nat) : Int) := by rw [w64 (by omega) (by omega)]; omega
theorem wrapM (i j : Nat) (hj : j ≤ i) (h : i ≤ 1000000000000000) : wrap64 ((i : Int) - (j : Int)) = ((i - j : Nat) : Int) := by rw [w64 (by omega) (by omega)]; omega
theorem u64_pos {a : Int} (h : -9223372036854775808 ≤ a ∧ a < 9223372036854775808) (h0 : ¬ a < 0) : IntKind.u64.wrap a = a := u64_in (by omega) (by omega)

theorem tail_any (k : Nat) (s : ByteArray) (u n : Nat) (b : Bool) (hn : n ≤ s.size) (hs : s.size ≤ 100000) (hk : 1 ≤ k) :
    ∃ r, varint_GetText.j0 k s (u : Int) (n : Int) b = some r ∧ bridlewayref02_GetText.j0 k s (u : Int) (n : Int) b = some r ∧
      (b = false → u ≤ s.size - n → r = (s.extract n (n + u), ((n + u : Nat) : Int), 0)) := by
  obtain ⟨k, rfl⟩ : ∃ m, k = m + 1 := ⟨k - 1, by omega⟩
  simp only [varint_GetText.j0, bridlewayref02_GetText.j0]
  cases b with
  | true => rw [if_pos rfl]; exact ⟨_, rfl, rfl, fun h => by cases h⟩
  | false =>
    have hf : ¬ (false = true) := by simp
    rw [if_neg hf, wrapM s.size n hn (by omega), u64_nat _ (by omega)]
    by_cases h : (u : Int) > ((s.size - n : Nat) : Int)
    · rw [if_pos h]
      exact ⟨_, rfl, rfl, fun _ h2 => absurd h2 (by omega)⟩
    · rw [if_neg h, wrapN u (by omega), wrapA n u (by omega)]
      have q1 : (0 : Int) ≤ (n : Int) := Int.natCast_nonneg n
      have q2 : (n : Int) ≤ ((n + u : Nat) : Int) := by omega
      have q3 : ((n + u : Nat) : Int) ≤ (s.size : Int) := by omega
      rw [if_pos q1, if_pos q2, if_pos q3]
      exact ⟨_, rfl, rfl, fun _ _ => rfl⟩

theorem GetText_any (k : Nat) (s : ByteArray) (a : Int) (ha : -9223372036854775808 ≤ a ∧ a < 9223372036854775808) (hs : s.size ≤ 100000) (hk : 60 ≤ k) :
    ∃ r, varint_GetText.f k s a = some r ∧ bridlewayref02_GetText.f k s a = some r ∧
      (∀ u n : Nat, gl (bs s) 0 0 = (u, n, 0) → 0 ≤ a → (u : Int) ≤ a → n ≤ s.size → u ≤ s.size - n → r = (s.extract n (n + u), ((n + u : Nat) : Int), 0)) := by
  unfold varint_GetText.f bridlewayref02_GetText.f
  rw [get_f k s (by omega) (by omega), refGet_f k s (by omega) (by omega), Option.bind_some, Option.bind_some]
  generalize hg : gl (bs s) 0 0 = g
  obtain ⟨u, n, e⟩ := g
  show ∃ r, (if ((e : Nat) : Int) = 0 then _ else _) = some r ∧ (if ((e : Nat) : Int) = 0 then _ else _) = some r ∧ _
  by_cases he : e = 0
  · subst he
    have e0 : ((0 : Nat) : Int) = 0 := rfl
    rw [if_pos e0, if_pos e0]
    obtain ⟨v, r', h1, -, h3, -⟩ := gl_back (bs s) 0 0 u n (bs_lt s) hg
    have hn : n ≤ s.size := by rw [← bs_length, h1, h3, List.length_append]; omega
    by_cases hneg : a < 0
    · rw [if_pos hneg, if_pos hneg]
      obtain ⟨r, h1, h2, -⟩ := tail_any k s u n true hn hs (by omega)
      exact ⟨r, h1, h2, fun _ _ _ h0 => absurd h0 (by omega)⟩
    · rw [if_neg hneg, if_neg hneg, u64_pos ha hneg]
      obtain ⟨r, h1, h2, h3⟩ := tail_any k s u n (decide ((u : Int) > a)) hn hs (by omega)
      refine ⟨r, h1, h2, fun u' n' h4 _ h6 h7 h8 => ?_⟩
      simp only [Prod.mk.injEq] at h4
      obtain ⟨rfl, rfl, -⟩ := h4
      exact h3 (decide_eq_false (by omega)) h8
  · rw [if_neg (by omega), if_neg (by omega)]
    refine ⟨_, rfl, rfl, fun u' n' h4 => ?_⟩
    simp only [Prod.mk.injEq] at h4
    omega

theorem Text_f (k : Nat) (t : ByteArray) (ht : t.size ≤ 100000) (hk : 10 ≤ k) : ∃ w, varint_Text.f k t = some w ∧ bs w = enc t.size ++ bs t := by
  unfold varint_Text.f
  rw [u64_nat _ (by omega), put_f t.size k [] hk (by simp) (by omega), Option.bind_some, List.nil_append]
  have hl : (enc t.size).length ≤ 10 := enc_len10 (by omega)
  rw [if_pos (by rw [strOfNums_size, List.length_map]; omega)]
  refine ⟨_, rfl, ?_⟩
  rw [bs_append, bs_nums _ (enc_bytes _)]

theorem VarintTexts : bridlewaylaw02_VarintTexts.Pure := by
  intro t0 s0 most ht hs wm
  have hm := wf64 wm
  refine ⟨201, ?_⟩
  unfold bridlewaylaw02_VarintTexts.f
  obtain ⟨t, ht1, ht2, -⟩ := Cut_f t0 200 (by omega)
  obtain ⟨s, hs1, hs2, -⟩ := Cut_f s0 60 (by omega)
  have ht1' : bridlewaylaw02_Cut.f t0 200 = some t := ht1
  have hs1' : bridlewaylaw02_Cut.f s0 60 = some s := hs1
  obtain ⟨r, hr1, hr2, -⟩ := GetText_any 201 s most hm (by omega) (by omega)
  rw [ht1', Option.bind_some, hs1', Option.bind_some, hr1, Option.bind_some, hr2, Option.bind_some, if_pos rfl, if_pos rfl]
  have hb : (r.2.2 != r.2.2) = false := by simp
  rw [hb]
  simp only [bridlewaylaw02_VarintTexts.j0]
  obtain ⟨w, hw1, hw2⟩ := Text_f 200 t (by omega) (by omega)
  obtain ⟨p, hp1, hp2⟩ := refPut_big t.size 200 (by omega) (by omega)
  have hl : (enc t.size).length ≤ 10 := enc_len10 (by omega)
  have sw : w.size = (enc t.size).length + t.size := by rw [← bs_length, hw2, List.length_append, bs_length]
  have sp : p.size = (enc t.size).length := by rw [← bs_length, hp2]
  obtain ⟨q, hq1, -, hq3⟩ := GetText_any 200 (w ++ s) 200 (by omega) (by rw [ByteArray.size_append]; omega) (by omega)
  have hg : gl (bs (w ++ s)) 0 0 = (t.size, (enc t.size).length, 0) := by
    rw [bs_append, hw2, List.append_assoc, gl_enc t.size _ 0 0 (by omega) (.inr rfl)]
    simp
  have hq := hq3 _ _ hg (by omega) (by omega) (by rw [ByteArray.size_append]; omega) (by rw [ByteArray.size_append]; omega)
  have hx : bs ((w ++ s).extract (enc t.size).length ((enc t.size).length + t.size)) = bs t := by
    rw [bs_extract, bs_append, hw2, List.append_assoc, List.drop_left]
    rw [show (enc t.size).length + t.size - (enc t.size).length = (bs t).length by rw [bs_length]; omega, List.take_left]
  rw [if_neg (by simp), hw1, Option.bind_some, if_pos (by omega), hq1, Option.bind_some, u64_nat _ (by omega), hp1, Option.bind_some, if_pos (by omega)]
  rw [if_pos (bs_inj (by rw [hw2, bs_append, hp2])), hq, if_pos (bs_inj hx), if_pos (by show (((enc t.size).length + t.size : Nat) : Int) = _; rw [sw]), if_pos rfl, lives_f 200 (by omega)]
  rfl

end Go.Proofs.Ytndlcfdlhliljaa.Pure
