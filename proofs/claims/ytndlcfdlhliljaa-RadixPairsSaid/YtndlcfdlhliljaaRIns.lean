/- The reference's sort: each place is put behind those of no greater key. Conditions: fewer than 2^30 keys. -/
import Derived.Test.YtndlcfdlhliljaaRSort
namespace Go.Proofs.Ytndlcfdlhliljaa.Rx
open Go.RowKit Go.Proofs.Ytndlcfdlhliljaa.Mem Go.Proofs.Ytndlcfdlhliljaa.Sl Go.Proofs.Ytndlcfdlhliljaa.RMath
set_option linter.unusedVariables false
set_option linter.unusedSimpArgs false

/-- The first i places, by key. -/
structure Ordd (ys O : List Int) (i : Nat) : Prop where
  rise : O.Pairwise (By ys)
  mem : ∀ x, x ∈ O ↔ 0 ≤ x ∧ x < (i : Int)
  len : O.length = i
theorem Ordd.start (ys : List Int) : Ordd ys [] 0 := ⟨List.Pairwise.nil, fun x => ⟨fun h => by simp at h, fun h => absurd h (by omega)⟩, rfl⟩
theorem Ordd.ins {ys O : List Int} {i a : Nat} (h : Ordd ys O i) (ha : a ≤ i) (hback : ∀ m, a ≤ m → m < i → nth 0 ys i < nth 0 ys (nth 0 O m).toNat) (hfront : a = 0 ∨ nth 0 ys (nth 0 O (a - 1)).toNat ≤ nth 0 ys i) :
    Ordd ys (O.take a ++ [(i : Int)] ++ O.drop a) (i + 1) := by
  have hlen := h.len
  have hsplit : O = O.take a ++ O.drop a := (List.take_append_drop a O).symm
  have hp := h.rise
  rw [hsplit] at hp
  obtain ⟨p1, p2, p3⟩ := List.pairwise_append.1 hp
  have hi : ((i : Int)).toNat = i := by omega
  have front : ∀ x ∈ O.take a, By ys x i := by
    intro x hx
    have hxm := (h.mem x).1 (List.mem_of_mem_take hx)
    rcases hfront with h0 | h0
    · subst h0; simp at hx
    · have ha0 : 0 < a := by
        cases a with
        | zero => simp at hx
        | succ a => omega
      have hle : nth 0 ys x.toNat ≤ nth 0 ys (nth 0 O (a - 1)).toNat := by
        have e : O.take a = O.take (a - 1) ++ [nth 0 O (a - 1)] := by
          have := take_nth 0 O (a - 1) (by omega)
          rwa [Nat.sub_add_cancel ha0] at this
        rw [e] at hx p1
        rcases List.mem_append.1 hx with hx | hx
        · have := (List.pairwise_append.1 p1).2.2 x hx (nth 0 O (a - 1)) (by simp)
          unfold By at this; omega
        · simp at hx; rw [hx]; exact Int.le_refl _
      unfold By
      rw [hi]; omega
  have back : ∀ y ∈ O.drop a, By ys i y := by
    intro y hy
    obtain ⟨m, hm, rfl⟩ := List.mem_iff_getElem.1 hy
    rw [List.length_drop] at hm
    have := hback (a + m) (by omega) (by omega)
    rw [nth_eq 0 O (a + m) (by omega)] at this
    unfold By
    rw [hi, List.getElem_drop]
    exact .inl this
  refine ⟨?_, fun x => ?_, ?_⟩
  · rw [List.append_assoc, List.pairwise_append]
    refine ⟨p1, ?_, ?_⟩
    · rw [List.singleton_append, List.pairwise_cons]; exact ⟨back, p2⟩
    · intro x hx y hy
      rcases List.mem_append.1 hy with hy | hy
      · simp at hy; subst hy; exact front x hx
      · exact p3 x hx y hy
  · have hm := h.mem x
    constructor
    · intro hx
      rcases List.mem_append.1 hx with hx | hx
      · rcases List.mem_append.1 hx with hx | hx
        · have := (h.mem x).1 (List.mem_of_mem_take hx); omega
        · simp at hx; omega
      · have := (h.mem x).1 (List.mem_of_mem_drop hx); omega
    · intro hx
      by_cases e : x = i
      · subst e; simp
      · have := hm.2 (by omega)
        rw [hsplit] at this
        rcases List.mem_append.1 this with h1 | h1
        · simp [h1]
        · simp [h1]
  · simp only [List.length_append, List.length_take, List.length_drop, List.length_cons, List.length_nil]; omega

theorem lit_ge {B n c m b : Nat} (hb : some b = (Value.slice (some ⟨B, 0, none⟩) n c).ownBlock) (h : m ≤ B) : m ≤ b := by
  have : b = B := Option.some.inj hb
  omega
theorem lit_ne {B P n c n' c' n'' c'' : Nat} {A : Addr} (e : (Value.slice (some ⟨P, 0, none⟩) n c) = .slice (some A) n' c') (hT : some A.block = (Value.slice (some ⟨B, 0, none⟩) n'' c'').ownBlock) (h : P ≠ B) : False := by
  injection e with e1 _ _
  injection e1 with e1
  subst e1
  exact h (Option.some.inj hT)
set_option maxRecDepth 100000 in
set_option maxHeartbeats 4000000 in
theorem refOrder_any (w : World) (v : Value) (ys : List Int) (h : Rd (ei .u64) 1 w v ys) (hm : ys.length ≤ 100000000) (hy : ∀ y ∈ ys, 0 ≤ y ∧ y ≤ 18446744073709551615) :
    Calls Try.prog 40 #[v] w fun e w' => ∃ v', e = .returned v' ∧ Own (ei .i64) 1 3 w' w.heap.size v' (orderL ys) ∧ Below w.heap.size w w' := by
  obtain ⟨A, c, rfl⟩ := h.slice
  have hl := h.at_.2.2.1
  go_enter Try.func40, Try.ntmps40
  go_wp2
  go_loopw [3, 4] (fun v i wr => ∃ (k : Nat) (O : List Int) (g cap : Nat), v = .slice (some ⟨g, 0, none⟩) k cap ∧ k ≤ cap ∧ k ≤ ys.length ∧ i = .int .i64 k ∧ Sec (Ordd ys O k) ∧ Own (ei .i64) 1 3 wr w.heap.size v O ∧ Below w.heap.size w wr) (fun _ i _ => ys.length - (intOf i).toNat)
  case atStart => exact ⟨0, [], _, 0, rfl, Nat.le_refl _, Nat.zero_le _, rfl, ⟨Ordd.start ys⟩, Own.lit _ _ _ _ _ _ (ei_len _) rfl rfl (Nat.le_refl _) (by omega), (Below.refl _ _).alloc (Nat.le_refl _) _⟩
  case round =>
    obtain ⟨k, O, g, cap, rfl, hkc, hk, rfl, hOd, hO, hB⟩ := hrel
    by_cases h1 : k < ys.length
    · obtain ⟨b, off, rfl, hbl, hc0⟩ := h.int k h1
      obtain ⟨wo, rfl⟩ : ∃ wo : World, wo = wr := ⟨_, rfl⟩
      have hci := (hB.cell (p := ⟨b, off + k, none⟩) hbl).trans hc0
      clear hc0
      have hRO := hO.rd
      go_wp2
      go_loopw [5] (fun av w2 => ∃ a : Nat, a ≤ k ∧ av = .int .i64 a ∧ Sec (∀ m, a ≤ m → m < k → nth 0 ys k < nth 0 ys (nth 0 O m).toNat) ∧ ∃ n, w2 = wo.drewN n) (fun av _ => (intOf av).toNat)
      case atStart => exact ⟨k, Nat.le_refl _, rfl, ⟨fun m h1 h2 => absurd h1 (by omega)⟩, 0, rfl⟩
      case round =>
        obtain ⟨a, ha, rfl, hS, n, rfl⟩ := hrel
        by_cases hx : a = 0 ∨ nth 0 ys (nth 0 O (a - 1)).toNat ≤ nth 0 ys k
        · have hins := Sec.mk (hOd.out.ins ha hS.out hx)
          have hOl : O.length = k := hOd.out.len
          by_cases h0 : a = 0
          · have hac : a ≤ cap := Nat.le_trans ha hkc
            have hpos : decide ((0 : Int) < (a : Int)) = false := decide_eq_false (by omega)
            have hpos' : decide (0 < a) = false := decide_eq_false (by omega)
            have HL := Sec.mk hOl
            have H0 := Sec.mk h0
            clear hOl hx h0
            go_wp2
            go_quiet (fail)
            go_wp2
            go_region_law ((first | (refine step_app (by rfl) (.tmp 34) (.tmp 37) 51 (by rfl) wo.heap.size 3 _ 8 Try.underlying51 infoI rfl (by decide) (by rfl) (by first | exact (Own.litAt _ _ _ _ #[] [] 0 (by first | rfl | simp) (ei_len _) rfl rfl (by simp) (by decide)) | exact (Own.litAt _ _ _ _ #[] [] 0 (by first | rfl | simp) (ei_len _) rfl rfl (by simp) (by decide)).alloc _) _ (O.take a) (by rfl) ((hRO.take a ha).chg (by repeat (first | exact Chg.refl _ _ | assumption | apply Chg.alloc | apply Chg.drewN | apply Chg.drew))) (ei_one _) (by have hOl := hOd.out.len; rw [List.length_take]; simp only [List.length_nil]; omega) (by decide) (by simp <;> omega) ?_; intro v1 w1 hO1 hC1 hat1; have hW1 : Chg (fun b => wo.heap.size ≤ b) wo w1 := (Chg.trans (w1 := _) (by repeat (first | exact Chg.refl _ _ | assumption | apply Chg.alloc | apply Chg.drewN | apply Chg.drew)) hC1 (fun b hb => .inl (lit_ge hb (by simp)))); first | have hP1 : Rd (ei .i64) 1 w1 (.slice (some ⟨wo.heap.size + 1, 0, none⟩) 1 1) [(k : Int)] := (((Own.litAt (3) _ (wo.heap.size + 1) 0 #[.int .i64 (k : Int)] [(k : Int)] 1 (by first | rfl | simp) (ei_len .i64) rfl rfl (Nat.zero_le _) (by decide)).rd).keep hC1 (fun A n c e hT => lit_ne e hT (by simp))) | have hP1 : Rd (ei .i64) 1 w1 (.slice (some ⟨wo.heap.size, 0, none⟩) 1 1) [(k : Int)] := ((((Own.litAt (3) _ wo.heap.size 0 #[.int .i64 (k : Int)] [(k : Int)] 1 (by first | rfl | simp) (ei_len .i64) rfl rfl (Nat.zero_le _) (by decide)).rd).chg (Chg.alloc (Chg.refl _ _) _)).keep hC1 (fun A n c e hT => lit_ne e hT (by simp))) | skip) | (refine step_app (by rfl) (.tmp 38) (.tmp 40) 51 (by rfl) wo.heap.size 3 _ 8 Try.underlying51 infoI rfl (by decide) (by rfl) (by first | exact hO1 | exact hO1.alloc _) _ [(k : Int)] (by rfl) (by first | exact hP1 | exact ((Own.litAt (3) _ _ 0 #[.int .i64 (k : Int)] [(k : Int)] 1 (by first | rfl | simp) (ei_len .i64) rfl rfl (Nat.zero_le _) (by decide)).rd)) (ei_one _) (by have hOl := hOd.out.len; simp only [List.nil_append, List.length_take, List.length_cons, List.length_nil]; omega) (by decide) (by have := hW1.size; simp; omega) ?_; intro v2 w2 hO2 hC2 hat2; have hW2 : Chg (fun b => wo.heap.size ≤ b) wo w2 := (Chg.trans (w1 := _) (by repeat (first | exact Chg.refl _ _ | assumption | apply Chg.alloc | apply Chg.drewN | apply Chg.drew)) hC2 (fun b hb => .inr (hO1.lt b hb.symm).1))) | (refine step_app (by rfl) (.tmp 41) (.tmp 44) 51 (by rfl) wo.heap.size 3 _ 8 Try.underlying51 infoI rfl (by decide) (by rfl) hO2 _ (O.drop a) (by rfl) ((hRO.drop (k := a) ha (fun h => by first | (rw [if_neg (by omega)]; simp) | (simp; omega)) (by omega)).chg hW2) (ei_one _) (by have hOl := hOd.out.len; simp only [List.nil_append, List.length_append, List.length_take, List.length_drop, List.length_cons, List.length_nil]; omega) (by decide) hW2.size ?_; intro v3 w3 hO3 hC3 hat3; have hW3 : Chg (fun b => wo.heap.size ≤ b) wo w3 := hW2.trans hC3 (fun b hb => .inr (hO2.lt b hb.symm).1))))
            all_goals
              have hO4 : Own (ei .i64) 1 3 w3 w.heap.size v3 (O.take a ++ [(k : Int)] ++ O.drop a) := by
                rw [List.nil_append] at hO3
                exact hO3.lower hB.size
              have hl4 : (O.take a ++ [(k : Int)] ++ O.drop a).length = k + 1 := hins.out.len
              obtain ⟨g4, cap4, rfl, _, _, hc4, _, _⟩ := hO4.rowN hl4 (Nat.succ_pos k)
              have hB4 : Below w.heap.size w w3 := hB.trans ((hW3.below (fun _ h => h)).mono hB.size)
              clear hO1 hO2 hO3 hC1 hC2 hC3 hat1 hat2 hat3 hW1 hW2 hW3 hO hB hRO
              go_wp2
              go_roundw
              case rel => exact ⟨k + 1, _, g4, cap4, rfl, hc4, by omega, by go_num, hins, hO4, hB4⟩
              case measure => simp [intOf]; omega
          · have hle := hx.resolve_left h0
            clear hx
            have hx := hle
            clear hle
            obtain ⟨j, hj⟩ : ∃ j, j = a - 1 := ⟨a - 1, rfl⟩
            have hw1 : IntKind.i64.wrap ((a : Int) - 1) = (j : Int) := by
              rw [IntWalk.i64_in _ (by omega)]; omega
            have hpos : decide ((0 : Int) < (a : Int)) = true := decide_eq_true (by omega)
            have hpos' : decide (0 < a) = true := decide_eq_true (by omega)
            have hJ := Sec.mk hj
            have hja : j < a := by omega
            rw [← hj] at hx
            clear hj
            have hm' := (hOd.out.mem (nth 0 O j)).1 (by rw [nth_eq 0 O j (by omega)]; exact List.getElem_mem _)
            obtain ⟨q, hq⟩ : ∃ q : Nat, nth 0 O j = (q : Int) := ⟨(nth 0 O j).toNat, by omega⟩
            have hql : q < ys.length := by omega
            obtain ⟨b2, off2, hA2, hbl2, hcq⟩ := h.int q hql
            have e2 : b2 = b ∧ off2 = off := by
              injection hA2 with e; injection e with e1 e2; exact ⟨e1.symm, e2.symm⟩
            obtain ⟨rfl, rfl⟩ := e2
            have hcq' := (hB.cell (p := ⟨b2, off2 + q, none⟩) hbl2).trans hcq
            obtain ⟨hn1, hn2, hn3, hgr⟩ := hRO.at_
            clear hn1 hn2 hn3
            obtain ⟨g2, o2, hg2, _, hgc⟩ := hgr (by omega)
            injection hg2 with hg2
            injection hg2 with hg2 ho2 _
            subst hg2 ho2
            have hcj := hgc j _ (nth_get 0 O j (by omega)) 0 _ rfl
            rw [Nat.mul_one, Nat.add_zero, hq] at hcj
            rw [Nat.zero_add] at hcj
            rw [hq, Int.toNat_natCast] at hx
            have hjk : j < k := by omega
            have hac : a ≤ cap := Nat.le_trans ha hkc
            have HQ := Sec.mk hq
            clear hgr hgc hA2 hcq hq hm' hOl
            have hd : decide (nth 0 ys k < nth 0 ys q) = false := decide_eq_false (by omega)
            go_wp2
            go_quiet (fail)
            clear hw1
            go_wp2
            go_region_law ((first | (refine step_app (by rfl) (.tmp 34) (.tmp 37) 51 (by rfl) wo.heap.size 3 _ 8 Try.underlying51 infoI rfl (by decide) (by rfl) (by first | exact (Own.litAt _ _ _ _ #[] [] 0 (by first | rfl | simp) (ei_len _) rfl rfl (by simp) (by decide)) | exact (Own.litAt _ _ _ _ #[] [] 0 (by first | rfl | simp) (ei_len _) rfl rfl (by simp) (by decide)).alloc _) _ (O.take a) (by rfl) ((hRO.take a ha).chg (by repeat (first | exact Chg.refl _ _ | assumption | apply Chg.alloc | apply Chg.drewN | apply Chg.drew))) (ei_one _) (by have hOl := hOd.out.len; rw [List.length_take]; simp only [List.length_nil]; omega) (by decide) (by simp <;> omega) ?_; intro v1 w1 hO1 hC1 hat1; have hW1 : Chg (fun b => wo.heap.size ≤ b) wo w1 := (Chg.trans (w1 := _) (by repeat (first | exact Chg.refl _ _ | assumption | apply Chg.alloc | apply Chg.drewN | apply Chg.drew)) hC1 (fun b hb => .inl (lit_ge hb (by simp)))); first | have hP1 : Rd (ei .i64) 1 w1 (.slice (some ⟨wo.heap.size + 1, 0, none⟩) 1 1) [(k : Int)] := (((Own.litAt (3) _ (wo.heap.size + 1) 0 #[.int .i64 (k : Int)] [(k : Int)] 1 (by first | rfl | simp) (ei_len .i64) rfl rfl (Nat.zero_le _) (by decide)).rd).keep hC1 (fun A n c e hT => lit_ne e hT (by simp))) | have hP1 : Rd (ei .i64) 1 w1 (.slice (some ⟨wo.heap.size, 0, none⟩) 1 1) [(k : Int)] := ((((Own.litAt (3) _ wo.heap.size 0 #[.int .i64 (k : Int)] [(k : Int)] 1 (by first | rfl | simp) (ei_len .i64) rfl rfl (Nat.zero_le _) (by decide)).rd).chg (Chg.alloc (Chg.refl _ _) _)).keep hC1 (fun A n c e hT => lit_ne e hT (by simp))) | skip) | (refine step_app (by rfl) (.tmp 38) (.tmp 40) 51 (by rfl) wo.heap.size 3 _ 8 Try.underlying51 infoI rfl (by decide) (by rfl) (by first | exact hO1 | exact hO1.alloc _) _ [(k : Int)] (by rfl) (by first | exact hP1 | exact ((Own.litAt (3) _ _ 0 #[.int .i64 (k : Int)] [(k : Int)] 1 (by first | rfl | simp) (ei_len .i64) rfl rfl (Nat.zero_le _) (by decide)).rd)) (ei_one _) (by have hOl := hOd.out.len; simp only [List.nil_append, List.length_take, List.length_cons, List.length_nil]; omega) (by decide) (by have := hW1.size; simp; omega) ?_; intro v2 w2 hO2 hC2 hat2; have hW2 : Chg (fun b => wo.heap.size ≤ b) wo w2 := (Chg.trans (w1 := _) (by repeat (first | exact Chg.refl _ _ | assumption | apply Chg.alloc | apply Chg.drewN | apply Chg.drew)) hC2 (fun b hb => .inr (hO1.lt b hb.symm).1))) | (refine step_app (by rfl) (.tmp 41) (.tmp 44) 51 (by rfl) wo.heap.size 3 _ 8 Try.underlying51 infoI rfl (by decide) (by rfl) hO2 _ (O.drop a) (by rfl) ((hRO.drop (k := a) ha (fun h => by first | (rw [if_neg (by omega)]; simp) | (simp; omega)) (by omega)).chg hW2) (ei_one _) (by have hOl := hOd.out.len; simp only [List.nil_append, List.length_append, List.length_take, List.length_drop, List.length_cons, List.length_nil]; omega) (by decide) hW2.size ?_; intro v3 w3 hO3 hC3 hat3; have hW3 : Chg (fun b => wo.heap.size ≤ b) wo w3 := hW2.trans hC3 (fun b hb => .inr (hO2.lt b hb.symm).1))))
            all_goals
              have hO4 : Own (ei .i64) 1 3 w3 w.heap.size v3 (O.take a ++ [(k : Int)] ++ O.drop a) := by
                rw [List.nil_append] at hO3
                exact hO3.lower hB.size
              have hl4 : (O.take a ++ [(k : Int)] ++ O.drop a).length = k + 1 := hins.out.len
              obtain ⟨g4, cap4, rfl, _, _, hc4, _, _⟩ := hO4.rowN hl4 (Nat.succ_pos k)
              have hB4 : Below w.heap.size w w3 := hB.trans ((hW3.below (fun _ h => h)).mono hB.size)
              clear hO1 hO2 hO3 hC1 hC2 hC3 hat1 hat2 hat3 hW1 hW2 hW3 hO hB hRO
              go_wp2
              go_roundw
              case rel => exact ⟨k + 1, _, g4, cap4, rfl, hc4, by omega, by go_num, hins, hO4, hB4⟩
              case measure => simp [intOf]; omega
        · have h0 : ¬ a = 0 := fun h => hx (.inl h)
          have hlt := fun h => hx (.inr h)
          clear hx
          have hx := Int.not_le.1 hlt
          clear hlt
          have hOl : O.length = k := hOd.out.len
          obtain ⟨j, hj⟩ : ∃ j, j = a - 1 := ⟨a - 1, rfl⟩
          have hw1 : IntKind.i64.wrap ((a : Int) - 1) = (j : Int) := by
            rw [IntWalk.i64_in _ (by omega)]; omega
          have hpos : decide ((0 : Int) < (a : Int)) = true := decide_eq_true (by omega)
          have hpos' : decide (0 < a) = true := decide_eq_true (by omega)
          have hJ := Sec.mk hj
          have hja : j < a := by omega
          rw [← hj] at hx
          clear hj
          have hm' := (hOd.out.mem (nth 0 O j)).1 (by rw [nth_eq 0 O j (by omega)]; exact List.getElem_mem _)
          obtain ⟨q, hq⟩ : ∃ q : Nat, nth 0 O j = (q : Int) := ⟨(nth 0 O j).toNat, by omega⟩
          have hql : q < ys.length := by omega
          obtain ⟨b2, off2, hA2, hbl2, hcq⟩ := h.int q hql
          have e2 : b2 = b ∧ off2 = off := by
            injection hA2 with e; injection e with e1 e2; exact ⟨e1.symm, e2.symm⟩
          obtain ⟨rfl, rfl⟩ := e2
          have hcq' := (hB.cell (p := ⟨b2, off2 + q, none⟩) hbl2).trans hcq
          obtain ⟨hn1, hn2, hn3, hgr⟩ := hRO.at_
          clear hn1 hn2 hn3
          obtain ⟨g2, o2, hg2, _, hgc⟩ := hgr (by omega)
          injection hg2 with hg2
          injection hg2 with hg2 ho2 _
          subst hg2 ho2
          have hcj := hgc j _ (nth_get 0 O j (by omega)) 0 _ rfl
          rw [Nat.mul_one, Nat.add_zero, hq] at hcj
          rw [Nat.zero_add] at hcj
          rw [hq, Int.toNat_natCast] at hx
          have hjk : j < k := by omega
          have hac : a ≤ cap := Nat.le_trans ha hkc
          have HQ := Sec.mk hq
          clear hgr hgc hA2 hcq hq hm' hOl
          have hd : decide (nth 0 ys k < nth 0 ys q) = true := decide_eq_true (by omega)
          go_wp2
          go_quiet (fail)
          clear hw1
          go_wp2
          go_roundw
          case rel => exact ⟨j, by omega, by have := hJ.out; go_num, ⟨fun m h1 h2 => by
            by_cases e : m = j
            · rw [e, HQ.out]; exact hx
            · exact hS.out m (by have := hJ.out; omega) h2⟩, _, rfl⟩
          case measure => simp [intOf]; omega
    · obtain rfl : k = ys.length := by omega
      have he := order_eq ys O hy hOd.out.rise (fun x => by rw [hOd.out.mem])
      rw [he] at hO
      clear he
      go_wp2
      go_ret
      exact ⟨_, rfl, hO, hB⟩
end Go.Proofs.Ytndlcfdlhliljaa.Rx
