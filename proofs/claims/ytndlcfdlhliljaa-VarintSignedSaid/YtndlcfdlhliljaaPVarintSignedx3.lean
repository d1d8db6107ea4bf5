-- PRINTED BY print.sh 35421559b90ae4d0a3588c463048766b98c2df88dd9212a6774a882060cdf62d: not written by this session
import Derived.Test.YtndlcfdlhliljaaPVarintSignedx0
import Derived.Test.YtndlcfdlhliljaaPVarintSignedx1
import Derived.Test.YtndlcfdlhliljaaPVarintSignedx2
namespace Go.Proofs.Ytndlcfdlhliljaa.PVarintSigned
open Go.RowKit Go.Proofs.YtndlcfdlhliljaaW.PrintWords Go.Proofs.YtndlcfdlhliljaaW.PrintLast Go.Proofs.YtndlcfdlhliljaaW.PrintMore
attribute [local go_sem] max2_int min2_int max_two min_two max_three min_three max_four min_four   -- for this text's walks alone
set_option linter.unusedVariables false
set_option linter.unusedSimpArgs false

/-! ### bridlewaylaw02_VarintSigned: function 3 -/
def bridlewaylaw02_VarintSigned.j0 : Nat → Int → ByteArray → ByteArray → Int → Bool → Option (Bool)
  | 0, _, _, _, _, _ => none
  | k + 1, x1, x2, x7, x9, x54 => if x54 = true then (some false) else (if 0 ≤ x9 then (if x9 ≤ (x7.size : Int) then (if (x7.extract (x9 : Int).toNat x7.size).size + x2.size ≤ 9223372036854775807 then ((varint_GetSigned.f k ((x7.extract (x9 : Int).toNat x7.size) ++ x2)).bind fun bt151 => ((varint_GetSigned.f k x2).bind fun bt154 => ((bridlewayref02_Get.f k x2).bind fun bt157 => (if bt151.1 = x1 then (if bt151.2.1 = (wrap64 ((x7.size : Int) - x9)) then (if bt151.2.2 = 0 then (if bt154.2.2 = bt157.2.2 then ((bridlewaylaw02_lives.f k).bind fun t160 => (some t160)) else (some false)) else (some false)) else (some false)) else (some false))))) else (none)) else (none)) else (none))
def bridlewaylaw02_VarintSigned.f (k : Nat) (a0 : Int) (a1 : Int) (a2 : ByteArray) : Option (Bool) := (bridlewaylaw02_Cut.f a2 20).bind fun t140 => ((varint_Signed.f k (([a0, a1] : List Int))).bind fun t144 => ((bridlewayref02_Signed.f k a0).bind fun t145 => ((bridlewayref02_Signed.f k a1).bind fun t146 => (if t145.size + t146.size ≤ 9223372036854775807 then (if t144.toList = (t145 ++ t146).toList then (if t144.size + t140.size ≤ 9223372036854775807 then ((varint_GetSigned.f k (t144 ++ t140)).bind fun bt147 => (if bt147.1 = a0 then ((bridlewayref02_Signed.f k a0).bind fun t150 => (if bt147.2.1 = (t150.size : Int) then (bridlewaylaw02_VarintSigned.j0 k a1 t140 t144 bt147.2.1 (bt147.2.2 != 0)) else (bridlewaylaw02_VarintSigned.j0 k a1 t140 t144 bt147.2.1 true))) else (bridlewaylaw02_VarintSigned.j0 k a1 t140 t144 bt147.2.1 true))) else (none)) else (some false)) else (none)))))
theorem bridlewaylaw02_VarintSigned.mono_l : ∀ k, (∀ y0 y1 y2 y3 y4, LeO (bridlewaylaw02_VarintSigned.j0 k y0 y1 y2 y3 y4) (bridlewaylaw02_VarintSigned.j0 (k + 1) y0 y1 y2 y3 y4))
  | 0 => fun _ _ _ _ _ r h => by simp [bridlewaylaw02_VarintSigned.j0] at h
  | k + 1 => by
    have ih0 := bridlewaylaw02_VarintSigned.mono_l k
    · intro y0 y1 y2 y3 y4
      unfold bridlewaylaw02_VarintSigned.j0
      repeat' first
      | (with_reducible exact ih0 _ _ _ _ _)
      | (with_reducible exact bridlewaylaw02_lives.mono _)
      | (with_reducible exact bridlewayref02_Get.mono _ _)
      | (with_reducible exact bridlewayref02_Signed.mono _ _)
      | (with_reducible exact varint_GetSigned.mono _ _)
      | (with_reducible exact varint_Signed.mono _ _)
      | (with_reducible exact LeO.refl _)
      | (with_reducible exact LeO.none _)
      | (with_reducible refine LeO.ite ?_ ?_)
      | (with_reducible refine LeO.bind ?_ (fun _ => ?_))
      | exact ih0 _ _ _ _ _
      | exact bridlewaylaw02_lives.mono _
      | exact bridlewayref02_Get.mono _ _
      | exact bridlewayref02_Signed.mono _ _
      | exact varint_GetSigned.mono _ _
      | exact varint_Signed.mono _ _
      | exact LeO.none _
      | refine LeO.ite ?_ ?_
      | refine LeO.bind ?_ (fun _ => ?_)
theorem bridlewaylaw02_VarintSigned.mono : ∀ a0 a1 a2 k, LeO (bridlewaylaw02_VarintSigned.f k a0 a1 a2) (bridlewaylaw02_VarintSigned.f (k + 1) a0 a1 a2) := by
  intro a0 a1 a2 k
  have ih0 := bridlewaylaw02_VarintSigned.mono_l k
  unfold bridlewaylaw02_VarintSigned.f
  repeat' first
      | (with_reducible exact ih0 _ _ _ _ _)
      | (with_reducible exact bridlewaylaw02_lives.mono _)
      | (with_reducible exact bridlewayref02_Get.mono _ _)
      | (with_reducible exact bridlewayref02_Signed.mono _ _)
      | (with_reducible exact varint_GetSigned.mono _ _)
      | (with_reducible exact varint_Signed.mono _ _)
      | (with_reducible exact LeO.refl _)
      | (with_reducible exact LeO.none _)
      | (with_reducible refine LeO.ite ?_ ?_)
      | (with_reducible refine LeO.bind ?_ (fun _ => ?_))
      | exact ih0 _ _ _ _ _
      | exact bridlewaylaw02_lives.mono _
      | exact bridlewayref02_Get.mono _ _
      | exact bridlewayref02_Signed.mono _ _
      | exact varint_GetSigned.mono _ _
      | exact varint_Signed.mono _ _
      | exact LeO.none _
      | refine LeO.ite ?_ ?_
      | refine LeO.bind ?_ (fun _ => ?_)
set_option maxHeartbeats 8000000 in
set_option maxRecDepth 100000 in
theorem bridlewaylaw02_VarintSigned.calls (k : Nat) (a0 : Int) (a1 : Int) (a2 : ByteArray) (r : Bool) (w : World) (h : bridlewaylaw02_VarintSigned.f k a0 a1 a2 = some r) :
    Calls Try.prog 3 #[.int .i64 a0, .int .i64 a1, .string a2] w fun e w' => e = .returned (.bool r) ∧ Below w.heap.size w w' := by
  have HB := Aside0.mk (Below.refl w.heap.size w)
  have H : ((bridlewaylaw02_Cut.f a2 20).bind fun t140 => ((varint_Signed.f k (([a0, a1] : List Int))).bind fun t144 => ((bridlewayref02_Signed.f k a0).bind fun t145 => ((bridlewayref02_Signed.f k a1).bind fun t146 => (if t145.size + t146.size ≤ 9223372036854775807 then (if t144.toList = (t145 ++ t146).toList then (if t144.size + t140.size ≤ 9223372036854775807 then ((varint_GetSigned.f k (t144 ++ t140)).bind fun bt147 => (if bt147.1 = a0 then ((bridlewayref02_Signed.f k a0).bind fun t150 => (if bt147.2.1 = (t150.size : Int) then (bridlewaylaw02_VarintSigned.j0 k a1 t140 t144 bt147.2.1 (bt147.2.2 != 0)) else (bridlewaylaw02_VarintSigned.j0 k a1 t140 t144 bt147.2.1 true))) else (bridlewaylaw02_VarintSigned.j0 k a1 t140 t144 bt147.2.1 true))) else (none)) else (some false)) else (none)))))) = some r := h
  clear h
  replace H := Option.bind_eq_some_iff.mp H
  obtain ⟨t140, A40, H⟩ := H
  replace H : ((varint_Signed.f k (([a0, a1] : List Int))).bind fun t144 => ((bridlewayref02_Signed.f k a0).bind fun t145 => ((bridlewayref02_Signed.f k a1).bind fun t146 => (if t145.size + t146.size ≤ 9223372036854775807 then (if t144.toList = (t145 ++ t146).toList then (if t144.size + t140.size ≤ 9223372036854775807 then ((varint_GetSigned.f k (t144 ++ t140)).bind fun bt147 => (if bt147.1 = a0 then ((bridlewayref02_Signed.f k a0).bind fun t150 => (if bt147.2.1 = (t150.size : Int) then (bridlewaylaw02_VarintSigned.j0 k a1 t140 t144 bt147.2.1 (bt147.2.2 != 0)) else (bridlewaylaw02_VarintSigned.j0 k a1 t140 t144 bt147.2.1 true))) else (bridlewaylaw02_VarintSigned.j0 k a1 t140 t144 bt147.2.1 true))) else (none)) else (some false)) else (none))))) = some r := H
  have A4 := Aside0.mk A40
  clear A40
  obtain ⟨y141, hy141⟩ : ∃ y_ : List Int, y_ = (([a0, a1] : List Int)) := ⟨_, rfl⟩
  replace H : ((varint_Signed.f k y141).bind fun t144 => ((bridlewayref02_Signed.f k a0).bind fun t145 => ((bridlewayref02_Signed.f k a1).bind fun t146 => (if t145.size + t146.size ≤ 9223372036854775807 then (if t144.toList = (t145 ++ t146).toList then (if t144.size + t140.size ≤ 9223372036854775807 then ((varint_GetSigned.f k (t144 ++ t140)).bind fun bt147 => (if bt147.1 = a0 then ((bridlewayref02_Signed.f k a0).bind fun t150 => (if bt147.2.1 = (t150.size : Int) then (bridlewaylaw02_VarintSigned.j0 k a1 t140 t144 bt147.2.1 (bt147.2.2 != 0)) else (bridlewaylaw02_VarintSigned.j0 k a1 t140 t144 bt147.2.1 true))) else (bridlewaylaw02_VarintSigned.j0 k a1 t140 t144 bt147.2.1 true))) else (none)) else (some false)) else (none))))) = some r := by first | (rw [hy141]; with_reducible exact H) | (have H2_ := (Option.bind_some _ _).symm.trans H; rw [hy141]; with_reducible exact H2_) | (have H2_ := (Option.bind_some _ _).symm.trans H; with_reducible exact H2_) | with_reducible exact H | (rw [hy141]; exact H) | exact H
  have Ny141 := Aside0.mk hy141
  clear hy141
  replace H := Option.bind_eq_some_iff.mp H
  obtain ⟨t144, A50, H⟩ := H
  replace H : ((bridlewayref02_Signed.f k a0).bind fun t145 => ((bridlewayref02_Signed.f k a1).bind fun t146 => (if t145.size + t146.size ≤ 9223372036854775807 then (if t144.toList = (t145 ++ t146).toList then (if t144.size + t140.size ≤ 9223372036854775807 then ((varint_GetSigned.f k (t144 ++ t140)).bind fun bt147 => (if bt147.1 = a0 then ((bridlewayref02_Signed.f k a0).bind fun t150 => (if bt147.2.1 = (t150.size : Int) then (bridlewaylaw02_VarintSigned.j0 k a1 t140 t144 bt147.2.1 (bt147.2.2 != 0)) else (bridlewaylaw02_VarintSigned.j0 k a1 t140 t144 bt147.2.1 true))) else (bridlewaylaw02_VarintSigned.j0 k a1 t140 t144 bt147.2.1 true))) else (none)) else (some false)) else (none)))) = some r := H
  have A5 := Aside0.mk A50
  clear A50
  replace H := Option.bind_eq_some_iff.mp H
  obtain ⟨t145, A60, H⟩ := H
  replace H : ((bridlewayref02_Signed.f k a1).bind fun t146 => (if t145.size + t146.size ≤ 9223372036854775807 then (if t144.toList = (t145 ++ t146).toList then (if t144.size + t140.size ≤ 9223372036854775807 then ((varint_GetSigned.f k (t144 ++ t140)).bind fun bt147 => (if bt147.1 = a0 then ((bridlewayref02_Signed.f k a0).bind fun t150 => (if bt147.2.1 = (t150.size : Int) then (bridlewaylaw02_VarintSigned.j0 k a1 t140 t144 bt147.2.1 (bt147.2.2 != 0)) else (bridlewaylaw02_VarintSigned.j0 k a1 t140 t144 bt147.2.1 true))) else (bridlewaylaw02_VarintSigned.j0 k a1 t140 t144 bt147.2.1 true))) else (none)) else (some false)) else (none))) = some r := H
  have A6 := Aside0.mk A60
  clear A60
  replace H := Option.bind_eq_some_iff.mp H
  obtain ⟨t146, A70, H⟩ := H
  replace H : (if t145.size + t146.size ≤ 9223372036854775807 then (if t144.toList = (t145 ++ t146).toList then (if t144.size + t140.size ≤ 9223372036854775807 then ((varint_GetSigned.f k (t144 ++ t140)).bind fun bt147 => (if bt147.1 = a0 then ((bridlewayref02_Signed.f k a0).bind fun t150 => (if bt147.2.1 = (t150.size : Int) then (bridlewaylaw02_VarintSigned.j0 k a1 t140 t144 bt147.2.1 (bt147.2.2 != 0)) else (bridlewaylaw02_VarintSigned.j0 k a1 t140 t144 bt147.2.1 true))) else (bridlewaylaw02_VarintSigned.j0 k a1 t140 t144 bt147.2.1 true))) else (none)) else (some false)) else (none)) = some r := H
  have A7 := Aside0.mk A70
  clear A70
  by_cases c8 : t145.size + t146.size ≤ 9223372036854775807
  · rw [if_pos c8] at H
    have c8b0 := eq_true c8
    have c8b1 : decide (t145.size + t146.size ≤ 9223372036854775807) = true := decide_eq_true c8
    try have c8b2 : (9223372036854775807 < t145.size + t146.size) = False := eq_false (Nat.not_lt.2 c8)
    by_cases c9 : t144.toList = (t145 ++ t146).toList
    · rw [if_pos c9] at H
      have c9b0 : (t144.toList == (t145 ++ t146).toList) = true := beq_iff_eq.mpr c9
      have c9b1 : (t144.toList != (t145 ++ t146).toList) = false := bne_eq_false_iff_eq.mpr c9
      clear c9
      by_cases c10 : t144.size + t140.size ≤ 9223372036854775807
      · rw [if_pos c10] at H
        have c10b0 := eq_true c10
        have c10b1 : decide (t144.size + t140.size ≤ 9223372036854775807) = true := decide_eq_true c10
        try have c10b2 : (9223372036854775807 < t144.size + t140.size) = False := eq_false (Nat.not_lt.2 c10)
        replace H := Option.bind_eq_some_iff.mp H
        obtain ⟨⟨t147, t148, t149⟩, A110, H⟩ := H
        replace H : (if t147 = a0 then ((bridlewayref02_Signed.f k a0).bind fun t150 => (if t148 = (t150.size : Int) then (bridlewaylaw02_VarintSigned.j0 k a1 t140 t144 t148 (t149 != 0)) else (bridlewaylaw02_VarintSigned.j0 k a1 t140 t144 t148 true))) else (bridlewaylaw02_VarintSigned.j0 k a1 t140 t144 t148 true)) = some r := H
        have A11 := Aside0.mk A110
        clear A110
        have HC12 := Aside0.mk H
        clear H
        go_enter Try.func3, Try.ntmps3
        go_upto_region 6 with (first | ((with_reducible refine gate_callee (f := 11) rfl ?_); refine goesL_ (some 21) rfl rfl Try.func11 (by kernel_rfl) rfl #[.string a2, .int .i64 20] rfl (by (try simp only [List.map_toArray, List.map_cons, List.map_nil]); first | done | rfl | (simp only [List.length_drop, List.length_take]; rfl)) ?_; (with_reducible refine (bridlewaylaw02_Cut.calls a2 20 t140 _ A4.out).mono ?_); rintro e w' ⟨rfl, ⟨nd, rfl⟩⟩; refine ⟨_, rfl, ?_⟩) | ((with_reducible refine gate_dst (N := 24) rfl ?_); (try (refine gate_guard (by rfl) ?_; dsimp only)); refine Kd.R_lit (Kd.int .i64) _ 2 ?hg (N := 24) ?hd (xs := ([a0, a1] : List Int)) (inner := [.int .i64 a0, .int .i64 a1]) (ok := fun _ => True) (okp := fun _ => True) ?hr ?hp (fun _ hk => hk) trivial (Below.refl _ _) (Nat.le_refl _) (by simp) ?_; (case hd => rfl); (case hg => rfl); (case hr => first | (go_simp; done) | (go_simp; rfl)); (case hp => exact (Reps.one (show Kd.M (Kd.int .i64) _ _ _ a0 [.int .i64 a0] from rfl) (Reps.one (show Kd.M (Kd.int .i64) _ _ _ a1 [.int .i64 a1] from rfl) (Reps.none _ _)))); intro v142 w13 ho14 hb hg_ hnew_; clear hg_ hnew_; (first | rw [← Ny141.out] at ho14 | (simp only [Int.reduceToNat] at ho14; rw [← Ny141.out] at ho14)); have n0_ := Aside0.mk (Kd.R_lower ho14 (below_size (by repeat (first | (with_reducible first | exact HB.out | apply below_alloc | apply pw_below_drewN | apply below_drew1) | exact HB.out)))); have n1_ := Aside0.mk (below_step (by repeat (first | (with_reducible first | exact HB.out | apply below_alloc | apply pw_below_drewN | apply below_drew1) | exact HB.out)) hb); clear HB; have HO143 := n0_; have HB := n1_; clear n0_ n1_; clear hb ho14; obtain ⟨Ao15, co15, eo15⟩ := Kd.R_slice HO143.out; subst eo15) | ((with_reducible refine gate_callee (f := 12) rfl ?_); refine goesL_ (some 25) rfl rfl Try.func12 (by kernel_rfl) rfl #[.slice Ao15 y141.length co15] rfl (by (try simp only [List.map_toArray, List.map_cons, List.map_nil]); first | done | rfl | (simp only [List.length_drop, List.length_take]; rfl)) ?_; (with_reducible refine (varint_Signed.calls k _ _ y141 t144 _ ?side1 ?side2 A5.out).mono ?_); (case side1 => repeat (first | exact (Kd.R_reads' HO143.out).2.2 | (with_reducible refine Kd.C_alloc ?_ _) | (with_reducible refine Kd.C_drewN ?_ _) | (with_reducible refine Kd.C_drew ?_))); (case side2 => exact (Kd.R_reads' HO143.out).2.1); rintro e w16 ⟨rfl, hb⟩; refine ⟨_, rfl, ?_⟩; have n0_ := Aside0.mk (Kd.R_below (by (with_reducible repeat (first | apply Kd.R_alloc | apply Kd.R_drewN | apply Kd.R_drew)); exact HO143.out) hb); have n1_ := Aside0.mk (below_step (by repeat (first | (with_reducible first | exact HB.out | apply below_alloc | apply pw_below_drewN | apply below_drew1) | exact HB.out)) hb); clear HO143; clear HB; have HO143 := n0_; have HB := n1_; clear n0_ n1_; (try clear hb); (try clear hb2); (try clear hk); (try clear hi)) | ((with_reducible refine gate_callee (f := 13) rfl ?_); refine goesL_ (some 28) rfl rfl Try.func13 (by kernel_rfl) rfl #[.int .i64 a0] rfl (by (try simp only [List.map_toArray, List.map_cons, List.map_nil]); first | done | rfl | (simp only [List.length_drop, List.length_take]; rfl)) ?_; (with_reducible refine (bridlewayref02_Signed.calls k a0 t145 _ A6.out).mono ?_); rintro e w17 ⟨rfl, hb⟩; refine ⟨_, rfl, ?_⟩; have n0_ := Aside0.mk (Kd.R_below (by (with_reducible repeat (first | apply Kd.R_alloc | apply Kd.R_drewN | apply Kd.R_drew)); exact HO143.out) hb); have n1_ := Aside0.mk (below_step (by repeat (first | (with_reducible first | exact HB.out | apply below_alloc | apply pw_below_drewN | apply below_drew1) | exact HB.out)) hb); clear HO143; clear HB; have HO143 := n0_; have HB := n1_; clear n0_ n1_; (try clear hb); (try clear hb2); (try clear hk); (try clear hi)) | ((with_reducible refine gate_callee (f := 13) rfl ?_); refine goesL_ (some 30) rfl rfl Try.func13 (by kernel_rfl) rfl #[.int .i64 a1] rfl (by (try simp only [List.map_toArray, List.map_cons, List.map_nil]); first | done | rfl | (simp only [List.length_drop, List.length_take]; rfl)) ?_; (with_reducible refine (bridlewayref02_Signed.calls k a1 t146 _ A7.out).mono ?_); rintro e w18 ⟨rfl, hb⟩; refine ⟨_, rfl, ?_⟩; have n0_ := Aside0.mk (Kd.R_below (by (with_reducible repeat (first | apply Kd.R_alloc | apply Kd.R_drewN | apply Kd.R_drew)); exact HO143.out) hb); have n1_ := Aside0.mk (below_step (by repeat (first | (with_reducible first | exact HB.out | apply below_alloc | apply pw_below_drewN | apply below_drew1) | exact HB.out)) hb); clear HO143; clear HB; have HO143 := n0_; have HB := n1_; clear n0_ n1_; (try clear hb); (try clear hb2); (try clear hk); (try clear hi)) | ((with_reducible refine gate_callee (f := 14) rfl ?_); refine goesL_ (some 37) rfl rfl Try.func14 (by kernel_rfl) rfl #[.string (t144 ++ t140)] rfl (by (try simp only [List.map_toArray, List.map_cons, List.map_nil]); first | done | rfl | (simp only [List.length_drop, List.length_take]; rfl)) ?_; (with_reducible refine (varint_GetSigned.calls k (t144 ++ t140) t147 t148 t149 _ A11.out).mono ?_); rintro e w19 ⟨rfl, hb⟩; refine ⟨_, rfl, ?_⟩; have n0_ := Aside0.mk (Kd.R_below (by (with_reducible repeat (first | apply Kd.R_alloc | apply Kd.R_drewN | apply Kd.R_drew)); exact HO143.out) hb); have n1_ := Aside0.mk (below_step (by repeat (first | (with_reducible first | exact HB.out | apply below_alloc | apply pw_below_drewN | apply below_drew1) | exact HB.out)) hb); clear HO143; clear HB; have HO143 := n0_; have HB := n1_; clear n0_ n1_; (try clear hb); (try clear hb2); (try clear hk); (try clear hi)))
        (try simp only [Act.put, List.setIfInBounds_toArray, List.set_cons_zero, List.set_cons_succ])
        go_cut [54] (fun v54 wc => ∃ (kq : Nat) (x54_11 : Bool), v54 = .bool x54_11 ∧ Aside0 (bridlewaylaw02_VarintSigned.j0 kq a1 t140 t144 t148 x54_11 = some r) ∧ Aside0 (kq ≤ k) ∧ Aside0 (Below w.heap.size w wc))
        case first =>
          have H := HC12.out
          clear HC12
          by_cases c20 : t147 = a0
          · rw [if_pos c20] at H
            have c20b0 : (t147 == a0) = true := beq_iff_eq.mpr c20
            have c20b1 : (t147 != a0) = false := bne_eq_false_iff_eq.mpr c20
            clear c20
            (first | rw [c20b0] | (simp only [i64_w, i32_w]; rw [c20b0]) | skip)
            replace H := Option.bind_eq_some_iff.mp H
            obtain ⟨t150, A210, H⟩ := H
            replace H : (if t148 = (t150.size : Int) then (bridlewaylaw02_VarintSigned.j0 k a1 t140 t144 t148 (t149 != 0)) else (bridlewaylaw02_VarintSigned.j0 k a1 t140 t144 t148 true)) = some r := H
            have A21 := Aside0.mk A210
            clear A210
            by_cases c22 : t148 = (t150.size : Int)
            · rw [if_pos c22] at H
              have c22b0 : (t148 == (t150.size : Int)) = true := beq_iff_eq.mpr c22
              have c22b1 : (t148 != (t150.size : Int)) = false := bne_eq_false_iff_eq.mpr c22
              clear c22
              have H' := Aside0.mk H
              clear H
              go_wp2_with (first | (go_at_call 13; (with_reducible refine (bridlewayref02_Signed.calls k a0 t150 _ A21.out).mono ?_); rintro e w23 ⟨rfl, hb⟩; have n0_ := Aside0.mk (Kd.R_below (by (with_reducible repeat (first | apply Kd.R_alloc | apply Kd.R_drewN | apply Kd.R_drew)); exact HO143.out) hb); have n1_ := Aside0.mk (below_step (by repeat (first | (with_reducible first | exact HB.out | apply below_alloc | apply pw_below_drewN | apply below_drew1) | exact HB.out)) hb); clear HO143; clear HB; have HO143 := n0_; have HB := n1_; clear n0_ n1_; (try clear hb); (try clear hb2); (try clear hk); (try clear hi)))
              go_meet
              case rel => exact ⟨_, ((t149 != 0)), (by first | rfl | (simp; done) | (simp [*]; done)), H', ⟨by first | omega | exact Nat.le_refl _⟩, ⟨by repeat (first | (with_reducible first | exact HB.out | apply below_alloc | apply pw_below_drewN | apply below_drew1) | exact HB.out)⟩⟩
            · rw [if_neg c22] at H
              have c22b0 : (t148 == (t150.size : Int)) = false := beq_eq_false_iff_ne.mpr c22
              have c22b1 : (t148 != (t150.size : Int)) = true := bne_iff_ne.mpr c22
              have H' := Aside0.mk H
              clear H
              go_wp2_with (first | (go_at_call 13; (with_reducible refine (bridlewayref02_Signed.calls k a0 t150 _ A21.out).mono ?_); rintro e w24 ⟨rfl, hb⟩; have n0_ := Aside0.mk (Kd.R_below (by (with_reducible repeat (first | apply Kd.R_alloc | apply Kd.R_drewN | apply Kd.R_drew)); exact HO143.out) hb); have n1_ := Aside0.mk (below_step (by repeat (first | (with_reducible first | exact HB.out | apply below_alloc | apply pw_below_drewN | apply below_drew1) | exact HB.out)) hb); clear HO143; clear HB; have HO143 := n0_; have HB := n1_; clear n0_ n1_; (try clear hb); (try clear hb2); (try clear hk); (try clear hi)))
              go_meet
              case rel => exact ⟨_, (true), (by first | rfl | (simp; done) | (simp [*]; done)), H', ⟨by first | omega | exact Nat.le_refl _⟩, ⟨by repeat (first | (with_reducible first | exact HB.out | apply below_alloc | apply pw_below_drewN | apply below_drew1) | exact HB.out)⟩⟩
          · rw [if_neg c20] at H
            have c20b0 : (t147 == a0) = false := beq_eq_false_iff_ne.mpr c20
            have c20b1 : (t147 != a0) = true := bne_iff_ne.mpr c20
            (first | rw [c20b0] | (simp only [i64_w, i32_w]; rw [c20b0]) | skip)
            have H' := Aside0.mk H
            clear H
            go_wp2
            go_meet
            case rel => exact ⟨_, (true), (by first | rfl | (simp; done) | (simp [*]; done)), H', ⟨by first | omega | exact Nat.le_refl _⟩, ⟨by repeat (first | (with_reducible first | exact HB.out | apply below_alloc | apply pw_below_drewN | apply below_drew1) | exact HB.out)⟩⟩
        case rest =>
          clear HC12
          try clear c1
          try clear c2
          try clear p2
          try clear c3
          try clear c8
          try clear c8b0
          try clear c8b1
          try clear c8b2
          try clear c9
          try clear c9b0
          try clear c9b1
          try clear c10
          try clear c10b0
          try clear c10b1
          try clear c10b2
          try clear c11
          try clear c12
          try clear c13
          try clear c14
          try clear c20
          try clear c20b0
          try clear c20b1
          try clear c22
          try clear c22b0
          try clear c22b1
          obtain ⟨kq, x54_11, rfl, HA, HJ11, HB⟩ := hcut
          cases kq with
          | zero => exact absurd HA.out (by simp [bridlewaylaw02_VarintSigned.j0])
          | succ kj11 =>
            have H := HA.out
            clear HA
            simp only [bridlewaylaw02_VarintSigned.j0] at H
            by_cases c25 : x54_11 = true
            · subst c25
              have H1 : (some false) = some r := by rw [if_pos rfl] at H; exact H
              clear H
              have H := H1
              clear H1
              obtain rfl := Option.some.inj H
              go_wp2
              go_ret
              exact ⟨by first | rfl | (simp [errW_none, errW_some] <;> rfl) | (simp [*, errW_none, errW_some] <;> rfl), by repeat (first | (with_reducible first | exact HB.out | apply below_alloc | apply pw_below_drewN | apply below_drew1) | exact HB.out)⟩
            · replace c25 := Bool.eq_false_iff.mpr c25
              subst c25
              have H1 : (if 0 ≤ t148 then (if t148 ≤ (t144.size : Int) then (if (t144.extract (t148 : Int).toNat t144.size).size + t140.size ≤ 9223372036854775807 then ((varint_GetSigned.f kj11 ((t144.extract (t148 : Int).toNat t144.size) ++ t140)).bind fun bt151 => ((varint_GetSigned.f kj11 t140).bind fun bt154 => ((bridlewayref02_Get.f kj11 t140).bind fun bt157 => (if bt151.1 = a1 then (if bt151.2.1 = (wrap64 ((t144.size : Int) - t148)) then (if bt151.2.2 = 0 then (if bt154.2.2 = bt157.2.2 then ((bridlewaylaw02_lives.f kj11).bind fun t160 => (some t160)) else (some false)) else (some false)) else (some false)) else (some false))))) else (none)) else (none)) else (none)) = some r := by rw [if_neg (show ¬ (false = true) by decide)] at H; exact H
              clear H
              have H := H1
              clear H1
              by_cases c26 : 0 ≤ t148
              · rw [if_pos c26] at H
                have c26b0 := eq_true c26
                have c26b1 : decide (0 ≤ t148) = true := decide_eq_true c26
                clear c26
                by_cases c27 : t148 ≤ (t144.size : Int)
                · rw [if_pos c27] at H
                  have c27b0 := eq_true c27
                  have c27b1 : decide (t148 ≤ (t144.size : Int)) = true := decide_eq_true c27
                  clear c27
                  by_cases c28 : (t144.extract (t148 : Int).toNat t144.size).size + t140.size ≤ 9223372036854775807
                  · rw [if_pos c28] at H
                    have c28b0 := eq_true c28
                    have c28b1 : decide ((t144.extract (t148 : Int).toNat t144.size).size + t140.size ≤ 9223372036854775807) = true := decide_eq_true c28
                    try have c28b2 : (9223372036854775807 < (t144.extract (t148 : Int).toNat t144.size).size + t140.size) = False := eq_false (Nat.not_lt.2 c28)
                    replace H := Option.bind_eq_some_iff.mp H
                    obtain ⟨⟨t151, t152, t153⟩, A290, H⟩ := H
                    replace H : ((varint_GetSigned.f kj11 t140).bind fun bt154 => ((bridlewayref02_Get.f kj11 t140).bind fun bt157 => (if t151 = a1 then (if t152 = (wrap64 ((t144.size : Int) - t148)) then (if t153 = 0 then (if bt154.2.2 = bt157.2.2 then ((bridlewaylaw02_lives.f kj11).bind fun t160 => (some t160)) else (some false)) else (some false)) else (some false)) else (some false)))) = some r := H
                    have A29 := Aside0.mk A290
                    clear A290
                    replace H := Option.bind_eq_some_iff.mp H
                    obtain ⟨⟨t154, t155, t156⟩, A300, H⟩ := H
                    replace H : ((bridlewayref02_Get.f kj11 t140).bind fun bt157 => (if t151 = a1 then (if t152 = (wrap64 ((t144.size : Int) - t148)) then (if t153 = 0 then (if t156 = bt157.2.2 then ((bridlewaylaw02_lives.f kj11).bind fun t160 => (some t160)) else (some false)) else (some false)) else (some false)) else (some false))) = some r := H
                    have A30 := Aside0.mk A300
                    clear A300
                    replace H := Option.bind_eq_some_iff.mp H
                    obtain ⟨⟨t157, t158, t159⟩, A310, H⟩ := H
                    replace H : (if t151 = a1 then (if t152 = (wrap64 ((t144.size : Int) - t148)) then (if t153 = 0 then (if t156 = t159 then ((bridlewaylaw02_lives.f kj11).bind fun t160 => (some t160)) else (some false)) else (some false)) else (some false)) else (some false)) = some r := H
                    have A31 := Aside0.mk A310
                    clear A310
                    by_cases c32 : t151 = a1
                    · rw [if_pos c32] at H
                      have c32b0 : (t151 == a1) = true := beq_iff_eq.mpr c32
                      have c32b1 : (t151 != a1) = false := bne_eq_false_iff_eq.mpr c32
                      clear c32
                      by_cases c33 : t152 = (wrap64 ((t144.size : Int) - t148))
                      · rw [if_pos c33] at H
                        have c33b0 : (t152 == (wrap64 ((t144.size : Int) - t148))) = true := beq_iff_eq.mpr c33
                        have c33b1 : (t152 != (wrap64 ((t144.size : Int) - t148))) = false := bne_eq_false_iff_eq.mpr c33
                        clear c33
                        by_cases c34 : t153 = 0
                        · rw [if_pos c34] at H
                          have c34b0 : (t153 == 0) = true := beq_iff_eq.mpr c34
                          have c34b1 : (t153 != 0) = false := bne_eq_false_iff_eq.mpr c34
                          clear c34
                          by_cases c35 : t156 = t159
                          · rw [if_pos c35] at H
                            have c35b0 : (t156 == t159) = true := beq_iff_eq.mpr c35
                            have c35b1 : (t156 != t159) = false := bne_eq_false_iff_eq.mpr c35
                            clear c35
                            replace H := Option.bind_eq_some_iff.mp H
                            obtain ⟨t160, A360, H⟩ := H
                            replace H : (some t160) = some r := H
                            have A36 := Aside0.mk A360
                            clear A360
                            obtain rfl := Option.some.inj H
                            go_wp2_with (first | ((with_reducible refine gate_callee (f := 14) rfl ?_); refine goesL_ (some 61) rfl rfl Try.func14 (by kernel_rfl) rfl #[.string ((t144.extract (t148 : Int).toNat t144.size) ++ t140)] rfl (by (try simp only [List.map_toArray, List.map_cons, List.map_nil]); first | done | rfl | (simp only [List.length_drop, List.length_take]; rfl)) ?_; (with_reducible refine (varint_GetSigned.calls kj11 ((t144.extract (t148 : Int).toNat t144.size) ++ t140) t151 t152 t153 _ A29.out).mono ?_); rintro e w37 ⟨rfl, hb⟩; refine ⟨_, rfl, ?_⟩; have n0_ := Aside0.mk (below_step (by repeat (first | (with_reducible first | exact HB.out | apply below_alloc | apply pw_below_drewN | apply below_drew1) | exact HB.out)) hb); clear HB; have HB := n0_; clear n0_; (try clear hb); (try clear hb2); (try clear hk); (try clear hi)) | ((with_reducible refine gate_callee (f := 14) rfl ?_); refine goesL_ (some 67) rfl rfl Try.func14 (by kernel_rfl) rfl #[.string t140] rfl (by (try simp only [List.map_toArray, List.map_cons, List.map_nil]); first | done | rfl | (simp only [List.length_drop, List.length_take]; rfl)) ?_; (with_reducible refine (varint_GetSigned.calls kj11 t140 t154 t155 t156 _ A30.out).mono ?_); rintro e w38 ⟨rfl, hb⟩; refine ⟨_, rfl, ?_⟩; have n0_ := Aside0.mk (below_step (by repeat (first | (with_reducible first | exact HB.out | apply below_alloc | apply pw_below_drewN | apply below_drew1) | exact HB.out)) hb); clear HB; have HB := n0_; clear n0_; (try clear hb); (try clear hb2); (try clear hk); (try clear hi)) | ((with_reducible refine gate_callee (f := 15) rfl ?_); refine goesL_ (some 73) rfl rfl Try.func15 (by kernel_rfl) rfl #[.string t140] rfl (by (try simp only [List.map_toArray, List.map_cons, List.map_nil]); first | done | rfl | (simp only [List.length_drop, List.length_take]; rfl)) ?_; (with_reducible refine (bridlewayref02_Get.calls kj11 t140 t157 t158 t159 _ A31.out).mono ?_); rintro e w39 ⟨rfl, hb⟩; refine ⟨_, rfl, ?_⟩; have n0_ := Aside0.mk (below_step (by repeat (first | (with_reducible first | exact HB.out | apply below_alloc | apply pw_below_drewN | apply below_drew1) | exact HB.out)) hb); clear HB; have HB := n0_; clear n0_; (try clear hb); (try clear hb2); (try clear hk); (try clear hi)) | (go_at_call 16; (with_reducible refine (bridlewaylaw02_lives.calls kj11  t160 _ A36.out).mono ?_); rintro e w40 ⟨rfl, hb⟩; have n0_ := Aside0.mk (below_step (by repeat (first | (with_reducible first | exact HB.out | apply below_alloc | apply pw_below_drewN | apply below_drew1) | exact HB.out)) hb); clear HB; have HB := n0_; clear n0_; (try clear hb); (try clear hb2); (try clear hk); (try clear hi)))
                            go_ret
                            exact ⟨by first | rfl | (simp [errW_none, errW_some] <;> rfl) | (simp [*, errW_none, errW_some] <;> rfl), by repeat (first | (with_reducible first | exact HB.out | apply below_alloc | apply pw_below_drewN | apply below_drew1) | exact HB.out)⟩
                          · rw [if_neg c35] at H
                            have c35b0 : (t156 == t159) = false := beq_eq_false_iff_ne.mpr c35
                            have c35b1 : (t156 != t159) = true := bne_iff_ne.mpr c35
                            obtain rfl := Option.some.inj H
                            go_wp2_with (first | ((with_reducible refine gate_callee (f := 14) rfl ?_); refine goesL_ (some 61) rfl rfl Try.func14 (by kernel_rfl) rfl #[.string ((t144.extract (t148 : Int).toNat t144.size) ++ t140)] rfl (by (try simp only [List.map_toArray, List.map_cons, List.map_nil]); first | done | rfl | (simp only [List.length_drop, List.length_take]; rfl)) ?_; (with_reducible refine (varint_GetSigned.calls kj11 ((t144.extract (t148 : Int).toNat t144.size) ++ t140) t151 t152 t153 _ A29.out).mono ?_); rintro e w41 ⟨rfl, hb⟩; refine ⟨_, rfl, ?_⟩; have n0_ := Aside0.mk (below_step (by repeat (first | (with_reducible first | exact HB.out | apply below_alloc | apply pw_below_drewN | apply below_drew1) | exact HB.out)) hb); clear HB; have HB := n0_; clear n0_; (try clear hb); (try clear hb2); (try clear hk); (try clear hi)) | ((with_reducible refine gate_callee (f := 14) rfl ?_); refine goesL_ (some 67) rfl rfl Try.func14 (by kernel_rfl) rfl #[.string t140] rfl (by (try simp only [List.map_toArray, List.map_cons, List.map_nil]); first | done | rfl | (simp only [List.length_drop, List.length_take]; rfl)) ?_; (with_reducible refine (varint_GetSigned.calls kj11 t140 t154 t155 t156 _ A30.out).mono ?_); rintro e w42 ⟨rfl, hb⟩; refine ⟨_, rfl, ?_⟩; have n0_ := Aside0.mk (below_step (by repeat (first | (with_reducible first | exact HB.out | apply below_alloc | apply pw_below_drewN | apply below_drew1) | exact HB.out)) hb); clear HB; have HB := n0_; clear n0_; (try clear hb); (try clear hb2); (try clear hk); (try clear hi)) | ((with_reducible refine gate_callee (f := 15) rfl ?_); refine goesL_ (some 73) rfl rfl Try.func15 (by kernel_rfl) rfl #[.string t140] rfl (by (try simp only [List.map_toArray, List.map_cons, List.map_nil]); first | done | rfl | (simp only [List.length_drop, List.length_take]; rfl)) ?_; (with_reducible refine (bridlewayref02_Get.calls kj11 t140 t157 t158 t159 _ A31.out).mono ?_); rintro e w43 ⟨rfl, hb⟩; refine ⟨_, rfl, ?_⟩; have n0_ := Aside0.mk (below_step (by repeat (first | (with_reducible first | exact HB.out | apply below_alloc | apply pw_below_drewN | apply below_drew1) | exact HB.out)) hb); clear HB; have HB := n0_; clear n0_; (try clear hb); (try clear hb2); (try clear hk); (try clear hi)))
                            go_ret
                            exact ⟨by first | rfl | (simp [errW_none, errW_some] <;> rfl) | (simp [*, errW_none, errW_some] <;> rfl), by repeat (first | (with_reducible first | exact HB.out | apply below_alloc | apply pw_below_drewN | apply below_drew1) | exact HB.out)⟩
                        · rw [if_neg c34] at H
                          have c34b0 : (t153 == 0) = false := beq_eq_false_iff_ne.mpr c34
                          have c34b1 : (t153 != 0) = true := bne_iff_ne.mpr c34
                          obtain rfl := Option.some.inj H
                          go_wp2_with (first | ((with_reducible refine gate_callee (f := 14) rfl ?_); refine goesL_ (some 61) rfl rfl Try.func14 (by kernel_rfl) rfl #[.string ((t144.extract (t148 : Int).toNat t144.size) ++ t140)] rfl (by (try simp only [List.map_toArray, List.map_cons, List.map_nil]); first | done | rfl | (simp only [List.length_drop, List.length_take]; rfl)) ?_; (with_reducible refine (varint_GetSigned.calls kj11 ((t144.extract (t148 : Int).toNat t144.size) ++ t140) t151 t152 t153 _ A29.out).mono ?_); rintro e w44 ⟨rfl, hb⟩; refine ⟨_, rfl, ?_⟩; have n0_ := Aside0.mk (below_step (by repeat (first | (with_reducible first | exact HB.out | apply below_alloc | apply pw_below_drewN | apply below_drew1) | exact HB.out)) hb); clear HB; have HB := n0_; clear n0_; (try clear hb); (try clear hb2); (try clear hk); (try clear hi)) | ((with_reducible refine gate_callee (f := 14) rfl ?_); refine goesL_ (some 67) rfl rfl Try.func14 (by kernel_rfl) rfl #[.string t140] rfl (by (try simp only [List.map_toArray, List.map_cons, List.map_nil]); first | done | rfl | (simp only [List.length_drop, List.length_take]; rfl)) ?_; (with_reducible refine (varint_GetSigned.calls kj11 t140 t154 t155 t156 _ A30.out).mono ?_); rintro e w45 ⟨rfl, hb⟩; refine ⟨_, rfl, ?_⟩; have n0_ := Aside0.mk (below_step (by repeat (first | (with_reducible first | exact HB.out | apply below_alloc | apply pw_below_drewN | apply below_drew1) | exact HB.out)) hb); clear HB; have HB := n0_; clear n0_; (try clear hb); (try clear hb2); (try clear hk); (try clear hi)) | ((with_reducible refine gate_callee (f := 15) rfl ?_); refine goesL_ (some 73) rfl rfl Try.func15 (by kernel_rfl) rfl #[.string t140] rfl (by (try simp only [List.map_toArray, List.map_cons, List.map_nil]); first | done | rfl | (simp only [List.length_drop, List.length_take]; rfl)) ?_; (with_reducible refine (bridlewayref02_Get.calls kj11 t140 t157 t158 t159 _ A31.out).mono ?_); rintro e w46 ⟨rfl, hb⟩; refine ⟨_, rfl, ?_⟩; have n0_ := Aside0.mk (below_step (by repeat (first | (with_reducible first | exact HB.out | apply below_alloc | apply pw_below_drewN | apply below_drew1) | exact HB.out)) hb); clear HB; have HB := n0_; clear n0_; (try clear hb); (try clear hb2); (try clear hk); (try clear hi)))
                          go_ret
                          exact ⟨by first | rfl | (simp [errW_none, errW_some] <;> rfl) | (simp [*, errW_none, errW_some] <;> rfl), by repeat (first | (with_reducible first | exact HB.out | apply below_alloc | apply pw_below_drewN | apply below_drew1) | exact HB.out)⟩
                      · rw [if_neg c33] at H
                        have c33b0 : (t152 == (wrap64 ((t144.size : Int) - t148))) = false := beq_eq_false_iff_ne.mpr c33
                        have c33b1 : (t152 != (wrap64 ((t144.size : Int) - t148))) = true := bne_iff_ne.mpr c33
                        obtain rfl := Option.some.inj H
                        go_wp2_with (first | ((with_reducible refine gate_callee (f := 14) rfl ?_); refine goesL_ (some 61) rfl rfl Try.func14 (by kernel_rfl) rfl #[.string ((t144.extract (t148 : Int).toNat t144.size) ++ t140)] rfl (by (try simp only [List.map_toArray, List.map_cons, List.map_nil]); first | done | rfl | (simp only [List.length_drop, List.length_take]; rfl)) ?_; (with_reducible refine (varint_GetSigned.calls kj11 ((t144.extract (t148 : Int).toNat t144.size) ++ t140) t151 t152 t153 _ A29.out).mono ?_); rintro e w47 ⟨rfl, hb⟩; refine ⟨_, rfl, ?_⟩; have n0_ := Aside0.mk (below_step (by repeat (first | (with_reducible first | exact HB.out | apply below_alloc | apply pw_below_drewN | apply below_drew1) | exact HB.out)) hb); clear HB; have HB := n0_; clear n0_; (try clear hb); (try clear hb2); (try clear hk); (try clear hi)) | ((with_reducible refine gate_callee (f := 14) rfl ?_); refine goesL_ (some 67) rfl rfl Try.func14 (by kernel_rfl) rfl #[.string t140] rfl (by (try simp only [List.map_toArray, List.map_cons, List.map_nil]); first | done | rfl | (simp only [List.length_drop, List.length_take]; rfl)) ?_; (with_reducible refine (varint_GetSigned.calls kj11 t140 t154 t155 t156 _ A30.out).mono ?_); rintro e w48 ⟨rfl, hb⟩; refine ⟨_, rfl, ?_⟩; have n0_ := Aside0.mk (below_step (by repeat (first | (with_reducible first | exact HB.out | apply below_alloc | apply pw_below_drewN | apply below_drew1) | exact HB.out)) hb); clear HB; have HB := n0_; clear n0_; (try clear hb); (try clear hb2); (try clear hk); (try clear hi)) | ((with_reducible refine gate_callee (f := 15) rfl ?_); refine goesL_ (some 73) rfl rfl Try.func15 (by kernel_rfl) rfl #[.string t140] rfl (by (try simp only [List.map_toArray, List.map_cons, List.map_nil]); first | done | rfl | (simp only [List.length_drop, List.length_take]; rfl)) ?_; (with_reducible refine (bridlewayref02_Get.calls kj11 t140 t157 t158 t159 _ A31.out).mono ?_); rintro e w49 ⟨rfl, hb⟩; refine ⟨_, rfl, ?_⟩; have n0_ := Aside0.mk (below_step (by repeat (first | (with_reducible first | exact HB.out | apply below_alloc | apply pw_below_drewN | apply below_drew1) | exact HB.out)) hb); clear HB; have HB := n0_; clear n0_; (try clear hb); (try clear hb2); (try clear hk); (try clear hi)))
                        go_ret
                        exact ⟨by first | rfl | (simp [errW_none, errW_some] <;> rfl) | (simp [*, errW_none, errW_some] <;> rfl), by repeat (first | (with_reducible first | exact HB.out | apply below_alloc | apply pw_below_drewN | apply below_drew1) | exact HB.out)⟩
                    · rw [if_neg c32] at H
                      have c32b0 : (t151 == a1) = false := beq_eq_false_iff_ne.mpr c32
                      have c32b1 : (t151 != a1) = true := bne_iff_ne.mpr c32
                      obtain rfl := Option.some.inj H
                      go_wp2_with (first | ((with_reducible refine gate_callee (f := 14) rfl ?_); refine goesL_ (some 61) rfl rfl Try.func14 (by kernel_rfl) rfl #[.string ((t144.extract (t148 : Int).toNat t144.size) ++ t140)] rfl (by (try simp only [List.map_toArray, List.map_cons, List.map_nil]); first | done | rfl | (simp only [List.length_drop, List.length_take]; rfl)) ?_; (with_reducible refine (varint_GetSigned.calls kj11 ((t144.extract (t148 : Int).toNat t144.size) ++ t140) t151 t152 t153 _ A29.out).mono ?_); rintro e w50 ⟨rfl, hb⟩; refine ⟨_, rfl, ?_⟩; have n0_ := Aside0.mk (below_step (by repeat (first | (with_reducible first | exact HB.out | apply below_alloc | apply pw_below_drewN | apply below_drew1) | exact HB.out)) hb); clear HB; have HB := n0_; clear n0_; (try clear hb); (try clear hb2); (try clear hk); (try clear hi)) | ((with_reducible refine gate_callee (f := 14) rfl ?_); refine goesL_ (some 67) rfl rfl Try.func14 (by kernel_rfl) rfl #[.string t140] rfl (by (try simp only [List.map_toArray, List.map_cons, List.map_nil]); first | done | rfl | (simp only [List.length_drop, List.length_take]; rfl)) ?_; (with_reducible refine (varint_GetSigned.calls kj11 t140 t154 t155 t156 _ A30.out).mono ?_); rintro e w51 ⟨rfl, hb⟩; refine ⟨_, rfl, ?_⟩; have n0_ := Aside0.mk (below_step (by repeat (first | (with_reducible first | exact HB.out | apply below_alloc | apply pw_below_drewN | apply below_drew1) | exact HB.out)) hb); clear HB; have HB := n0_; clear n0_; (try clear hb); (try clear hb2); (try clear hk); (try clear hi)) | ((with_reducible refine gate_callee (f := 15) rfl ?_); refine goesL_ (some 73) rfl rfl Try.func15 (by kernel_rfl) rfl #[.string t140] rfl (by (try simp only [List.map_toArray, List.map_cons, List.map_nil]); first | done | rfl | (simp only [List.length_drop, List.length_take]; rfl)) ?_; (with_reducible refine (bridlewayref02_Get.calls kj11 t140 t157 t158 t159 _ A31.out).mono ?_); rintro e w52 ⟨rfl, hb⟩; refine ⟨_, rfl, ?_⟩; have n0_ := Aside0.mk (below_step (by repeat (first | (with_reducible first | exact HB.out | apply below_alloc | apply pw_below_drewN | apply below_drew1) | exact HB.out)) hb); clear HB; have HB := n0_; clear n0_; (try clear hb); (try clear hb2); (try clear hk); (try clear hi)))
                      go_ret
                      exact ⟨by first | rfl | (simp [errW_none, errW_some] <;> rfl) | (simp [*, errW_none, errW_some] <;> rfl), by repeat (first | (with_reducible first | exact HB.out | apply below_alloc | apply pw_below_drewN | apply below_drew1) | exact HB.out)⟩
                  · rw [if_neg c28] at H
                    exact absurd H (by simp)
                · rw [if_neg c27] at H
                  exact absurd H (by simp)
              · rw [if_neg c26] at H
                exact absurd H (by simp)
      · rw [if_neg c10] at H
        exact absurd H (by simp)
    · rw [if_neg c9] at H
      have c9b0 : (t144.toList == (t145 ++ t146).toList) = false := beq_eq_false_iff_ne.mpr c9
      have c9b1 : (t144.toList != (t145 ++ t146).toList) = true := bne_iff_ne.mpr c9
      obtain rfl := Option.some.inj H
      go_enter Try.func3, Try.ntmps3
      go_wp2_with (first | ((with_reducible refine gate_callee (f := 11) rfl ?_); refine goesL_ (some 21) rfl rfl Try.func11 (by kernel_rfl) rfl #[.string a2, .int .i64 20] rfl (by (try simp only [List.map_toArray, List.map_cons, List.map_nil]); first | done | rfl | (simp only [List.length_drop, List.length_take]; rfl)) ?_; (with_reducible refine (bridlewaylaw02_Cut.calls a2 20 t140 _ A4.out).mono ?_); rintro e w' ⟨rfl, ⟨nd, rfl⟩⟩; refine ⟨_, rfl, ?_⟩) | ((with_reducible refine gate_dst (N := 24) rfl ?_); (try (refine gate_guard (by rfl) ?_; dsimp only)); refine Kd.R_lit (Kd.int .i64) _ 2 ?hg (N := 24) ?hd (xs := ([a0, a1] : List Int)) (inner := [.int .i64 a0, .int .i64 a1]) (ok := fun _ => True) (okp := fun _ => True) ?hr ?hp (fun _ hk => hk) trivial (Below.refl _ _) (Nat.le_refl _) (by simp) ?_; (case hd => rfl); (case hg => rfl); (case hr => first | (go_simp; done) | (go_simp; rfl)); (case hp => exact (Reps.one (show Kd.M (Kd.int .i64) _ _ _ a0 [.int .i64 a0] from rfl) (Reps.one (show Kd.M (Kd.int .i64) _ _ _ a1 [.int .i64 a1] from rfl) (Reps.none _ _)))); intro v142 w53 ho54 hb hg_ hnew_; clear hg_ hnew_; (first | rw [← Ny141.out] at ho54 | (simp only [Int.reduceToNat] at ho54; rw [← Ny141.out] at ho54)); have n0_ := Aside0.mk (Kd.R_lower ho54 (below_size (by repeat (first | (with_reducible first | exact HB.out | apply below_alloc | apply pw_below_drewN | apply below_drew1) | exact HB.out)))); have n1_ := Aside0.mk (below_step (by repeat (first | (with_reducible first | exact HB.out | apply below_alloc | apply pw_below_drewN | apply below_drew1) | exact HB.out)) hb); clear HB; have HO143 := n0_; have HB := n1_; clear n0_ n1_; clear hb ho54; obtain ⟨Ao55, co55, eo55⟩ := Kd.R_slice HO143.out; subst eo55) | ((with_reducible refine gate_callee (f := 12) rfl ?_); refine goesL_ (some 25) rfl rfl Try.func12 (by kernel_rfl) rfl #[.slice Ao55 y141.length co55] rfl (by (try simp only [List.map_toArray, List.map_cons, List.map_nil]); first | done | rfl | (simp only [List.length_drop, List.length_take]; rfl)) ?_; (with_reducible refine (varint_Signed.calls k _ _ y141 t144 _ ?side1 ?side2 A5.out).mono ?_); (case side1 => repeat (first | exact (Kd.R_reads' HO143.out).2.2 | (with_reducible refine Kd.C_alloc ?_ _) | (with_reducible refine Kd.C_drewN ?_ _) | (with_reducible refine Kd.C_drew ?_))); (case side2 => exact (Kd.R_reads' HO143.out).2.1); rintro e w56 ⟨rfl, hb⟩; refine ⟨_, rfl, ?_⟩; have n0_ := Aside0.mk (Kd.R_below (by (with_reducible repeat (first | apply Kd.R_alloc | apply Kd.R_drewN | apply Kd.R_drew)); exact HO143.out) hb); have n1_ := Aside0.mk (below_step (by repeat (first | (with_reducible first | exact HB.out | apply below_alloc | apply pw_below_drewN | apply below_drew1) | exact HB.out)) hb); clear HO143; clear HB; have HO143 := n0_; have HB := n1_; clear n0_ n1_; (try clear hb); (try clear hb2); (try clear hk); (try clear hi)) | ((with_reducible refine gate_callee (f := 13) rfl ?_); refine goesL_ (some 28) rfl rfl Try.func13 (by kernel_rfl) rfl #[.int .i64 a0] rfl (by (try simp only [List.map_toArray, List.map_cons, List.map_nil]); first | done | rfl | (simp only [List.length_drop, List.length_take]; rfl)) ?_; (with_reducible refine (bridlewayref02_Signed.calls k a0 t145 _ A6.out).mono ?_); rintro e w57 ⟨rfl, hb⟩; refine ⟨_, rfl, ?_⟩; have n0_ := Aside0.mk (Kd.R_below (by (with_reducible repeat (first | apply Kd.R_alloc | apply Kd.R_drewN | apply Kd.R_drew)); exact HO143.out) hb); have n1_ := Aside0.mk (below_step (by repeat (first | (with_reducible first | exact HB.out | apply below_alloc | apply pw_below_drewN | apply below_drew1) | exact HB.out)) hb); clear HO143; clear HB; have HO143 := n0_; have HB := n1_; clear n0_ n1_; (try clear hb); (try clear hb2); (try clear hk); (try clear hi)) | ((with_reducible refine gate_callee (f := 13) rfl ?_); refine goesL_ (some 30) rfl rfl Try.func13 (by kernel_rfl) rfl #[.int .i64 a1] rfl (by (try simp only [List.map_toArray, List.map_cons, List.map_nil]); first | done | rfl | (simp only [List.length_drop, List.length_take]; rfl)) ?_; (with_reducible refine (bridlewayref02_Signed.calls k a1 t146 _ A7.out).mono ?_); rintro e w58 ⟨rfl, hb⟩; refine ⟨_, rfl, ?_⟩; have n0_ := Aside0.mk (Kd.R_below (by (with_reducible repeat (first | apply Kd.R_alloc | apply Kd.R_drewN | apply Kd.R_drew)); exact HO143.out) hb); have n1_ := Aside0.mk (below_step (by repeat (first | (with_reducible first | exact HB.out | apply below_alloc | apply pw_below_drewN | apply below_drew1) | exact HB.out)) hb); clear HO143; clear HB; have HO143 := n0_; have HB := n1_; clear n0_ n1_; (try clear hb); (try clear hb2); (try clear hk); (try clear hi)))
      go_ret
      exact ⟨by first | rfl | (simp [errW_none, errW_some] <;> rfl) | (simp [*, errW_none, errW_some] <;> rfl), by repeat (first | (with_reducible first | exact HB.out | apply below_alloc | apply pw_below_drewN | apply below_drew1) | exact HB.out)⟩
  · rw [if_neg c8] at H
    exact absurd H (by simp)

/-- THE ONE PURE STATEMENT of bridlewaylaw02_VarintSigned: yours. -/
def bridlewaylaw02_VarintSigned.Pure : Prop := ∀ (a0 : Int) (a1 : Int) (a2 : ByteArray), (Lit.int .i64 a0).wf = true → (Lit.int .i64 a1).wf = true → a2.size ≤ 140737488351232 → ∃ k, bridlewaylaw02_VarintSigned.f k a0 a1 a2 = some true
theorem bridlewaylaw02_VarintSigned.walk (P : bridlewaylaw02_VarintSigned.Pure) (a0 : Int) (a1 : Int) (a2 : ByteArray) (w : World) (w0 : (Lit.int .i64 a0).wf = true) (w1 : (Lit.int .i64 a1).wf = true) (w2 : a2.size ≤ 140737488351232) :
    Calls Try.prog 3 #[.int .i64 a0, .int .i64 a1, .string a2] w fun e w' => e = .returned (.bool true) ∧ Below w.heap.size w w' := by
  obtain ⟨k, h⟩ := P a0 a1 a2 w0 w1 w2
  refine (bridlewaylaw02_VarintSigned.calls k a0 a1 a2 true w h).mono ?_
  rintro e w' ⟨rfl, hd⟩
  exact ⟨rfl, hd⟩

end Go.Proofs.Ytndlcfdlhliljaa.PVarintSigned
