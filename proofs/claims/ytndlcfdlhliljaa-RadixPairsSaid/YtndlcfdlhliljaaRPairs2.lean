/- Pairs in order, each once: what radix.Sort and the reference's Sort tell is the same. Conditions: lists of at most some thousand pairs. -/
import Derived.Test.YtndlcfdlhliljaaRPairs
namespace Go.Proofs.Ytndlcfdlhliljaa.Rx
open Go.RowKit Go.Proofs.Ytndlcfdlhliljaa.Mem Go.Proofs.Ytndlcfdlhliljaa.Sl Go.Proofs.Ytndlcfdlhliljaa.RMath
set_option linter.unusedVariables false
set_option linter.unusedSimpArgs false

theorem orderL_len (ys : List Int) : (orderL ys).length = ys.length := passes_len ys _
theorem orderL_mem (ys : List Int) : ∀ x ∈ orderL ys, 0 ≤ x ∧ x < ys.length := passes_mem ys _
theorem order_nth (l : List (Int × Int)) (k : Nat) (h : k < l.length) : ∃ q : Nat, nth 0 (orderL (keysL l)) k = (q : Int) ∧ q < l.length := by
  have hk : k < (orderL (keysL l)).length := by rw [orderL_len, keys_len]; exact h
  have := orderL_mem (keysL l) _ (List.getElem_mem hk)
  rw [← nth_eq 0 _ k hk, keys_len] at this
  exact ⟨(nth 0 (orderL (keysL l)) k).toNat, by omega, by omega⟩
set_option maxRecDepth 100000 in
theorem sort_any (w : World) (v : Value) (l : List (Int × Int)) (h : Rd ep 2 w v l) (hm : l.length ≤ 1000000) (hl : ∀ p ∈ l, In32 p) :
    Calls Try.prog 43 #[v] w fun e w' => ∃ v', e = .returned v' ∧ Own ep 2 87 w' w.heap.size v' (sortP l) ∧ Below w.heap.size w w' := by
  obtain ⟨A, c, rfl⟩ := h.slice
  have hl3 := h.at_.2.2.1
  obtain ⟨f, hf⟩ : ∃ f : Nat → Int × Int, f = fun k => nthP l (nth 0 (orderL (keysL l)) k).toNat := ⟨_, rfl⟩
  have hsp : sortP l = dd f l.length := by rw [hf]; rfl
  rw [hsp]
  have HF := Sec.mk hf
  clear hf hsp
  have hON := Sec.mk (order_nth l)
  have hOlen := Sec.mk (show (orderL (keysL l)).length = l.length by rw [orderL_len, keys_len])
  go_enter Try.func43, Try.ntmps43
  go_wp2_with (go_at_call 64; refine (radixpairs_any _ _ l h (by omega) hl).mono ?_; rintro e w1 ⟨v1, rfl, hO1, hB1⟩; have hR1 := hO1.rd; clear hO1; obtain ⟨A1, c1, hv1⟩ := hR1.slice; rw [hOlen.out] at hv1; subst hv1)
  obtain ⟨O, hO⟩ : ∃ O, orderL (keysL l) = O := ⟨_, rfl⟩
  rw [hO] at hR1 HF hON hOlen
  obtain ⟨n, hn⟩ : ∃ n, n = l.length := ⟨_, rfl⟩
  rw [← hn] at hON hOlen h hm hl3 hR1 ⊢
  clear hl
  have HN := Sec.mk hn
  clear hn hO
  go_loopw [3, 9] (fun v i wr => ∃ k : Nat, k ≤ n ∧ i = .int .i64 k ∧ Own ep 2 87 wr w1.heap.size v (dd f k) ∧ Below w1.heap.size w1 wr) (fun _ i _ => n - (intOf i).toNat)
  case atStart => exact ⟨0, Nat.zero_le _, rfl, Own.nil _ _ _ ep_len, Below.refl _ _⟩
  case round =>
    obtain ⟨k, hk, rfl, hD, hB⟩ := hrel
    by_cases h1 : k < n
    · obtain ⟨q, hq, hql⟩ := hON.out k h1
      have hfk := Sec.mk (show f k = nthP l q by rw [HF.out]; show nthP l (nth 0 O k).toNat = _; rw [hq, Int.toNat_natCast])
      obtain ⟨b, off, rfl, hbl, hc0, hd0⟩ := rd_pair h q hql
      have hbl1 : b < w1.heap.size := Nat.lt_of_lt_of_le hbl hB1.size
      have hc := ((hB.cell (p := ⟨b, off + q * 2, none⟩) hbl1).trans (hB1.cell (p := ⟨b, off + q * 2, none⟩) hbl)).trans hc0
      have hd := ((hB.cell (p := ⟨b, off + q * 2 + 1, none⟩) hbl1).trans (hB1.cell (p := ⟨b, off + q * 2 + 1, none⟩) hbl)).trans hd0
      obtain ⟨b1, off1, rfl, hbl2, hcq0⟩ := hR1.int k h1
      have hcq := (hB.cell (p := ⟨b1, off1 + k, none⟩) hbl2).trans hcq0
      rw [hq] at hcq
      clear hc0 hd0 hcq0
      have HQ := Sec.mk hq
      clear hq
      rw [← hfk.out] at hc hd
      have hdl := dd_len f k
      by_cases h0 : k = 0
      · have hyes := Sec.mk (dd_yes f k (.inl h0))
        have hlen0 : (dd f k).length = 0 := by omega
        obtain ⟨A3, c3, hv3⟩ := hD.rd.slice
        rw [hlen0] at hv3
        subst hv3
        have hL0 := Sec.mk hlen0
        have H0 := Sec.mk h0
        clear hlen0 h0
        go_wp2
        go_quiet (fail)
        go_wp2_with (at_builtin; refine wpList_push rfl _ _ 59 rfl w1.heap.size 87 _ 8 Try.underlying59 infoP rfl (by decide) rfl (hD.drewN _) (f k) _ _ rfl rfl (ep_one _) (by have := dd_len f k; omega) (by decide) hB.size ?_; intro v' w2 hO1 hC1 hat)
        go_roundw
        case rel =>
          refine ⟨k + 1, by omega, by go_num, ?_, ?_⟩
          · rw [hyes.out]; exact hO1
          · exact (((Chg.of_below hB (fun b => w1.heap.size ≤ b)).drewN _).trans hC1 (fun b hb => .inr (hD.lt b hb.symm).1)).below (fun _ h => h)
        case measure => simp [intOf]; omega
      · obtain ⟨j, rfl⟩ : ∃ j, k = j + 1 := ⟨k - 1, by omega⟩
        obtain ⟨r, hr1, hr2⟩ := dd_last f j
        obtain ⟨g, cap, rfl, hg1, hg2, hg3, hg4, hg5⟩ := hD.rowN hr1 (Nat.succ_pos r)
        have hlc := hg5 r _ (nth_get (0, 0) _ r (by omega)) 0 _ rfl
        have hld := hg5 r _ (nth_get (0, 0) _ r (by omega)) 1 _ rfl
        have er : nth (0, 0) (dd f (j + 1)) r = f j := hr2
        rw [er] at hlc hld
        rw [Nat.add_zero] at hlc
        have hrl : r ≤ j := by omega
        have hw1 : IntKind.i64.wrap (r : Int) = (r : Int) := by rw [IntWalk.i64_in _ (by omega)]
        have hz1 : ((r : Int) + 1 == 0) = false := beq_eq_false_iff_ne.mpr (by omega)
        have hR := Sec.mk hr1
        clear hr1 hr2 hg4 hg5 er hdl h0
        by_cases he : f j = f (j + 1)
        · have hno := Sec.mk (dd_no f (j + 1) (by simp [he]))
          rw [he] at hlc hld
          clear he
          go_wp2
          go_quiet (fail)
          clear hw1
          go_wp2
          go_roundw
          case rel => exact ⟨j + 1 + 1, by omega, by go_num, by rw [hno.out]; exact hD.drewN _, below_dn hB _⟩
          case measure => simp [intOf]; omega
        · have hyes := Sec.mk (dd_yes f (j + 1) (.inr he))
          by_cases hx1 : (f j).1 = (f (j + 1)).1
          · have hx2 : ((f j).2 == (f (j + 1)).2) = false := beq_eq_false_iff_ne.mpr (fun h => he (Prod.ext hx1 h))
            have hx3 : ((f j).2 != (f (j + 1)).2) = true := bne_iff_ne.mpr (fun h => he (Prod.ext hx1 h))
            rw [hx1] at hlc
            clear he hx1
            go_wp2
            go_quiet (fail)
            clear hw1
            go_wp2_with (at_builtin; refine wpList_push rfl _ _ 59 rfl w1.heap.size 87 _ 8 Try.underlying59 infoP rfl (by decide) rfl (hD.drewN _) (f (j + 1)) _ _ rfl rfl (ep_one _) (by have := dd_len f (j + 1); omega) (by decide) hB.size ?_; intro v' w2 hO1 hC1 hat)
            go_roundw
            case rel =>
              refine ⟨j + 1 + 1, by omega, by go_num, ?_, ?_⟩
              · rw [hyes.out]; exact hO1
              · exact (((Chg.of_below hB (fun b => w1.heap.size ≤ b)).drewN _).trans hC1 (fun b hb => .inr (hD.lt b hb.symm).1)).below (fun _ h => h)
            case measure => simp [intOf]; omega
          · have hx2 : ((f j).1 == (f (j + 1)).1) = false := beq_eq_false_iff_ne.mpr hx1
            have hx3 : ((f j).1 != (f (j + 1)).1) = true := bne_iff_ne.mpr hx1
            clear he hx1
            go_wp2
            go_quiet (fail)
            clear hw1
            go_wp2_with (at_builtin; refine wpList_push rfl _ _ 59 rfl w1.heap.size 87 _ 8 Try.underlying59 infoP rfl (by decide) rfl (hD.drewN _) (f (j + 1)) _ _ rfl rfl (ep_one _) (by have := dd_len f (j + 1); omega) (by decide) hB.size ?_; intro v' w2 hO1 hC1 hat)
            go_roundw
            case rel =>
              refine ⟨j + 1 + 1, by omega, by go_num, ?_, ?_⟩
              · rw [hyes.out]; exact hO1
              · exact (((Chg.of_below hB (fun b => w1.heap.size ≤ b)).drewN _).trans hC1 (fun b hb => .inr (hD.lt b hb.symm).1)).below (fun _ h => h)
            case measure => simp [intOf]; omega
    · obtain rfl : k = n := by omega
      go_wp2
      go_ret
      exact ⟨_, rfl, by rw [← HN.out]; exact hD.lower hB1.size, hB1.trans (hB.mono hB1.size)⟩

theorem rd_pair_at {w : World} {b off n c : Nat} {l : List (Int × Int)} (h : Rd ep 2 w (.slice (some ⟨b, off, none⟩) n c) l) (i : Nat) (hi : i < n) :
    w.cell? ⟨b, off + i * 2, none⟩ = some (.int .u32 (nthP l i).1) ∧ w.cell? ⟨b, off + i * 2 + 1, none⟩ = some (.int .u32 (nthP l i).2) := by
  obtain ⟨b', off', e, _, h1, h2⟩ := rd_pair h i hi
  injection e with e
  injection e with e1 e2 _
  subst e1 e2
  exact ⟨h1, h2⟩
theorem rd_int_at {k : IntKind} {w : World} {b off n c : Nat} {xs : List Int} (h : Rd (ei k) 1 w (.slice (some ⟨b, off, none⟩) n c) xs) (i : Nat) (hi : i < n) :
    w.cell? ⟨b, off + i, none⟩ = some (.int k (nth 0 xs i)) := by
  obtain ⟨b', off', e, _, h1⟩ := h.int i hi
  injection e with e
  injection e with e1 e2 _
  subst e1 e2
  exact h1
theorem some_block {b off n c n' c' : Nat} {A : Addr} (e : (Value.slice (some ⟨b, off, none⟩) n c) = .slice (some A) n' c') : A.block = b := by
  injection e with e1 _ _
  injection e1 with e1
  rw [← e1]
set_option maxRecDepth 100000 in
theorem refSort_any (w : World) (v : Value) (l : List (Int × Int)) (h : Rd ep 2 w v l) (hm : l.length ≤ 1000000) (hl : ∀ p ∈ l, In32 p) :
    Calls Try.prog 44 #[v] w fun e w' => ∃ v', e = .returned v' ∧ Own ep 2 87 w' w.heap.size v' (sortP l) ∧ Below w.heap.size w w' := by
  obtain ⟨A, c, rfl⟩ := h.slice
  have hl3 := h.at_.2.2.1
  obtain ⟨f, hf⟩ : ∃ f : Nat → Int × Int, f = fun k => nthP l (nth 0 (orderL (keysL l)) k).toNat := ⟨_, rfl⟩
  have hsp : sortP l = dd f l.length := by rw [hf]; rfl
  rw [hsp]
  have HF := Sec.mk hf
  clear hf hsp
  have hON := Sec.mk (order_nth l)
  have hOlen := Sec.mk (show (orderL (keysL l)).length = l.length by rw [orderL_len, keys_len])
  have hb0 : Below w.heap.size w (w.alloc (.cells #[] 87)) := (Below.refl _ _).alloc (Nat.le_refl _) _
  go_enter Try.func44, Try.ntmps44
  go_wp2_with (first
    | (go_at_call 41; refine (keys_any _ _ l (h.below hb0) (by omega) hl).mono ?_; rintro e wk ⟨vk, rfl, hOk, hBk⟩)
    | (go_at_call 40; refine (refOrder_any _ _ _ hOk.rd (by rw [keys_len]; omega) (keys_rng hl)).mono ?_; rintro e w1 ⟨v1, rfl, hO1, hB1⟩; obtain ⟨A1, c1, hv1⟩ := hO1.rd.slice; rw [hOlen.out] at hv1; subst hv1))
  have hBk0 := hBk
  rw [size_alloc] at hOk hBk
  have hsk : w.heap.size + 1 ≤ wk.heap.size := by have := hBk.size; rw [size_alloc] at this; exact this
  have hs1 := hB1.size
  have hBw : Below w.heap.size w w1 := (hb0.trans (hBk.mono (Nat.le_succ _))).trans (hB1.mono (by omega))
  have hR1 := hO1.rd
  have hOb := Sec.mk (hO1.lt)
  have hstart : Own ep 2 87 w1 w.heap.size (.slice (some ⟨w.heap.size, 0, none⟩) 0 0) [] :=
    ((Own.lit 87 w w.heap.size #[] [] 0 ep_len rfl rfl (Nat.le_refl _) (by decide)).keep (T := fun _ => False) (Chg.of_below hBk0 _) (fun _ _ => id)).keep (T := fun _ => False) (Chg.of_below hB1 _) (fun _ _ => id)
  clear hO1 hOk hBk hBk0 hB1 hb0
  obtain ⟨O, hO⟩ : ∃ O, orderL (keysL l) = O := ⟨_, rfl⟩
  rw [hO] at hR1 HF hON hOlen
  obtain ⟨n, hn⟩ : ∃ n, n = l.length := ⟨_, rfl⟩
  have hlw := h.below hBw
  rw [← hn] at hON hOlen h hm hl3 hR1 hlw hOb ⊢
  clear hl
  have HN := Sec.mk hn
  clear hn hO
  go_wp2
  go_loopw [3, 5] (fun v i wr => ∃ k : Nat, k ≤ n ∧ i = .int .i64 k ∧ Own ep 2 87 wr w.heap.size v (dd f k) ∧ (∀ g, v.ownBlock = some g → g = w.heap.size ∨ w1.heap.size ≤ g) ∧ Chg (fun b => b = w.heap.size ∨ w1.heap.size ≤ b) w1 wr) (fun _ i _ => n - (intOf i).toNat)
  case atStart => exact ⟨0, Nat.zero_le _, rfl, hstart, fun g hg => .inl (Option.some.inj hg).symm, Chg.refl _ _⟩
  case round =>
    clear hstart
    obtain ⟨k, hk, rfl, hD, hAt, hCh⟩ := hrel
    have hws : w.heap.size ≤ wr.heap.size := Nat.le_trans hBw.size hCh.size
    by_cases h1 : k < n
    · obtain ⟨q, hq, hql⟩ := hON.out k h1
      have hfk := Sec.mk (show f k = nthP l q by rw [HF.out]; show nthP l (nth 0 O k).toNat = _; rw [hq, Int.toNat_natCast])
      obtain ⟨b, off, rfl, hbl, _, _⟩ := rd_pair h q hql
      have hRl := hlw.keep hCh (fun A' n' c' e => by rw [some_block e]; omega)
      obtain ⟨b1, off1, rfl, hbl2, _⟩ := hR1.int k h1
      have hb1 := hOb.out b1 rfl
      have hRO := hR1.keep hCh (fun A' n' c' e => by rw [some_block e]; omega)
      obtain ⟨hc, hd⟩ := rd_pair_at hRl q hql
      have hcq := rd_int_at hRO k h1
      rw [hq] at hcq
      have HQ := Sec.mk hq
      clear hq
      rw [← hfk.out] at hc hd
      by_cases h0 : k = 0
      · have hyes := Sec.mk (dd_yes f k (.inl h0))
        have hz : ((k : Int) == 0) = true := beq_iff_eq.mpr (by omega)
        have H0 := Sec.mk h0
        clear h0
        go_wp2
        go_quiet (fail)
        clear hz
        go_wp2_with (at_builtin; refine wpList_push rfl _ _ 59 rfl w.heap.size 87 _ 8 Try.underlying59 infoP rfl (by decide) rfl (hD.drewN _) (f k) _ _ rfl rfl (ep_one _) (by have := dd_len f k; omega) (by decide) hws ?_; intro v' w2 hO1 hC1 hat)
        go_roundw
        case rel =>
          have hC2 : Chg (fun b => b = w.heap.size ∨ w1.heap.size ≤ b) w1 w2 := (hCh.drewN _).trans hC1 (fun b hb => .inl (hAt b hb.symm))
          refine ⟨k + 1, by omega, by go_num, by rw [hyes.out]; exact hO1, ?_, hC2⟩
          intro g hg
          rcases hat with h5 | ⟨b5, h5, h6⟩
          · exact hAt g (h5 ▸ hg)
          · rw [h5] at hg
            injection hg with hg
            exact .inr (by rw [← hg]; exact Nat.le_trans hCh.size h6)
        case measure => simp [intOf]; omega
      · obtain ⟨j, rfl⟩ : ∃ j, k = j + 1 := ⟨k - 1, by omega⟩
        obtain ⟨q', hq', hql'⟩ := hON.out j (by omega)
        have hfj := Sec.mk (show f j = nthP l q' by rw [HF.out]; show nthP l (nth 0 O j).toNat = _; rw [hq', Int.toNat_natCast])
        obtain ⟨hlc, hld⟩ := rd_pair_at hRl q' hql'
        have hcq' := rd_int_at hRO j (by omega)
        rw [hq'] at hcq'
        have HQ' := Sec.mk hq'
        clear hq' h0
        rw [← hfj.out] at hlc hld
        have hw1 : IntKind.i64.wrap (j : Int) = (j : Int) := by rw [IntWalk.i64_in _ (by omega)]
        have hz1 : ((j : Int) + 1 == 0) = false := beq_eq_false_iff_ne.mpr (by omega)
        have hjn : j < n := by omega
        by_cases he : f j = f (j + 1)
        · have hno := Sec.mk (dd_no f (j + 1) (by simp [he]))
          rw [he] at hlc hld
          clear he
          go_wp2
          go_quiet (fail)
          clear hw1
          go_wp2
          go_roundw
          case rel => exact ⟨j + 1 + 1, by omega, by go_num, by rw [hno.out]; exact hD.drewN _, hAt, hCh.drewN _⟩
          case measure => simp [intOf]; omega
        · have hyes := Sec.mk (dd_yes f (j + 1) (.inr he))
          by_cases hx1 : (f j).1 = (f (j + 1)).1
          · have hx2 : ((f j).2 == (f (j + 1)).2) = false := beq_eq_false_iff_ne.mpr (fun h => he (Prod.ext hx1 h))
            rw [hx1] at hlc
            clear he hx1
            go_wp2
            go_quiet (fail)
            clear hw1
            go_wp2_with (at_builtin; refine wpList_push rfl _ _ 59 rfl w.heap.size 87 _ 8 Try.underlying59 infoP rfl (by decide) rfl (hD.drewN _) (f (j + 1)) _ _ rfl rfl (ep_one _) (by have := dd_len f (j + 1); omega) (by decide) hws ?_; intro v' w2 hO1 hC1 hat)
            go_roundw
            case rel =>
              have hC2 : Chg (fun b => b = w.heap.size ∨ w1.heap.size ≤ b) w1 w2 := (hCh.drewN _).trans hC1 (fun b hb => .inl (hAt b hb.symm))
              refine ⟨j + 1 + 1, by omega, by go_num, by rw [hyes.out]; exact hO1, ?_, hC2⟩
              intro g hg
              rcases hat with h5 | ⟨b5, h5, h6⟩
              · exact hAt g (h5 ▸ hg)
              · rw [h5] at hg
                injection hg with hg
                exact .inr (by rw [← hg]; exact Nat.le_trans hCh.size h6)
            case measure => simp [intOf]; omega
          · have hx2 : ((f j).1 == (f (j + 1)).1) = false := beq_eq_false_iff_ne.mpr hx1
            clear he hx1
            go_wp2
            go_quiet (fail)
            clear hw1
            go_wp2_with (at_builtin; refine wpList_push rfl _ _ 59 rfl w.heap.size 87 _ 8 Try.underlying59 infoP rfl (by decide) rfl (hD.drewN _) (f (j + 1)) _ _ rfl rfl (ep_one _) (by have := dd_len f (j + 1); omega) (by decide) hws ?_; intro v' w2 hO1 hC1 hat)
            go_roundw
            case rel =>
              have hC2 : Chg (fun b => b = w.heap.size ∨ w1.heap.size ≤ b) w1 w2 := (hCh.drewN _).trans hC1 (fun b hb => .inl (hAt b hb.symm))
              refine ⟨j + 1 + 1, by omega, by go_num, by rw [hyes.out]; exact hO1, ?_, hC2⟩
              intro g hg
              rcases hat with h5 | ⟨b5, h5, h6⟩
              · exact hAt g (h5 ▸ hg)
              · rw [h5] at hg
                injection hg with hg
                exact .inr (by rw [← hg]; exact Nat.le_trans hCh.size h6)
            case measure => simp [intOf]; omega
    · obtain rfl : k = n := by omega
      go_wp2
      go_ret
      exact ⟨_, rfl, by rw [← HN.out]; exact hD, ((Chg.of_below hBw (fun b => w.heap.size ≤ b)).trans hCh (fun b hb => .inl (by have := hBw.size; omega))).below (fun _ h => h)⟩
end Go.Proofs.Ytndlcfdlhliljaa.Rx
