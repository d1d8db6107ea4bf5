/- The byte sort's contract: places by their keys, in order. Conditions: keys of 64 bits, fewer than 2^30 of them. -/
import Derived.Test.YtdbaklnjemcfgaaGreatDoorSl
import Derived.Test.YtdbaklnjemcfgaaGreatDoorELays
import Derived.WalkKit
import Derived.Deep.QuietTactic
import Derived.BigQuiet
import Derived.Deep.LoopGhost
import Derived.Deep.RegionLaw
import Derived.Outline
import Derived.Laws.Tables
import Derived.Deep.WholeRow
import Derived.RegionTactic
import Derived.BigRegion
import Derived.Test.YtdbaklnjemcfgaaGreatDoorRMath
import Derived.Laws.BitsLemmas
namespace Go.Proofs.YtdbaklnjemcfgaaGreatDoor.Rx
open Go.Shelf Go.RowKit Go.Proofs.YtdbaklnjemcfgaaGreatDoor.Mem Go.Proofs.YtdbaklnjemcfgaaGreatDoor.Sl Go.Proofs.YtdbaklnjemcfgaaGreatDoor.RMath
set_option linter.unusedVariables false
set_option linter.unusedSimpArgs false

theorem infoI : (Tryz.prog.info? 3).map (fun i => (i.zero, i.size, i.bytes)) = some (some (.int .i64 0), 1, 8) := by kernel_rfl
theorem infoU : (Tryz.prog.info? 58).map (fun i => (i.zero, i.size, i.bytes)) = some (some (.int .u64 0), 1, 8) := by kernel_rfl
/-! ### an array of whole numbers in a block of its own -/
structure Arr (w : World) (b : Nat) (C : List Int) : Prop where
  heap : w.heap[b]? = some (.cells (C.map (Value.int .i64)).toArray 248 (0, 0))
  len : C.length = 256
theorem Arr.lt {w : World} {b : Nat} {C : List Int} (h : Arr w b C) : b < w.heap.size := lt_of_heap h.heap
theorem Arr.cell {w : World} {b : Nat} {C : List Int} (h : Arr w b C) (i : Nat) (hi : i < 256) : w.cell? ⟨b, i, none⟩ = some (.int .i64 (nth 0 C i)) := by
  have := h.len
  simp [World.cell?, h.heap, nth_get 0 C i (by omega)]
theorem Arr.free {w : World} {b : Nat} {C : List Int} (h : Arr w b C) (i : Nat) : w.frozen? ⟨b, i, none⟩ = false := by
  have hh := h.heap
  unfold World.frozen?
  simp only [hh]
  show (decide (0 ≤ i) && decide (i < 0)) = false
  rw [decide_eq_false (Nat.not_lt_zero i), Bool.and_false]
theorem Arr.set {w : World} {b : Nat} {C : List Int} (h : Arr w b C) (i : Nat) (x : Int) : Arr (w.setCell ⟨b, i, none⟩ (.int .i64 x)) b (C.set i x) := by
  refine ⟨?_, by rw [List.length_set]; exact h.len⟩
  rw [heap_setCell_at w b i _ _ _ _ h.heap]
  simp
theorem Arr.keep {w w1 : World} {b : Nat} {C : List Int} {T : Nat → Prop} (h : Arr w b C) (hc : Chg T w w1) (hn : ¬ T b) : Arr w1 b C := ⟨hc.heap h.heap h.lt hn, h.len⟩
theorem Arr.drew {w : World} {b : Nat} {C : List Int} (h : Arr w b C) : Arr w.drew b C := ⟨h.heap, h.len⟩
theorem zeros98 : Tryz.zeroCells248 = ((List.replicate 256 (0 : Int)).map (Value.int .i64)).toArray := by kernel_rfl
theorem Arr.zero (w : World) : Arr (w.alloc (.cells Tryz.zeroCells248 248)) w.heap.size (List.replicate 256 0) := ⟨by rw [heap_alloc_new, zeros98], List.length_replicate⟩

/-! ### how many have each byte -/
def cntL (f : Int → Nat) (l : List Int) : List Int := (List.range 256).map fun b => ((l.filter (f · == b)).length : Int)
theorem cntL_len (f : Int → Nat) (l : List Int) : (cntL f l).length = 256 := by simp [cntL]
theorem cntL_nil (f : Int → Nat) : cntL f [] = List.replicate 256 0 := by
  apply List.ext_getElem
  · rw [cntL_len, List.length_replicate]
  · intro i h1 h2
    rw [List.getElem_replicate]
    simp only [cntL, List.getElem_map, List.filter_nil, List.length_nil]
    rfl
theorem cntL_at (f : Int → Nat) (l : List Int) (b : Nat) (hb : b < 256) : nth 0 (cntL f l) b = ((l.filter (f · == b)).length : Int) := by
  rw [nth_eq 0 _ b (by rw [cntL_len]; exact hb)]
  simp [cntL]
theorem cntL_snoc (f : Int → Nat) (l : List Int) (x : Int) (hx : f x < 256) : cntL f (l ++ [x]) = (cntL f l).set (f x) (nth 0 (cntL f l) (f x) + 1) := by
  apply List.ext_getElem
  · rw [List.length_set, cntL_len, cntL_len]
  · intro b h1 h2
    rw [cntL_len] at h1
    rw [List.getElem_set]
    have e := cntL_at f l (f x) hx
    by_cases h : f x = b
    · subst h
      rw [if_pos rfl, e]
      simp [cntL]
    · have h' : (f x == b) = false := by simpa using h
      rw [if_neg h]
      simp [cntL, h']

/-- A place's byte. -/
def byteOf (ys : List Int) (sh : Nat) (i : Int) : Nat := (nth 0 ys i.toNat / 2 ^ sh % 256).toNat
theorem byteOf_lt (ys : List Int) (sh : Nat) (i : Int) : byteOf ys sh i < 256 := by unfold byteOf; omega

/-- Where each byte's stretch begins, for the bytes below b. -/
def startL (f : Int → Nat) (l : List Int) (b : Nat) : List Int := (List.range 256).map fun i => if i < b then ((pre f l i : Nat) : Int) else 0
theorem startL_len (f : Int → Nat) (l : List Int) (b : Nat) : (startL f l b).length = 256 := by simp [startL]
theorem startL_zero (f : Int → Nat) (l : List Int) : startL f l 0 = List.replicate 256 0 := by
  apply List.ext_getElem
  · rw [startL_len, List.length_replicate]
  · intro i h1 h2
    rw [List.getElem_replicate]
    simp only [startL, List.getElem_map]
    rw [if_neg (Nat.not_lt_zero _)]
theorem startL_set (f : Int → Nat) (l : List Int) (b : Nat) (hb : b < 256) : startL f l (b + 1) = (startL f l b).set b ((pre f l b : Nat) : Int) := by
  apply List.ext_getElem
  · rw [List.length_set, startL_len, startL_len]
  · intro i h1 h2
    rw [startL_len] at h1
    rw [List.getElem_set]
    by_cases h : b = i
    · subst h; simp [startL]
    · rw [if_neg h]
      simp only [startL, List.getElem_map, List.getElem_range]
      by_cases h3 : i < b
      · rw [if_pos h3, if_pos (by omega)]
      · rw [if_neg h3, if_neg (by omega)]
/-- Where the next place of each byte comes to lie, behind the first k. -/
def nextL (f : Int → Nat) (l : List Int) (k : Nat) : List Int := (List.range 256).map fun b => ((pre f l b + (bkt f (l.take k) b).length : Nat) : Int)
theorem nextL_len (f : Int → Nat) (l : List Int) (k : Nat) : (nextL f l k).length = 256 := by simp [nextL]
theorem nextL_zero (f : Int → Nat) (l : List Int) : startL f l 256 = nextL f l 0 := by
  apply List.ext_getElem
  · rw [startL_len, nextL_len]
  · intro i h1 h2
    rw [startL_len] at h1
    simp [startL, nextL, h1, bkt]
theorem nextL_at (f : Int → Nat) (l : List Int) (k : Nat) (hb : f (nth 0 l k) < 256) : nth 0 (nextL f l k) (f (nth 0 l k)) = ((pos f l k : Nat) : Int) := by
  rw [nth_eq 0 _ _ (by rw [nextL_len]; exact hb)]
  simp [nextL, pos]
theorem nextL_set (f : Int → Nat) (l : List Int) (k : Nat) (hk : k < l.length) (hb : f (nth 0 l k) < 256) : nextL f l (k + 1) = (nextL f l k).set (f (nth 0 l k)) (((pos f l k : Nat) : Int) + 1) := by
  apply List.ext_getElem
  · rw [List.length_set, nextL_len, nextL_len]
  · intro i h1 h2
    rw [nextL_len] at h1
    rw [List.getElem_set]
    simp only [nextL, List.getElem_map, List.getElem_range]
    rw [take_nth 0 l k hk]
    by_cases h : f (nth 0 l k) = i
    · subst h
      rw [if_pos rfl]
      unfold pos bkt
      simp; omega
    · rw [if_neg h]
      have : (f (nth 0 l k) == i) = false := by simpa using h
      unfold bkt
      simp [this]

/-- What lies where it belongs. -/
structure Laid (f : Int → Nat) (l o : List Int) (k : Nat) : Prop where
  len : o.length = l.length
  at_ : ∀ i, i < k → i < l.length → nth 0 o (pos f l i) = nth 0 l i
theorem Laid.next {f : Int → Nat} {l o : List Int} {k : Nat} (h : Laid f l o k) (hf : ∀ x ∈ l, f x < 256) (hk : k < l.length) : Laid f l (o.set (pos f l k) (nth 0 l k)) (k + 1) := by
  refine ⟨by rw [List.length_set]; exact h.len, fun i hi hl => ?_⟩
  have hp := pos_lt f l hf
  by_cases e : i = k
  · subst e
    rw [nth_eq 0 _ _ (by rw [List.length_set, h.len]; exact hp i hl), List.getElem_set, if_pos rfl]
  · have := pos_inj f l hf (show i < k by omega) hk
    rw [nth_eq 0 _ _ (by rw [List.length_set, h.len]; exact hp i hl), List.getElem_set, if_neg (Ne.symm this), ← nth_eq 0 o _ (by rw [h.len]; exact hp i hl)]
    exact h.at_ i (by omega) hl

set_option maxRecDepth 100000 in
set_option maxHeartbeats 2000000 in
theorem pass_any (w : World) (v u : Value) (xs ys : List Int) (sh : Nat) (hsh : sh ≤ 63) (h : Rd (ei .i64) 1 w v xs) (g : Rd (ei .u64) 1 w u ys) (hx : ∀ x ∈ xs, 0 ≤ x ∧ x < ys.length) (hy : ∀ y ∈ ys, 0 ≤ y) (hm : xs.length ≤ 100000000000) :
    Calls Tryz.prog 116 #[v, u, .int .u64 (sh : Int)] w fun e w' => ∃ v', e = .returned v' ∧ Own (ei .i64) 1 3 w' w.heap.size v' (passL (byteOf ys sh) xs) ∧ Below w.heap.size w w' := by
  obtain ⟨A, c, rfl⟩ := h.slice
  obtain ⟨B, d, rfl⟩ := g.slice
  have hl := h.at_.2.2.1
  have hl2 := g.at_.2.2.1
  go_enter Tryz.func116, Tryz.ntmps116
  go_wp2
  go_loopw [19] (fun i wr => ∃ k : Nat, k ≤ xs.length ∧ i = .int .i64 k ∧ Arr wr w.heap.size (cntL (byteOf ys sh) (xs.take k)) ∧ Below w.heap.size w wr) (fun i _ => xs.length - (intOf i).toNat)
  case atStart => exact ⟨0, Nat.zero_le _, rfl, by rw [List.take_zero, cntL_nil]; exact Arr.zero w, (Below.refl _ _).alloc (Nat.le_refl _) _⟩
  case round =>
    obtain ⟨k, hk1, rfl, hC, hB⟩ := hrel
    by_cases h1 : k < xs.length
    · obtain ⟨b, off, rfl, hbl, hc0⟩ := h.int k h1
      have hc := (hB.cell (p := ⟨b, off + k, none⟩) hbl).trans hc0
      clear hc0
      have hxk : nth 0 xs k ∈ xs := by rw [nth_eq 0 xs k h1]; exact List.getElem_mem _
      obtain ⟨j, hj⟩ : ∃ j : Nat, nth 0 xs k = (j : Int) := ⟨(nth 0 xs k).toNat, by have := hx _ hxk; omega⟩
      have hjl : j < ys.length := by have := hx _ hxk; omega
      obtain ⟨b2, off2, rfl, hbl2, hc1⟩ := g.int j hjl
      have hc2 := (hB.cell (p := ⟨b2, off2 + j, none⟩) hbl2).trans hc1
      clear hc1
      have hyj : 0 ≤ nth 0 ys j := hy _ (by rw [nth_eq 0 ys j hjl]; exact List.getElem_mem _)
      rw [hj] at hc
      have HJ := Sec.mk hj
      clear hj hxk
      have hq : byteOf ys sh (nth 0 xs k) = (nth 0 ys j / 2 ^ sh % 256).toNat := by rw [HJ.out]; simp [byteOf]
      have hql := byteOf_lt ys sh (nth 0 xs k)
      rw [hq] at hql
      obtain ⟨cv, hcv⟩ : ∃ cv, nth 0 (cntL (byteOf ys sh) (xs.take k)) (nth 0 ys j / 2 ^ sh % 256).toNat = cv := ⟨_, rfl⟩
      have hcb := hC.cell _ hql
      rw [hcv] at hcb
      have hcl : 0 ≤ cv ∧ cv ≤ 100000000000 := by
        rw [← hcv, cntL_at _ _ _ hql]
        have := List.length_filter_le (fun x => byteOf ys sh x == (nth 0 ys j / 2 ^ sh % 256).toNat) (xs.take k)
        rw [List.length_take] at this
        omega
      have hfb := hC.free (nth 0 ys j / 2 ^ sh % 256).toNat
      have HQ := Sec.mk hq
      have HV := Sec.mk hcv
      have HL := Sec.mk hql
      clear hq hcv hql
      go_wp2
      go_roundw
      case rel =>
        refine ⟨k + 1, by omega, by go_num, ?_, hB.setCell (Nat.le_refl _) _⟩
        rw [take_nth 0 xs k h1, cntL_snoc _ _ _ (byteOf_lt ..), HQ.out, HV.out]
        exact hC.set _ _
      case measure => simp [intOf]; omega
    · obtain rfl : k = xs.length := by omega
      rw [List.take_of_length_le (by omega)] at hC
      have hst : ∀ W : World, (storeCells ⟨W.heap.size, 0, none⟩ Tryz.zeroCells248.toList 0).run Tryz.prog (W.alloc (.cells Tryz.zeroCells248 248)) = .ok () (W.alloc (.cells Tryz.zeroCells248 248)) := fun W => run_storeCells_new W 248 _ _ (by kernel_rfl) rfl (by kernel_rfl)
      have hf : ∀ x ∈ xs, byteOf ys sh x < 256 := fun x _ => byteOf_lt ys sh x
      have hwl := hB.size
      have hC0 := hC.lt
      obtain ⟨wo, rfl⟩ : ∃ wo : World, wo = wr := ⟨_, rfl⟩
      go_wp2
      clear hst
      go_loopw [11, 36] (fun sv i w2 => ∃ b : Nat, b ≤ 256 ∧ i = .int .i64 b ∧ sv = .int .i64 (pre (byteOf ys sh) xs b : Nat) ∧ Arr w2 w.heap.size (cntL (byteOf ys sh) xs) ∧ Arr w2 wo.heap.size (startL (byteOf ys sh) xs b) ∧ Below w.heap.size w w2) (fun _ i _ => 256 - (intOf i).toNat)
      case atStart => exact ⟨0, by omega, rfl, rfl, hC.keep (T := fun _ => False) ((Chg.refl _ _).alloc _) (fun h => h), by rw [startL_zero]; exact Arr.zero wo, hB.alloc hwl _⟩
      case round =>
        obtain ⟨b, hb, rfl, rfl, hC2, hS, hB2⟩ := hrel
        by_cases h2 : b < 256
        · have hcb := hC2.cell b h2
          rw [cntL_at _ _ _ h2] at hcb
          have hsb := hS.cell b h2
          have hfb := hS.free b
          have hps := pre_succ (byteOf ys sh) xs b
          have hpl := pre_le (byteOf ys sh) xs hf (show b + 1 ≤ 256 by omega)
          have hpl2 := pre_le (byteOf ys sh) xs hf hb
          have hne : w.heap.size < wo.heap.size := by omega
          obtain ⟨p, hp⟩ : ∃ p, pre (byteOf ys sh) xs b = p := ⟨_, rfl⟩
          obtain ⟨cn, hcn⟩ : ∃ cn, (xs.filter (byteOf ys sh · == b)).length = cn := ⟨_, rfl⟩
          have hsum : p + cn = pre (byteOf ys sh) xs (b + 1) := by rw [hps, hp, ← hcn]; rfl
          rw [hp] at hpl2
          rw [hp]
          rw [hcn] at hcb
          have hcl : cn ≤ 100000000000 := by
            have : cn ≤ pre (byteOf ys sh) xs (b + 1) := by omega
            omega
          have hpl3 : p ≤ 100000000000 := Nat.le_trans hpl2 hm
          have HP := Sec.mk hp
          have HS := Sec.mk hsum
          clear hps hpl hpl2 hp hcn hsum
          go_wp2
          go_region
          go_wp2
          go_roundw
          case rel =>
            refine ⟨b + 1, by omega, by go_num, by rw [← HS.out]; go_num, ?_, ?_, ?_⟩
            · exact hC2.keep (T := fun k => k = wo.heap.size) ((Chg.setCell (T := fun k => k = wo.heap.size) (Chg.refl _ _) _ _ (.inl rfl)).drew) (by omega)
            · rw [startL_set _ _ _ h2, HP.out]
              exact (hS.set b _).drew
            · exact below_d1 (hB2.setCell hwl _)
          case measure => simp [intOf]; omega
        · obtain rfl : b = 256 := by omega
          rw [nextL_zero] at hS
          have hb8 : 8 * xs.length ≤ 281474976710656 := by omega
          have hwo : wo.heap.size < wr.heap.size := hS.lt
          obtain ⟨w2, rfl⟩ : ∃ w2 : World, w2 = wr := ⟨_, rfl⟩
          go_wp2_with (at_make; refine wpList_mk1 (Value.int .i64) 0 rfl _ _ 79 rfl w.heap.size 3 8 Tryz.underlying79 infoI rfl xs.length rfl rfl hb8 hl hB2.size ?_; intro w3 hO hB3)
          clear hb8
          have hS3 : Arr w3 wo.heap.size (nextL (byteOf ys sh) xs 0) := hS.keep (T := fun _ => False) (Chg.of_below hB3 _) (fun h => h)
          have hBw : Below w.heap.size w w3 := hB2.trans (hB3.mono hB2.size)
          have hw2 : w.heap.size ≤ w2.heap.size := hB2.size
          go_loopw [53] (fun i w4 => ∃ (k : Nat) (O : List Int), k ≤ xs.length ∧ i = .int .i64 k ∧ Sec (Laid (byteOf ys sh) xs O k) ∧ Own (ei .i64) 1 3 w4 w.heap.size (.slice (some ⟨w2.heap.size, 0, none⟩) xs.length xs.length) O ∧ Arr w4 wo.heap.size (nextL (byteOf ys sh) xs k) ∧ Below w.heap.size w w4) (fun i _ => xs.length - (intOf i).toNat)
          case atStart => exact ⟨0, _, Nat.zero_le _, rfl, ⟨⟨by simp, fun i h => absurd h (Nat.not_lt_zero i)⟩⟩, hO, hS3, hBw⟩
          case round =>
            clear hS3 hO hB3 hBw hS hC2 hB2 hC hB
            obtain ⟨k, O, hk, rfl, hLd, hO, hS, hB⟩ := hrel
            by_cases h3 : k < xs.length
            · obtain ⟨b, off, rfl, hbl, hc0⟩ := h.int k h3
              have hc := (hB.cell (p := ⟨b, off + k, none⟩) hbl).trans hc0
              clear hc0
              have hxk : nth 0 xs k ∈ xs := by rw [nth_eq 0 xs k h3]; exact List.getElem_mem _
              obtain ⟨j, hj⟩ : ∃ j : Nat, nth 0 xs k = (j : Int) := ⟨(nth 0 xs k).toNat, by have := hx _ hxk; omega⟩
              have hjl : j < ys.length := by have := hx _ hxk; omega
              obtain ⟨b2, off2, rfl, hbl2, hc1⟩ := g.int j hjl
              have hcy := (hB.cell (p := ⟨b2, off2 + j, none⟩) hbl2).trans hc1
              clear hc1
              have hyj : 0 ≤ nth 0 ys j := hy _ (by rw [nth_eq 0 ys j hjl]; exact List.getElem_mem _)
              rw [hj] at hc
              have hq : byteOf ys sh (nth 0 xs k) = (nth 0 ys j / 2 ^ sh % 256).toNat := by rw [hj]; simp [byteOf]
              have hql := byteOf_lt ys sh (nth 0 xs k)
              have hNx := Sec.mk (nextL_set (byteOf ys sh) xs k h3 hql)
              have hpn := pos_lt (byteOf ys sh) xs hf k h3
              have hat := nextL_at (byteOf ys sh) xs k hql
              have hLn := Sec.mk (hLd.out.next hf h3)
              rw [hj] at hLn
              obtain ⟨p, hp⟩ : ∃ p, pos (byteOf ys sh) xs k = p := ⟨_, rfl⟩
              rw [hp] at hat hpn hLn hNx
              rw [hq] at hql hat hNx
              have hcb := hS.cell _ hql
              rw [hat] at hcb
              have hfb := hS.free (nth 0 ys j / 2 ^ sh % 256).toNat
              have hOl := hLd.out.len
              obtain ⟨gg, cap, hge, _, hgl, _, hgf, hgc⟩ := hO.row (by omega)
              injection hge with he1 he2 he3
              injection he1 with he1
              injection he1 with he1 _ _
              subst he1
              have hgcp := hgc p _ (nth_get 0 O p (by omega)) 0 _ rfl
              rw [Nat.mul_one, Nat.add_zero] at hgcp
              have hgfp := hgf p
              have hK := Chg.setCell (T := fun k => k = w2.heap.size) (Chg.refl (fun k => k = w2.heap.size) wr) ⟨w2.heap.size, p, none⟩ (.int .i64 (j : Int)) (.inl rfl)
              have hS1 := hS.keep hK (by omega)
              have hcb1 := hS1.cell _ hql
              rw [hat] at hcb1
              have hfb1 := hS1.free (nth 0 ys j / 2 ^ sh % 256).toNat
              have hO1 := Own.set (Value.int .i64) hO p (j : Int)
              have HJ := Sec.mk hj
              have HQ := Sec.mk hql
              have hpi : (p : Int) < (xs.length : Int) := by omega
              have hpm : p ≤ 100000000000 := by omega
              clear hgc hgf hOl hj hq hql hat hp hxk he2 he3 hS hO
              go_wp2
              go_roundw
              case rel =>
                refine ⟨k + 1, O.set p (j : Int), by omega, by go_num, hLn, ?_, ?_, ?_⟩
                · refine Own.keep (T := fun k => k = wo.heap.size) hO1 (Chg.setCell (Chg.refl _ _) _ _ (.inl rfl)) (fun k' hk' => ?_)
                  have : w2.heap.size = k' := Option.some.inj hk'
                  omega
                · rw [hNx.out]; exact hS1.set _ _
                · exact (hB.setCell hw2 _).setCell (by show w.heap.size ≤ wo.heap.size; omega) _
              case measure => simp [intOf]; omega
            · obtain rfl : k = xs.length := by omega
              have he := passL_eq (byteOf ys sh) xs O hf hLd.out.len (fun i hi => hLd.out.at_ i hi hi)
              rw [he] at hO
              clear he
              go_wp2
              go_ret
              exact ⟨_, rfl, hO, hB⟩
theorem bits_Len64 (x : Int) (w : World) (h0 : 0 ≤ x) (h1 : x ≤ 18446744073709551615) :
    Calls Tryz.prog 81 #[.int .u64 x] w fun e w' => e = .returned (.int .i64 (Lib.bitLen x.toNat)) ∧ w' = w := Any.bits_Len64 Tryz.lays129 x w h0 h1
theorem bl_le (j : Nat) : ∀ f u, u < 2 ^ j → Lib.bitLenAux f u ≤ j := by
  induction j with
  | zero =>
    intro f u h
    have : u = 0 := by simpa using h
    subst this
    cases f <;> simp [Lib.bitLenAux]
  | succ j ih =>
    intro f u h
    cases f with
    | zero => simp [Lib.bitLenAux]
    | succ f =>
      simp only [Lib.bitLenAux]
      split
      · omega
      · have := ih f (u / 2) (by rw [Nat.pow_succ] at h; omega)
        omega
theorem bitLen_le (u : Nat) (h : u ≤ 18446744073709551615) : Lib.bitLen u ≤ 64 := bl_le 64 64 u (by omega)

theorem log_any (u : Int) (w : World) (h0 : 0 ≤ u) (h1 : u ≤ 18446744073709551615) :
    Calls Tryz.prog 115 #[.int .u64 u] w fun e w' => e = .returned (.int .i64 ((Lib.bitLen u.toNat : Int) - 1)) ∧ w' = w := by
  have hL := bits_Len64 u w h0 h1
  have hb := bitLen_le u.toNat (by omega)
  obtain ⟨n, hn⟩ : ∃ n, Lib.bitLen u.toNat = n := ⟨_, rfl⟩
  rw [hn] at hL hb ⊢
  clear hn
  go_enter Tryz.func115, Tryz.ntmps115
  go_wp2_with (go_at_call 81; refine hL.mono ?_; rintro e w' ⟨rfl, rfl⟩)
  go_ret
  exact ⟨rfl, rfl⟩

/-- All keys' bits together. -/
def orA (l : List Int) : Int := l.foldl (fun a y => bits .or .u64 a y) 0
theorem orA_snoc (l : List Int) (y : Int) : orA (l ++ [y]) = bits .or .u64 (orA l) y := by simp [orA]
theorem bits_u64 (op : BinOp) (x y : Int) : 0 ≤ bits op .u64 x y ∧ bits op .u64 x y ≤ 18446744073709551615 := by
  unfold bits
  simp only [IntKind.wrap, IntKind.bits, IntKind.signed, Bool.false_and]
  simp
  omega
theorem orA_rng (l : List Int) : 0 ≤ orA l ∧ orA l ≤ 18446744073709551615 := by
  rcases List.eq_nil_or_concat l with rfl | ⟨l', y, rfl⟩
  · simp [orA]
  · rw [List.concat_eq_append, orA_snoc]; exact bits_u64 ..

/-- The first k places told, of n. -/
def iotaL (n k : Nat) : List Int := (List.range n).map fun i => if i < k then (i : Int) else 0
theorem iotaL_len (n k : Nat) : (iotaL n k).length = n := by simp [iotaL]
theorem iotaL_zero (n : Nat) : iotaL n 0 = List.replicate n 0 := by
  apply List.ext_getElem
  · rw [iotaL_len, List.length_replicate]
  · intro i h1 h2
    rw [List.getElem_replicate]
    simp only [iotaL, List.getElem_map]
    rw [if_neg (Nat.not_lt_zero _)]
theorem iotaL_set (n k : Nat) (hk : k < n) : iotaL n (k + 1) = (iotaL n k).set k (k : Int) := by
  apply List.ext_getElem
  · rw [List.length_set, iotaL_len, iotaL_len]
  · intro i h1 h2
    rw [List.getElem_set]
    by_cases h : k = i
    · subst h; simp [iotaL]
    · rw [if_neg h]
      simp only [iotaL, List.getElem_map, List.getElem_range]
      by_cases h3 : i < k
      · rw [if_pos h3, if_pos (by omega)]
      · rw [if_neg h3, if_neg (by omega)]

/-- The places behind p passes; in the end. -/
def passes (ys : List Int) : Nat → List Int
  | 0 => iotaL ys.length ys.length
  | p + 1 => passL (byteOf ys (8 * p)) (passes ys p)
def orderL (ys : List Int) : List Int := passes ys ((Lib.bitLen (orA ys).toNat + 7) / 8)
theorem passL_mem (f : Int → Nat) (l : List Int) (x : Int) (h : x ∈ passL f l) : x ∈ l := by
  unfold passL passN bkt at h
  obtain ⟨b, _, hb⟩ := List.mem_flatMap.1 h
  exact (List.mem_filter.1 hb).1
theorem passes_mem (ys : List Int) (p : Nat) : ∀ x ∈ passes ys p, 0 ≤ x ∧ x < ys.length := by
  induction p with
  | zero =>
    intro x hx
    unfold passes iotaL at hx
    obtain ⟨i, hi, rfl⟩ := List.mem_map.1 hx
    rw [List.mem_range] at hi
    rw [if_pos hi]; omega
  | succ p ih => intro x hx; exact ih x (passL_mem _ _ x hx)
theorem passes_len (ys : List Int) (p : Nat) : (passes ys p).length = ys.length := by
  induction p with
  | zero => exact iotaL_len _ _
  | succ p ih =>
    show (passL _ (passes ys p)).length = _
    rw [passL_len _ _ (fun x _ => byteOf_lt ..), ih]

set_option maxRecDepth 100000 in
set_option maxHeartbeats 1000000 in
theorem order_any (w : World) (v : Value) (ys : List Int) (h : Rd (ei .u64) 1 w v ys) (hy : ∀ y ∈ ys, 0 ≤ y ∧ y ≤ 18446744073709551615) (hm : ys.length ≤ 1000000000) :
    Calls Tryz.prog 91 #[v] w fun e w' => ∃ v', e = .returned v' ∧ Own (ei .i64) 1 3 w' w.heap.size v' (orderL ys) ∧ Below w.heap.size w w' := by
  obtain ⟨A, c, rfl⟩ := h.slice
  have hl := h.at_.2.2.1
  have hb8 : 8 * ys.length ≤ 281474976710656 := by omega
  go_enter Tryz.func91, Tryz.ntmps91
  go_wp2_with (at_make; refine wpList_mk1 (Value.int .i64) 0 rfl _ _ 79 rfl w.heap.size 3 8 Tryz.underlying79 infoI rfl ys.length rfl rfl hb8 hl (Nat.le_refl _) ?_; intro w1 hO hB1)
  clear hb8
  go_loopw [3, 13] (fun av i wr => ∃ k : Nat, k ≤ ys.length ∧ i = .int .i64 k ∧ av = .int .u64 (orA (ys.take k)) ∧ Own (ei .i64) 1 3 wr w.heap.size (.slice (some ⟨w.heap.size, 0, none⟩) ys.length ys.length) (iotaL ys.length k) ∧ Below w.heap.size w wr) (fun _ i _ => ys.length - (intOf i).toNat)
  case atStart => exact ⟨0, Nat.zero_le _, rfl, rfl, by rw [iotaL_zero]; exact hO, hB1⟩
  case round =>
    clear hO hB1
    obtain ⟨k, hk, rfl, rfl, hO, hB⟩ := hrel
    by_cases h1 : k < ys.length
    · obtain ⟨b, off, rfl, hbl, hc0⟩ := h.int k h1
      have hc := (hB.cell (p := ⟨b, off + k, none⟩) hbl).trans hc0
      clear hc0
      obtain ⟨gg, cap, hge, _, hgl, _, hgf, hgc⟩ := hO.row (by rw [iotaL_len]; omega)
      injection hge with he1 he2 he3
      injection he1 with he1
      injection he1 with he1 _ _
      subst he1
      have hgcp := hgc k _ (nth_get 0 _ k (by rw [iotaL_len]; exact h1)) 0 _ rfl
      rw [Nat.mul_one, Nat.add_zero] at hgcp
      have hgfp := hgf k
      have hO1 := Own.set (Value.int .i64) hO k (k : Int)
      have hor := Sec.mk (orA_snoc (ys.take k) (nth 0 ys k))
      rw [← take_nth 0 ys k h1] at hor
      have his := Sec.mk (iotaL_set ys.length k h1)
      clear hgf hgc he2 he3 hO
      have hne : b < w.heap.size := hbl
      go_wp2
      go_roundw
      case rel => exact ⟨k + 1, by omega, by go_num, by rw [hor.out], by rw [his.out]; exact hO1, hB.setCell (Nat.le_refl _) _⟩
      case measure => simp [intOf]; omega
    · obtain rfl : k = ys.length := by omega
      rw [List.take_length] at *
      have hrng := orA_rng ys
      have hbl := bitLen_le (orA ys).toNat (by omega)
      obtain ⟨a, ha⟩ : ∃ a, orA ys = a := ⟨_, rfl⟩
      rw [ha] at hrng hbl ⊢
      obtain ⟨L, hL⟩ : ∃ L, Lib.bitLen a.toNat = L := ⟨_, rfl⟩
      have hLog : ∀ W, Calls Tryz.prog 115 #[.int .u64 a] W fun e w' => e = .returned (.int .i64 ((L : Int) - 1)) ∧ w' = W := fun W => by
        rw [← hL]; exact log_any a W hrng.1 hrng.2
      have hfin := Sec.mk (show orderL ys = passes ys ((L + 7) / 8) by unfold orderL; rw [ha, hL])
      rw [hL] at hbl
      clear ha hL
      obtain ⟨wo, rfl⟩ : ∃ wo : World, wo = wr := ⟨_, rfl⟩
      go_wp2
      go_loopw [4, 7] (fun v sv w2 => ∃ (p : Nat) (vv : Value), vv = v ∧ 8 * p < L + 8 ∧ sv = .int .i64 ((8 * p : Nat) : Int) ∧ Own (ei .i64) 1 3 w2 w.heap.size v (passes ys p) ∧ Below w.heap.size w w2) (fun _ sv _ => 100 - (intOf sv).toNat)
      case atStart => exact ⟨0, _, rfl, by omega, rfl, hO, hB⟩
      case round =>
        clear hO hB
        obtain ⟨p, vv, rfl, hp, rfl, hO, hB⟩ := hrel
        obtain ⟨s, hs⟩ : ∃ s, 8 * p = s := ⟨_, rfl⟩
        have hpm := passes_mem ys p
        have hpl := passes_len ys p
        rw [hs] at hp ⊢
        have HS := Sec.mk hs
        clear hs
        by_cases h2 : s < L
        · have hR := hO.rd
          have hpass := pass_any _ vv _ (passes ys p) ys s (by omega) hR (h.below hB) hpm (fun y hy' => (hy y hy').1) (by omega)
          clear hpm hpl hR
          go_wp2_with (first
            | (go_at_call 115; refine (hLog _).mono ?_; rintro e w' ⟨rfl, rfl⟩)
            | (go_at_call 116; refine hpass.mono ?_; rintro e w3 ⟨v3, rfl, hO3, hB3⟩))
          go_roundw
          case rel =>
            have hs := HS.out
            refine ⟨p + 1, _, rfl, by omega, by go_num, ?_, hB.trans (hB3.mono hB.size)⟩
            rw [← hs] at hO3
            exact hO3.lower hB.size
          case measure => simp [intOf]; omega
        · have hs := HS.out
          obtain rfl : p = (L + 7) / 8 := by omega
          rw [← hfin.out] at hO
          clear hs
          go_wp2_with (go_at_call 115; refine (hLog _).mono ?_; rintro e w' ⟨rfl, rfl⟩)
          go_ret
          exact ⟨_, rfl, hO, hB⟩
end Go.Proofs.YtdbaklnjemcfgaaGreatDoor.Rx
