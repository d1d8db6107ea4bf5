/- The byte sort, for the machine: what its contract says of known keys. Conditions: none. -/
import Derived.Test.YtdbaklnjemcfgaaGreatDoorRSort2
import Derived.Test.YtdbaklnjemcfgaaGreatDoorESorted
namespace Go.Proofs.YtdbaklnjemcfgaaGreatDoor.E
open Go.RowKit Go.Proofs.YtdbaklnjemcfgaaGreatDoor.Mem Go.Proofs.YtdbaklnjemcfgaaGreatDoor.D Go.Proofs.YtdbaklnjemcfgaaGreatDoor.Sl Go.Proofs.YtdbaklnjemcfgaaGreatDoor.Rx
set_option linter.unusedVariables false
set_option linter.unusedSimpArgs false

def leP (x y : Int × Int) : Bool := decide (x.1 < y.1) || (decide (x.1 = y.1) && decide (x.2 ≤ y.2))
def insP (x : Int × Int) : List (Int × Int) → List (Int × Int)
  | [] => [x]
  | y :: r => cond (leP x y) (x :: y :: r) (y :: insP x r)
def sortP : List (Int × Int) → List (Int × Int)
  | [] => []
  | x :: l => insP x (sortP l)
theorem insP_perm (x : Int × Int) : ∀ l, (insP x l).Perm (x :: l) := by
  intro l
  induction l with
  | nil => exact List.Perm.refl _
  | cons y r ih =>
    simp only [insP]
    cases leP x y with
    | true => exact List.Perm.refl _
    | false => exact (List.Perm.cons y ih).trans (List.Perm.swap x y r)
theorem sortP_perm : ∀ l, (sortP l).Perm l := by
  intro l
  induction l with
  | nil => exact List.Perm.refl _
  | cons x l ih => exact (insP_perm x _).trans (List.Perm.cons x ih)
theorem leP_tr (a b c : Int × Int) (h1 : leP a b = true) (h2 : leP b c = true) : leP a c = true := by
  simp only [leP, Bool.or_eq_true, Bool.and_eq_true, decide_eq_true_eq] at *; omega
theorem insP_sorted (x : Int × Int) : ∀ l, l.Pairwise (fun a b => leP a b = true) → (insP x l).Pairwise (fun a b => leP a b = true) := by
  intro l
  induction l with
  | nil => intro _; exact List.pairwise_singleton _ _
  | cons y r ih =>
    intro h
    obtain ⟨h1, h2⟩ := List.pairwise_cons.1 h
    simp only [insP]
    cases hxy : leP x y with
    | true => exact List.pairwise_cons.2 ⟨fun z hz => by rcases List.mem_cons.1 hz with e | e; exact e ▸ hxy; exact leP_tr _ _ _ hxy (h1 z e), h⟩
    | false =>
      have hyx : leP y x = true := by
        simp only [leP, Bool.or_eq_true, Bool.and_eq_true, decide_eq_true_eq, Bool.or_eq_false_iff, Bool.and_eq_false_iff, decide_eq_false_iff_not] at *; omega
      exact List.pairwise_cons.2 ⟨fun z hz => by
        rcases List.mem_cons.1 ((insP_perm x r).mem_iff.1 hz) with e | e
        · exact e ▸ hyx
        · exact h1 z e, ih h2⟩
theorem sortP_sorted : ∀ l, (sortP l).Pairwise (fun a b => leP a b = true) := by
  intro l
  induction l with
  | nil => exact List.Pairwise.nil
  | cons x l ih => exact insP_sorted x _ ih
def zp : List Int → Nat → List (Int × Int)
  | [], _ => []
  | y :: l, k => (y, (k : Int)) :: zp l (k + 1)
theorem zp_mem : ∀ (l : List Int) (k : Nat) (p : Int × Int), p ∈ zp l k ↔ ∃ j, l[j]? = some p.1 ∧ p.2 = ((k + j : Nat) : Int) := by
  intro l
  induction l with
  | nil => intro k p; simp [zp]
  | cons y l ih =>
    intro k p
    simp only [zp, List.mem_cons, ih]
    constructor
    · rintro (rfl | ⟨j, h1, h2⟩)
      · exact ⟨0, rfl, rfl⟩
      · exact ⟨j + 1, h1, by rw [h2]; congr 1; omega⟩
    · rintro ⟨j, h1, h2⟩
      cases j with
      | zero => left; simp at h1 h2; exact Prod.ext h1.symm h2
      | succ j => right; exact ⟨j, h1, by rw [h2]; congr 1; omega⟩
theorem zp_ne : ∀ (l : List Int) (k : Nat), (zp l k).Pairwise (fun a b => a.2 ≠ b.2) := by
  intro l
  induction l with
  | nil => intro k; exact List.Pairwise.nil
  | cons y l ih =>
    intro k
    refine List.pairwise_cons.2 ⟨fun p hp => ?_, ih _⟩
    obtain ⟨j, _, h2⟩ := (zp_mem l (k + 1) p).1 hp
    show (k : Int) ≠ p.2
    rw [h2]; omega
def ordK (ys : List Int) : List Int := (sortP (zp ys 0)).map (·.2)
theorem ordK_eq (ys : List Int) (hy : ∀ y ∈ ys, 0 ≤ y ∧ y ≤ 18446744073709551615) : ordK ys = orderL ys := by
  have hm : ∀ p, p ∈ sortP (zp ys 0) ↔ p ∈ zp ys 0 := fun p => (sortP_perm _).mem_iff
  refine order_eq ys _ hy ?_ (fun x => ?_)
  · unfold ordK
    rw [List.pairwise_map]
    have hne : (sortP (zp ys 0)).Pairwise (fun a b => a.2 ≠ b.2) := (sortP_perm _).symm.pairwise (zp_ne ys 0) (fun h => Ne.symm h)
    refine ((sortP_sorted (zp ys 0)).and hne).imp_of_mem ?_
    intro a b ha hb ⟨h1, h2⟩
    obtain ⟨i, g1, g2⟩ := (zp_mem ys 0 a).1 ((hm a).1 ha)
    obtain ⟨j, k1, k2⟩ := (zp_mem ys 0 b).1 ((hm b).1 hb)
    have e1 : nth 0 ys a.2.toNat = a.1 := by
      rw [g2, Nat.zero_add, Int.toNat_natCast]
      obtain ⟨q1, q2⟩ := List.getElem?_eq_some_iff.1 g1
      rw [nth_eq 0 ys _ q1, q2]
    have e2 : nth 0 ys b.2.toNat = b.1 := by
      rw [k2, Nat.zero_add, Int.toNat_natCast]
      obtain ⟨q1, q2⟩ := List.getElem?_eq_some_iff.1 k1
      rw [nth_eq 0 ys _ q1, q2]
    unfold By
    rw [e1, e2]
    simp only [leP, Bool.or_eq_true, Bool.and_eq_true, decide_eq_true_eq] at h1
    omega
  · unfold ordK
    constructor
    · intro hx
      obtain ⟨p, hp, rfl⟩ := List.mem_map.1 hx
      obtain ⟨j, g1, g2⟩ := (zp_mem ys 0 p).1 ((hm p).1 hp)
      have := (List.getElem?_eq_some_iff.1 g1).1
      rw [g2]; omega
    · intro hx
      have hj : x.toNat < ys.length := by omega
      exact List.mem_map.2 ⟨(ys[x.toNat], x), (hm _).2 ((zp_mem ys 0 _).2 ⟨x.toNat, List.getElem?_eq_getElem hj, by simp; omega⟩), rfl⟩
def keyNums : List EV → Option (List Int)
  | [] => some []
  | .im (.raw (.int .u64 y)) :: l => cond (decide (0 ≤ y) && decide (y ≤ 18446744073709551615)) ((keyNums l).map (y :: ·)) none
  | _ => none
theorem keyNums_at : ∀ (l : List EV) (ys : List Int), keyNums l = some ys → l = ys.map (fun y => er (.int .u64 y)) ∧ ∀ y ∈ ys, 0 ≤ y ∧ y ≤ 18446744073709551615 := by
  intro l
  induction l with
  | nil => intro ys h; simp [keyNums] at h; subst h; exact ⟨rfl, by simp⟩
  | cons x l ih =>
    intro ys h
    unfold keyNums at h
    split at h
    · rename_i hq; cases hq
    · rename_i y l' hq
      injection hq with e1 e2
      subst e1 e2
      cases hc : (decide (0 ≤ y) && decide (y ≤ 18446744073709551615)) with
      | false => rw [hc] at h; cases h
      | true =>
        rw [hc] at h
        simp only [cond_true, Option.map_eq_some_iff] at h
        obtain ⟨zs, h1, rfl⟩ := h
        obtain ⟨i1, i2⟩ := ih zs h1
        simp only [Bool.and_eq_true, decide_eq_true_eq] at hc
        refine ⟨by rw [List.map_cons, ← i1]; rfl, fun z hz => ?_⟩
        rcases List.mem_cons.1 hz with e | e
        · rw [e]; exact hc
        · exact i2 z e
    · cases h
section
variable {G : Gg} {w w0 : World} {T R : Nat → Prop} {h : Hp}
theorem order_call (k off cap : Nat) (ex : Bool) (h : Hp) (n : Nat) (cs : List EV) (ys : List Int) (hk : h k = some (.cells cs)) (hy : keyNums ((cs.drop off).take ys.length) = some ys) (h0 : 0 < ys.length) (hmax : ys.length ≤ 1000000) :
    CallE Tryz.prog 91 [.sl k off ys.length cap 1 ex] h n (.sl n 0 ys.length ys.length 1 false) (upd h n (some (.cells ((ordK ys).map fun i => er (.int .i64 i))))) (n + 1) := by
  obtain ⟨hy1, hy2⟩ := keyNums_at _ _ hy
  refine ⟨Nat.le_succ _, ⟨_, Tryz.func91, by kernel_rfl, rfl⟩, fun T w0 R G w vs hW hR hn hv => ?_⟩
  obtain ⟨v, rfl⟩ : ∃ v, vs = #[v] := by
    match vs, hn with
    | ⟨[v]⟩, _ => exact ⟨v, rfl⟩
  have hvv := hv 0 v _ rfl rfl
  cases hvv.leaf' rfl with
  | sl _ _ _ _ _ c hp hl hc hx ha hm hs =>
    rename_i p a
    obtain ⟨cur, tt, hh, hcsz, hfit, hcell⟩ := (hW.at' hk hp).2
    have hpos : a = p.o + off := by
      rcases ha with e | e
      · exact e
      · omega
    have hrd : Rd (ei .u64) 1 w (.slice (some ⟨p.b, a, none⟩) ys.length c) ys := by
      refine ⟨_, c, rfl, by omega, by omega, fun _ => ⟨p.b, a, rfl, hW.lt hk hp, fun i x hxi j u hu => ?_⟩⟩
      cases j with
      | succ j => simp [ei] at hu
      | zero =>
        simp [ei] at hu
        subst hu
        have e1 : ((cs.drop off).take ys.length)[i]? = some (er (.int .u64 x)) := by rw [hy1, List.getElem?_map, hxi]; rfl
        have hi := (List.getElem?_eq_some_iff.1 hxi).1
        rw [List.getElem?_take_of_lt hi, List.getElem?_drop] at e1
        obtain ⟨vv, g1, g2⟩ := hcell _ _ e1
        rw [g2.raw] at g1
        simp [World.cell?, hh, hpos, Nat.add_assoc] 
        simpa [Nat.add_assoc] using g1
    refine (order_any w _ ys hrd hy2 (by omega)).mono ?_
    rintro e w' ⟨v', rfl, hO, hbel⟩
    rw [← ordK_eq ys hy2] at hO
    have hol : (ordK ys).length = ys.length := by
      unfold ordK
      rw [List.length_map, (sortP_perm _).length_eq]
      have : ∀ (l : List Int) k, (zp l k).length = l.length := by
        intro l; induction l with
        | nil => intro k; rfl
        | cons y l ih => intro k; simp [zp, ih]
      exact this _ _
    rcases hO.1.2 with ⟨rfl, e0⟩ | ⟨gb, cap', cur', rfl, hbase, hgb, r1, r2, r3, r4⟩
    · omega
    · have hlt : gb < w'.heap.size := lt_of_heap hgb
      have hle := Gg.put_le (hW.fresh n (hR n (Nat.le_refl _))) ⟨gb, 0, cap'⟩
      have hcsz' : cur'.size = cap' := by simpa using r3
      have hone := hW.one (w' := w') n (.cells ((ordK ys).map fun i => er (.int .i64 i))) ⟨gb, 0, cap'⟩ (upd h n (some (.cells ((ordK ys).map fun i => er (.int .i64 i))))) hle (Gg.put_at ..) hbel.os hbel.tape hbel.output hbel.size (fun b hb' _ => hbel.block b hb') (.inr (Nat.le_trans hW.chg.size hbase))
        (fun off x hx => by have := Facts.lt hW.facts hx; simp at this; omega) ⟨cur', _, hgb, hcsz', by
          show 0 + _ ≤ cap'
          rw [List.length_map]; omega, fun j d hd => by
          rw [List.getElem?_map] at hd
          cases hq : (ordK ys)[j]? with
          | none => rw [hq] at hd; cases hd
          | some i =>
            rw [hq] at hd
            simp at hd
            subst hd
            refine ⟨.int .i64 i, ?_, VL.er rfl⟩
            show cur'[0 + j]? = _
            have hjl : j < (ordK ys).length * 1 := by
              have := (List.getElem?_eq_some_iff.1 hq).1
              omega
            have hfm : (ordK ys).flatMap (ei .i64) = (ordK ys).map (Value.int .i64) := by
              generalize ordK ys = l
              induction l with
              | nil => rfl
              | cons x l ih => simp [List.flatMap_cons, ei, ih]
            have e1 : (cur'.toList.take ((ordK ys).length * 1))[j]? = ((ordK ys).map (Value.int .i64))[j]? := by rw [r4, hfm]
            rw [List.getElem?_take_of_lt hjl, List.getElem?_map, hq, Array.getElem?_toList] at e1
            rw [Nat.zero_add]
            exact e1⟩ (fun o ho => by rw [upd_same] at ho; injection ho with ho; exact ho.symm) (fun k' o hne hk' => by
          rw [upd_ne _ _ hne] at hk'
          exact ⟨hk', fun p' hp' => by have := hW.lt hk' hp'; show p'.b ≠ gb; omega⟩)
      refine ⟨_, _, rfl, le_one hle, .leaf ?_, sub_one hone⟩
      rw [hol]
      exact VL.sl (G := G.put n ⟨gb, 0, cap'⟩) (a := 0) 0 ys.length ys.length 1 false cap' (k := n) (p := ⟨gb, 0, cap'⟩) (Gg.put_at ..) (Nat.le_refl _) (by omega) (by simp) (.inl rfl) r2 (.inr (by show 0 + 0 + cap' * 1 ≤ cap'; omega))
end
noncomputable def libO : LibF := fun f args h n =>
  cond (Nat.beq f 91)
    (match args with
    | [.sl k off len cap 1 ex] => match h.get k with
      | some (.cells cs) => match keyNums ((cs.drop off).take len) with
        | some ys => cond (Nat.beq ys.length len && Nat.blt 0 len && Nat.ble len 1000000 && fits n)
            (listF ((ordK ys).map fun i => er (.int .i64 i)) fun l => some (.sl n 0 ys.length ys.length 1 false, Tr.set (some (.cells l)) deep h n, n + 1)) none
        | none => none
      | _ => none
    | _ => none)
    (libS f args h n)
theorem libO_ok : LibOk Tryz.prog libO := by
  intro f args h n d h' n' he
  unfold libO at he
  cases hf : Nat.beq f 91 with
  | false => rw [hf] at he; exact libS_ok f args h n d h' n' he
  | true =>
    have := Nat.eq_of_beq_eq_true hf
    subst this
    rw [hf] at he
    simp only [cond_true] at he
    split at he
    · rename_i k off len cap ex
      split at he
      · rename_i cs hk
        split at he
        · rename_i ys hys
          cases hc : (Nat.beq ys.length len && Nat.blt 0 len && Nat.ble len 1000000 && fits n) with
          | false => rw [hc] at he; cases he
          | true =>
            rw [hc] at he
            simp only [cond_true, listF_eq, Option.some.injEq, Prod.mk.injEq] at he
            obtain ⟨rfl, rfl, rfl⟩ := he
            simp only [Bool.and_eq_true] at hc
            obtain ⟨⟨⟨c1, c2⟩, c3⟩, c4⟩ := hc
            have e := Nat.eq_of_beq_eq_true c1
            subst e
            refine ⟨?_, dom_set c4 _ (.inr ⟨Nat.le_refl _, Nat.lt_succ_self _⟩)⟩
            rw [absH_set c4]
            have c2' : 0 < ys.length := Nat.le_of_ble_eq_true c2
            exact order_call k off cap ex (absH h) n cs ys hk hys c2' (Nat.le_of_ble_eq_true c3)
        · cases he
      · cases he
    · cases he
end Go.Proofs.YtdbaklnjemcfgaaGreatDoor.E
