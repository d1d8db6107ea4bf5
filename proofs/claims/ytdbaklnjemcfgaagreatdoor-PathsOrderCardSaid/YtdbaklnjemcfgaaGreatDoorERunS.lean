/- What the machine for the kernel says of an operation is what the operation does (opB_sound). Conditions: none. -/
import Derived.Test.YtdbaklnjemcfgaaGreatDoorERun
namespace Go.Proofs.YtdbaklnjemcfgaaGreatDoor.E
open Go.RowKit Go.Proofs.YtdbaklnjemcfgaaGreatDoor.Mem Go.Proofs.YtdbaklnjemcfgaaGreatDoor.D
set_option linter.unusedVariables false
set_option linter.unusedSimpArgs false

noncomputable def absH (h : Tr EO) : Hp := fun k => h.get k
noncomputable def RS.abs (s : RS) : SE := { env := fun t => s.at t, heap := absH s.heap, next := s.next }
/-- Nothing is new but at the new numbers. -/
def Dom (h h' : Tr EO) (n n' : Nat) : Prop := ∀ k, h.get k = none → ¬ (n ≤ k ∧ k < n') → h'.get k = none
theorem fits_lt {k : Nat} (h : fits k = true) : k + 1 < 2 ^ deep := by
  unfold fits at h
  have := Nat.le_of_ble_eq_true (show Nat.ble (k + 1) 16000000 = true from h)
  unfold deep
  omega
theorem absH_set {h : Tr EO} {k : Nat} (hk : fits k = true) (x : Option EO) : absH (Tr.set x deep h k) = upd (absH h) k x := by
  funext i
  simp only [absH, Tr.get_set x deep h k i (fits_lt hk), upd]
theorem ev_abs (s : RS) (x : Operand) : s.abs.ev x = s.ev x := by cases x <;> rfl
theorem ev_abs' (s : RS) : s.abs.ev = s.ev := funext (ev_abs s)
theorem putS_abs {s s' : RS} {dst : Option Tmp} {d : EV} (h : putS s dst d = .ok s') : s'.abs = s.abs.put dst d ∧ s'.heap = s.heap ∧ s'.next = s.next := by
  unfold putS at h
  cases dst with
  | none => injection h with h; subst h; exact ⟨rfl, rfl, rfl⟩
  | some t =>
    simp only at h
    cases hf : fits t with
    | false => rw [hf] at h; cases h
    | true =>
      rw [hf] at h
      simp only [cond_true, force_eq, Tr.put_eq] at h
      injection h with h
      subst h
      refine ⟨?_, rfl, rfl⟩
      simp only [RS.abs, SE.put]
      congr 1
      funext i
      simp only [RS.at, Tr.get_set (some d) deep s.env t i (fits_lt hf), upd]
      by_cases hi : i = t
      · rw [if_pos hi, if_pos hi]
      · rw [if_neg hi, if_neg hi]

def Match (o : OutB) (e : OutE) : Prop :=
  match o with
  | .val d => ∃ c, e = .val c d ∧ c
  | .new ob mk => ∃ c, e = .new c ob mk ∧ c
  | .look k f => ∃ r, e = .look k r ∧ ∀ ob d, f ob = some d → r ob d
  | .eff f => ∃ r, e = .eff r ∧ ∀ h n d h' n', f h n = some (d, h', n') → r (absH h) n d (absH h') n' ∧ n ≤ n' ∧ Dom h h' n n'
  | .call f args => e = .call f args
  | .bad => True
section
variable {P : Program}
theorem delegB_match (o : Oper) (ρ : Operand → EV) : Match (delegB P o ρ) (delegD P o ρ) := by
  rcases delegB_sound (P := P) (o := o) (ρ := ρ) rfl with h | ⟨d, c, h, h2, h3⟩
  · rw [h]; trivial
  · rw [h]; exact ⟨c, h2, h3⟩
theorem okB_match {b : Bool} {d : EV} {e : OutE} (h : b = true → ∃ c, e = .val c d ∧ c) : Match (okB b (.val d)) e := by
  unfold okB
  cases b
  · trivial
  · exact h rfl
theorem g_one {g : Bool} {n : Nat} (h : (g || n == 1) = true) : g = false → n = 1 := by
  intro hg; subst hg; simpa using h
theorem fieldB_match (t : TypeId) (x : EV) (f : Nat) : Match (fieldB P t x f) (fieldE P t x f) := by
  unfold fieldB
  split
  · split
    · split
      · simp only [fieldE, *]
        refine okB_match fun h => ⟨_, rfl, ?_⟩
        simp only [Bool.and_eq_true] at h
        exact ⟨Nat.le_of_ble_eq_true h.1, g_one h.2⟩
      · trivial
    · trivial
  · trivial
theorem fieldAddrB_match (t : TypeId) (k off f : Nat) : Match (fieldAddrB P t k off f) (fieldAddrE P t k off f) := by
  unfold fieldAddrB
  split
  · split
    · split
      · simp only [fieldAddrE, *]
        refine okB_match fun h => ⟨_, rfl, by simpa using h⟩
      · trivial
    · trivial
  · trivial
theorem indexB_match (t : TypeId) (cells : List EV) (i : EV) : Match (indexB P t cells i) (indexE P t cells i) := by
  unfold indexB
  split
  · split
    · simp only [indexE, *]
      refine okB_match fun h => ⟨_, rfl, ?_⟩
      simp only [Bool.and_eq_true, decide_eq_true_eq] at h
      exact ⟨h.1.1.1, h.1.1.2, Nat.le_of_ble_eq_true h.1.2, g_one h.2⟩
    · trivial
  · trivial
theorem indexAddrB_match (t : TypeId) (x i : EV) : Match (indexAddrB P t x i) (indexAddrE P t x i) := by
  unfold indexAddrB
  split
  · split
    · simp only [indexAddrE, *]
      refine okB_match fun h => ⟨_, rfl, ?_⟩
      simp only [Bool.and_eq_true, decide_eq_true_eq, beq_iff_eq] at h
      exact ⟨h.1.1, h.1.2, h.2⟩
    · trivial
  · split
    · simp only [indexAddrE, *]
      refine okB_match fun h => ⟨_, rfl, ?_⟩
      simpa using h
    · trivial
  · trivial
theorem sliceB_match (t : TypeId) (k off len cap n : Nat) (ex : Bool) (lo hi mx : Option EV) : Match (sliceB P t k off len cap n ex lo hi mx) (sliceE P t k off len cap n ex lo hi mx) := by
  unfold sliceB
  split
  · split
    · split
      · simp only [sliceE, *]
        refine okB_match fun h => ⟨_, rfl, ?_⟩
        simp only [Bool.and_eq_true, decide_eq_true_eq, beq_iff_eq] at h
        exact ⟨h.1.1.1, h.1.1.2, h.1.2, h.2⟩
      · split
        · simp only [sliceE, *]
          refine okB_match fun h => ⟨_, rfl, ?_⟩
          simp only [Bool.and_eq_true, decide_eq_true_eq, beq_iff_eq] at h
          exact ⟨h.1.1.1.1, h.1.1.1.2, h.1.1.2, h.1.2, h.2⟩
        · trivial
    · trivial
  · trivial
theorem sliceNoneB_match (t : TypeId) (x : EV) (lo hi mx : Option EV) : Match (sliceNoneB P t x lo hi mx) (sliceNoneE P t x lo hi mx) := by
  unfold sliceNoneB
  split
  · split
    · simp only [sliceNoneE, *]
      refine okB_match fun h => ⟨_, rfl, ?_⟩
      simp only [Bool.and_eq_true, decide_eq_true_eq] at h
      exact ⟨h.1.1, h.1.2, h.2⟩
    · trivial
  · split
    · simp only [sliceNoneE, *]
      refine okB_match fun h => ⟨_, rfl, ?_⟩
      simp only [Bool.and_eq_true, decide_eq_true_eq, Bool.or_eq_true, Bool.not_eq_true'] at h
      refine ⟨h.1.1.1, h.1.1.2, h.1.2, fun hm => ?_⟩
      rcases h.2 with h2 | h2
      · rw [h2] at hm; cases hm
      · exact h2
    · trivial
  · trivial
theorem binB_match (o : Oper) (ρ : Operand → EV) (op : BinOp) (t : TypeId) (x y : EV) : Match (binB P o ρ op t x y) (binE P o ρ op t x y) := by
  unfold binB
  split
  · split
    · simp only [binE, *]
      exact ⟨_, rfl, trivial⟩
    · simp only [binE, *]
      exact delegB_match o ρ
  · split
    · simp only [binE, *]
      exact ⟨_, rfl, trivial⟩
    · simp only [binE, *]
      exact delegB_match o ρ
  · simp only [binE, *]
    exact delegB_match o ρ
theorem buildB_match (t : TypeId) (parts : List (Nat × EV)) : Match (buildB P t parts) (buildE P t parts) := by
  unfold buildB
  split
  · rename_i c d h
    rw [h]
    refine ⟨c, rfl, ?_⟩
    unfold buildE at h
    split at h
    · split at h
      · split at h
        · injection h with h1 h2; subst h1; trivial
        · cases h
      · cases h
    · split at h
      · split at h
        · split at h
          · injection h with h1 h2; subst h1; trivial
          · cases h
        · cases h
      · cases h
    · cases h
  · trivial
theorem buildSliceB_match (t : TypeId) (len : Nat) (parts : List (Nat × EV)) : Match (buildSliceB P t len parts) (buildSliceE P t len parts) := by
  unfold buildSliceB
  split
  · rename_i c o mk h
    rw [h]
    refine ⟨c, rfl, ?_⟩
    unfold buildSliceE at h
    split at h
    · split at h
      · split at h
        · split at h
          · injection h with h1 h2; subst h1; trivial
          · cases h
        · cases h
      · cases h
    · cases h
  · trivial
theorem okB_new {b : Bool} {ob : EO} {mk : Nat → EV} {e : OutE} (h : b = true → ∃ c, e = .new c ob mk ∧ c) : Match (okB b (.new ob mk)) e := by
  unfold okB
  cases b
  · trivial
  · exact h rfl
theorem makeSliceB_match (t : TypeId) (l c : EV) : Match (makeSliceB P t l c) (makeSliceE P t l c) := by
  unfold makeSliceB
  split
  · split
    · split
      · rename_i hok
        simp only [makeSliceE, *]
        refine okB_new fun hb => ⟨_, rfl, ?_⟩
        simp only [Bool.and_eq_true, decide_eq_true_eq] at hb
        exact ⟨hb.1.1, hb.1.2, hb.2⟩
      · trivial
    · trivial
  · trivial
theorem loadB_match (t : TypeId) (k off : Nat) : Match (loadB P t k off) (loadE P t k off) := by
  unfold loadB
  split
  · split
    · simp only [loadE, *]
      refine ⟨_, rfl, fun ob d h => ?_⟩
      dsimp only at h
      split at h
      · rename_i cs
        rename_i n _ g _ _ _
        cases hb : Nat.ble (off + n) cs.length with
        | false => rw [hb] at h; cases h
        | true =>
          rw [hb] at h
          injection h with h
          exact ⟨cs, rfl, Nat.le_of_ble_eq_true hb, h.symm⟩
      · cases h
    · trivial
  · trivial
theorem dom_set {h : Tr EO} {k n n' : Nat} (hk : fits k = true) (x : Option EO) (hh : h.get k ≠ none ∨ (n ≤ k ∧ k < n')) : Dom h (Tr.set x deep h k) n n' := by
  intro i hi hn
  rw [Tr.get_set x deep h k i (fits_lt hk)]
  by_cases e : i = k
  · subst e
    rcases hh with hh | hh
    · exact absurd hi hh
    · exact absurd hh hn
  · rw [if_neg e]; exact hi
theorem storeB_match (t : TypeId) (k off : Nat) (v : EV) : Match (storeB P t k off v) (storeE P t k off v) := by
  unfold storeB
  split
  · rename_i n bb g ht
    split
    · simp only [storeE, *]
      refine ⟨_, rfl, fun h n0 d h' n' he => ?_⟩
      dsimp only at he
      split at he
      · rename_i cs hk
        cases hb : (Nat.ble (off + n) cs.length && fits k) with
        | false => rw [hb] at he; cases he
        | true =>
          rw [hb] at he
          simp only [cond_true, Tr.put_eq, spliceF_eq, Option.some.injEq, Prod.mk.injEq] at he
          obtain ⟨rfl, rfl, rfl⟩ := he
          simp only [Bool.and_eq_true] at hb
          exact ⟨⟨cs, hk, Nat.le_of_ble_eq_true hb.1, rfl, absH_set hb.2 _, rfl⟩, Nat.le_refl _, dom_set hb.2 _ (.inl (by rw [hk]; simp))⟩
      · cases he
    · trivial
  · trivial
theorem srcB_src {h : Tr EO} {n : Nat} {x : EV} {m : Nat} {add : List EV} (hs : srcB h n x = some (m, add)) : srcE (absH h) n x m add := by
  unfold srcB at hs
  split at hs
  · injection hs with hs; injection hs with h1 h2; subst h1 h2; exact ⟨rfl, rfl⟩
  · injection hs with hs; injection hs with h1 h2; subst h1 h2; exact ⟨rfl, rfl⟩
  · rename_i k off len cap n' ex
    split at hs
    · rename_i cs hk
      cases hb : (n' == n && Nat.ble (off + len * n) cs.length) with
      | false => rw [hb] at hs; cases hs
      | true =>
        rw [hb] at hs
        injection hs with hs
        injection hs with h1 h2
        simp only [Bool.and_eq_true, beq_iff_eq] at hb
        exact ⟨hb.1, cs, hk, Nat.le_of_ble_eq_true hb.2, h1.symm, h2.symm⟩
    · cases hs
  · cases hs
theorem appB_app {h h' : Tr EO} {nx n b m nx' : Nat} {s d : EV} {add : List EV} (hs : appB h nx n b s m add = some (d, h', nx')) : appE (absH h) nx n b s m add d (absH h') nx' ∧ nx ≤ nx' ∧ Dom h h' nx nx' := by
  unfold appB at hs
  split at hs
  · rename_i k off len cap n' ex
    split at hs
    · rename_i cs hk
      cases hb : (n' == n && Nat.ble (off + cap * n) cs.length && Nat.ble ((len + m) * b) 140737488355328 && fits k && fits nx) with
      | false => rw [hb] at hs; cases hs
      | true =>
        rw [hb] at hs
        simp only [Bool.and_eq_true, beq_iff_eq] at hb
        obtain ⟨⟨⟨⟨b1, b2⟩, b3⟩, b4⟩, b5⟩ := hb
        simp only [cond_true, Tr.put_eq, spliceF_eq, listF_eq] at hs
        cases hr : Nat.ble (len + m) cap with
        | true =>
          rw [hr] at hs
          simp only [cond_true, Option.some.injEq, Prod.mk.injEq] at hs
          obtain ⟨rfl, rfl, rfl⟩ := hs
          refine ⟨⟨b1, cs, hk, Nat.le_of_ble_eq_true b2, Nat.le_of_ble_eq_true b3, ?_⟩, Nat.le_refl _, dom_set b4 _ (.inl (by rw [hk]; simp))⟩
          rw [if_pos (Nat.le_of_ble_eq_true hr)]
          exact ⟨rfl, absH_set b4 _, rfl⟩
        | false =>
          have hnr : ¬ len + m ≤ cap := fun hh => by rw [Nat.ble_eq_true_of_le hh] at hr; cases hr
          rw [hr] at hs
          cases ex with
          | true =>
            simp only [cond_true, cond_false, Option.some.injEq, Prod.mk.injEq] at hs
            obtain ⟨rfl, rfl, rfl⟩ := hs
            refine ⟨⟨b1, cs, hk, Nat.le_of_ble_eq_true b2, Nat.le_of_ble_eq_true b3, ?_⟩, Nat.le_succ _, dom_set b5 _ (.inr ⟨Nat.le_refl _, Nat.lt_succ_self _⟩)⟩
            rw [if_neg hnr]
            exact ⟨rfl, absH_set b5 _, rfl⟩
          | false =>
            simp only [cond_false, Option.some.injEq, Prod.mk.injEq] at hs
            obtain ⟨rfl, rfl, rfl⟩ := hs
            refine ⟨⟨b1, cs, hk, Nat.le_of_ble_eq_true b2, Nat.le_of_ble_eq_true b3, ?_⟩, Nat.le_succ _, fun i hi hn => ?_⟩
            · rw [if_neg hnr]
              exact ⟨rfl, by rw [absH_set b5, absH_set b4]; rfl, rfl⟩
            · have e1 : Dom h (Tr.set none deep h k) nx (nx + 1) := dom_set b4 _ (.inl (by rw [hk]; simp))
              have e2 : Dom (Tr.set none deep h k) (Tr.set (some (EO.cells ((cs.drop off).take (len * n) ++ add))) deep (Tr.set none deep h k) nx) nx (nx + 1) := dom_set b5 _ (.inr ⟨Nat.le_refl _, Nat.lt_succ_self _⟩)
              exact e2 i (e1 i hi hn) hn
    · cases hs
  · cases hb : (Nat.ble (m * b) 140737488355328 && fits nx) with
    | false => rw [hb] at hs; cases hs
    | true =>
      rw [hb] at hs
      simp only [Bool.and_eq_true] at hb
      simp only [cond_true, Tr.put_eq, spliceF_eq, listF_eq] at hs
      refine ⟨⟨.inl rfl, Nat.le_of_ble_eq_true hb.1, ?_⟩, ?_⟩
      all_goals
        cases hm : Nat.beq m 0 with
        | true =>
          rw [hm] at hs
          simp only [cond_true, Option.some.injEq, Prod.mk.injEq] at hs
          obtain ⟨rfl, rfl, rfl⟩ := hs
          have hm0 := Nat.eq_of_beq_eq_true hm
          first
            | (rw [if_pos hm0]; exact ⟨rfl, rfl, rfl⟩)
            | exact ⟨Nat.le_refl _, fun i hi _ => hi⟩
        | false =>
          rw [hm] at hs
          simp only [cond_false, Option.some.injEq, Prod.mk.injEq] at hs
          obtain ⟨rfl, rfl, rfl⟩ := hs
          have hm0 : ¬ m = 0 := fun e => by subst e; cases hm
          first
            | (rw [if_neg hm0]; exact ⟨rfl, absH_set hb.2 _, rfl⟩)
            | exact ⟨Nat.le_succ _, dom_set hb.2 _ (.inr ⟨Nat.le_refl _, Nat.lt_succ_self _⟩)⟩
  · cases hb : (Nat.ble (m * b) 140737488355328 && fits nx) with
    | false => rw [hb] at hs; cases hs
    | true =>
      rw [hb] at hs
      simp only [Bool.and_eq_true] at hb
      simp only [cond_true, Tr.put_eq, spliceF_eq, listF_eq] at hs
      refine ⟨⟨.inr rfl, Nat.le_of_ble_eq_true hb.1, ?_⟩, ?_⟩
      all_goals
        cases hm : Nat.beq m 0 with
        | true =>
          rw [hm] at hs
          simp only [cond_true, Option.some.injEq, Prod.mk.injEq] at hs
          obtain ⟨rfl, rfl, rfl⟩ := hs
          have hm0 := Nat.eq_of_beq_eq_true hm
          first
            | (rw [if_pos hm0]; exact ⟨rfl, rfl, rfl⟩)
            | exact ⟨Nat.le_refl _, fun i hi _ => hi⟩
        | false =>
          rw [hm] at hs
          simp only [cond_false, Option.some.injEq, Prod.mk.injEq] at hs
          obtain ⟨rfl, rfl, rfl⟩ := hs
          have hm0 : ¬ m = 0 := fun e => by subst e; cases hm
          first
            | (rw [if_neg hm0]; exact ⟨rfl, absH_set hb.2 _, rfl⟩)
            | exact ⟨Nat.le_succ _, dom_set hb.2 _ (.inr ⟨Nat.le_refl _, Nat.lt_succ_self _⟩)⟩
  · cases hs
theorem appZeroB_match (t' e : TypeId) (n b : Nat) (s x : EV) : Match (appZeroB P t' e n b s x) (appZeroE P t' e n b s x) := by
  unfold appZeroB
  split
  · rename_i l hu hz hl
    split
    · simp only [appZeroE, *]
      refine ⟨_, rfl, fun h n0 d h' n' he => ?_⟩
      dsimp only at he
      cases hb : (decide (0 ≤ l) && decide (l ≤ 140737488355328)) with
      | false => rw [hb] at he; cases he
      | true =>
        rw [hb] at he
        simp only [Bool.and_eq_true, decide_eq_true_eq] at hb
        obtain ⟨q1, q2, q3⟩ := appB_app he
        exact ⟨⟨hb.1, hb.2, q1⟩, q2, q3⟩
    · trivial
  · trivial
theorem appendB_match (c : Call) (s x : EV) : Match (appendB P c s x) (appendE P c s x) := by
  unfold appendB
  split
  · split
    · split
      · split
        · simp only [appendE, *]
          refine ⟨_, rfl, fun h n0 d h' n' he => ?_⟩
          dsimp only at he
          split at he
          · rename_i m add hs
            cases hb : add.all oneE with
            | false => rw [hb] at he; cases he
            | true =>
              rw [hb] at he
              obtain ⟨q1, q2, q3⟩ := appB_app he
              exact ⟨⟨m, add, srcB_src hs, fun u hu => List.all_eq_true.1 hb u hu, q1⟩, q2, q3⟩
          · cases he
        · simp only [appendE, *]
          exact appZeroB_match _ _ _ _ _ _
      · trivial
    · trivial
  · trivial
theorem lenB_match (o : Oper) (ρ : Operand → EV) (c : Call) (x : EV) : Match (lenB P o ρ c x) (lenE P o ρ c x) := by
  unfold lenB
  split
  · split
    · simp only [lenE, *]
      exact ⟨_, rfl, trivial⟩
    · simp only [lenE, *]
      exact ⟨_, rfl, trivial⟩
    · simp only [lenE, *]
      exact ⟨_, rfl, trivial⟩
    · simp only [lenE, *]
      exact ⟨_, rfl, trivial⟩
    · simp only [lenE, *]
      refine ⟨_, rfl, fun ob d h => ?_⟩
      dsimp only at h
      split at h
      · injection h with h; exact ⟨_, _, rfl, h.symm⟩
      · cases h
    · simp only [lenE, *]
      exact delegB_match o ρ
  · trivial
theorem mmB_match (mx : Bool) (x y : EV) : Match (mmB mx x y) (mmE mx x y) := by
  unfold mmB
  split
  · exact ⟨_, rfl, trivial⟩
  · trivial
theorem copyB_match (c : Call) (x y : EV) : Match (copyB P c x y) (copyE P c x y) := by
  unfold copyB
  split
  · split
    · split
      · split
        · rename_i n _ _ _ _ k off len _ n' _
          simp only [copyE, *]
          refine ⟨_, rfl, fun h n0 d h' nn he => ?_⟩
          dsimp only at he
          split at he
          · rename_i m add hs
            split at he
            · rename_i cs hk
              cases hb : (n' == n && add.all oneE && Nat.ble (off + len * n) cs.length && fits k) with
              | false => rw [hb] at he; cases he
              | true =>
                rw [hb] at he
                simp only [cond_true, Tr.put_eq, spliceF_eq, Option.some.injEq, Prod.mk.injEq] at he
                obtain ⟨rfl, rfl, rfl⟩ := he
                simp only [Bool.and_eq_true, beq_iff_eq] at hb
                obtain ⟨⟨⟨b1, b2⟩, b3⟩, b4⟩ := hb
                exact ⟨⟨m, add, cs, b1, srcB_src hs, fun u hu => List.all_eq_true.1 b2 u hu, hk, Nat.le_of_ble_eq_true b3, rfl, absH_set b4 _, rfl⟩, Nat.le_refl _, dom_set b4 _ (.inl (by rw [hk]; simp))⟩
            · cases he
          · cases he
        · trivial
      · trivial
    · trivial
  · trivial
theorem clearB_match (c : Call) (x : EV) : Match (clearB P c x) (clearE P c x) := by
  unfold clearB
  split
  · split
    · rename_i k hu
      simp only [clearE, *]
      refine ⟨_, rfl, fun h n0 d h' nn he => ?_⟩
      dsimp only at he
      split at he
      · rename_i es clk hk
        cases hb : fits k with
        | false => rw [hb] at he; cases he
        | true =>
          rw [hb] at he
          simp only [cond_true, Tr.put_eq, Option.some.injEq, Prod.mk.injEq] at he
          obtain ⟨rfl, rfl, rfl⟩ := he
          exact ⟨⟨es, clk, hk, rfl, absH_set hb _, rfl⟩, Nat.le_refl _, dom_set hb _ (.inl (by rw [hk]; simp))⟩
      · cases he
    · rename_i k off len _ n _ hu
      split
      · split
        · rename_i hok
          simp only [clearE, *]
          refine ⟨_, rfl, fun h n0 d h' nn he => ?_⟩
          dsimp only at he
          split at he
          · rename_i cs hk
            cases hb : (Nat.ble (off + len * n) cs.length && fits k) with
            | false => rw [hb] at he; cases he
            | true =>
              rw [hb] at he
              simp only [cond_true, Tr.put_eq, spliceF_eq, Option.some.injEq, Prod.mk.injEq] at he
              obtain ⟨rfl, rfl, rfl⟩ := he
              simp only [Bool.and_eq_true] at hb
              exact ⟨⟨cs, hk, Nat.le_of_ble_eq_true hb.1, rfl, absH_set hb.2 _, rfl⟩, Nat.le_refl _, dom_set hb.2 _ (.inl (by rw [hk]; simp))⟩
          · cases he
        · trivial
      · trivial
    · trivial
  · trivial
theorem extCB_match (c : Call) (ρ : Operand → EV) : Match (extCB P c ρ) (extC P c ρ) := by
  unfold extCB
  split
  · simp only [extC, *]
    unfold invokeB
    split
    · split
      · simp only [invokeE, *]
        rfl
      · trivial
    · trivial
  · split
    · simp only [extC, *]
      exact copyB_match _ _ _
    · trivial
  · split
    · simp only [extC, *]
      exact clearB_match _ _
    · trivial
  · split
    · simp only [extC, *]
      unfold capB
      split
      · split
        · simp only [capE, *]
          exact ⟨_, rfl, trivial⟩
        · simp only [capE, *]
          exact ⟨_, rfl, trivial⟩
        · simp only [capE, *]
          exact ⟨_, rfl, trivial⟩
        · trivial
      · trivial
    · trivial
  · trivial
theorem extB_match (o : Oper) (ρ : Operand → EV) : Match (extB P o ρ) (extE P o ρ) := by
  unfold extB
  split
  · simp only [extE, *]
    unfold ifaceB
    split
    · trivial
    · rename_i hn hu
      split
      · rename_i hl
        refine ⟨True, ?_, trivial⟩
        unfold ifaceE
        rw [hu]
        split
        · rename_i ms e
          injection e with e
          exact absurd e (hn ms)
        · rw [if_pos hl]
        · rename_i e; cases e
      · trivial
    · trivial
  · trivial
theorem sliceArrB_match (t : TypeId) (k off : Nat) : Match (sliceArrB P t k off) (sliceArrE P t k off) := by
  unfold sliceArrB
  split
  · split
    · rename_i m e hu tt n _ _ ht
      simp only [sliceArrE, *]
      refine ⟨_, rfl, fun ob d h => ?_⟩
      dsimp only at h
      split at h
      · rename_i cs
        cases hb : (Nat.ble (off + m * n) cs.length && Nat.ble m maxLen) with
        | false => rw [hb] at h; cases h
        | true =>
          rw [hb] at h
          injection h with h
          simp only [Bool.and_eq_true] at hb
          exact ⟨cs, rfl, Nat.le_of_ble_eq_true hb.1, Nat.le_of_ble_eq_true hb.2, h.symm⟩
      · cases h
    · trivial
  · trivial
theorem callB_match (o : Oper) (c : Call) (ρ : Operand → EV) : Match (callB P o c ρ) (callE P o c ρ) := by
  unfold callB
  split
  · split
    · simp only [callE, *]
      exact lenB_match o ρ c _
    · trivial
  · split
    · simp only [callE, *]
      exact appendB_match c _ _
    · trivial
  · split
    · simp only [callE, *]
      exact mmB_match _ _ _
    · trivial
  · split
    · simp only [callE, *]
      exact mmB_match _ _ _
    · trivial
  · split
    · split
      · simp only [callE, *]
        rfl
      · trivial
    · simp only [callE, *]
      rfl
    · simp only [callE, *]
      rfl
    · trivial
  · simp only [callE, *]
    exact extCB_match _ _
theorem lookupB_match (t : TypeId) (m key : EV) (ok : Bool) : Match (lookupB P t m key ok) (lookupE P t m key ok) := by
  unfold lookupB
  split
  · split
    · split
      · split
        · simp only [lookupE, *]
          refine ⟨_, rfl, fun ob d h => ?_⟩
          dsimp only at h
          split at h
          · rename_i es clk
            cases hf : findE key es with
            | none => rw [hf] at h; cases h
            | some r => rw [hf] at h; injection h with h; exact ⟨es, clk, r, rfl, hf, h.symm⟩
          · cases h
        · simp only [lookupE, *]
          exact ⟨_, rfl, trivial⟩
        · trivial
      · trivial
    · trivial
  · trivial
theorem cond_if {α : Type} (b : Bool) (x y : α) : cond b x y = if b = true then x else y := by cases b <;> rfl
theorem updateB_match (t : TypeId) (m key val : EV) : Match (updateB P t m key val) (updateE P t m key val) := by
  unfold updateB
  split
  · rename_i kt et k hu
    split
    · simp only [updateE, *]
      refine ⟨_, rfl, fun h n0 d h' n' he => ?_⟩
      dsimp only at he
      split at he
      · rename_i es clk hk
        split at he
        · rename_i es' r hp hf
          cases hb : fits k with
          | false => rw [hb] at he; cases he
          | true =>
            rw [hb] at he
            simp only [cond_true, Tr.put_eq, Option.some.injEq, Prod.mk.injEq] at he
            obtain ⟨rfl, rfl, rfl⟩ := he
            exact ⟨⟨es, clk, es', r, hk, hp, hf, rfl, by rw [absH_set hb, cond_if], rfl⟩, Nat.le_refl _, dom_set hb _ (.inl (by rw [hk]; simp))⟩
        · cases he
      · cases he
    · trivial
  · trivial
theorem entryB_match (t : TypeId) (m key : EV) : Match (entryB P t m key) (entryE P t m key) := by
  unfold entryB
  split
  · rename_i kt et k hu
    split
    · rename_i z hz
      split
      · simp only [entryE, *]
        refine ⟨_, rfl, fun h n0 d h' n' he => ?_⟩
        dsimp only at he
        split at he
        · rename_i es clk hk
          split at he
          · rename_i r hf
            split at he
            · rename_i es' hp
              cases hb : fits k with
              | false => rw [hb] at he; cases he
              | true =>
                rw [hb] at he
                simp only [cond_true, Tr.put_eq, Option.some.injEq, Prod.mk.injEq] at he
                obtain ⟨rfl, rfl, rfl⟩ := he
                exact ⟨⟨es, clk, es', r, _, _, hk, hf, rfl, hp, rfl, by rw [absH_set hb, cond_if], rfl⟩, Nat.le_refl _, dom_set hb _ (.inl (by rw [hk]; simp))⟩
            · cases he
          · cases he
        · cases he
      · trivial
    · trivial
  · trivial
theorem entryStoreB_match (m st val : EV) : Match (entryStoreB m st val) (entryStoreE m st val) := by
  unfold entryStoreB
  split
  · rename_i k n hi
    simp only [entryStoreE, *]
    refine ⟨_, rfl, fun h n0 d h' n' he => ?_⟩
    dsimp only at he
    split at he
    · rename_i es clk hk
      split at he
      · rename_i es' hs
        cases hb : (decide (0 ≤ n) && fits k) with
        | false => rw [hb] at he; cases he
        | true =>
          rw [hb] at he
          simp only [Bool.and_eq_true, decide_eq_true_eq] at hb
          simp only [cond_true, Tr.put_eq, Option.some.injEq, Prod.mk.injEq] at he
          obtain ⟨rfl, rfl, rfl⟩ := he
          exact ⟨⟨es, clk, es', hk, hb.1, hs, rfl, absH_set hb.2 _, rfl⟩, Nat.le_refl _, dom_set hb.2 _ (.inl (by rw [hk]; simp))⟩
      · cases he
    · cases he
  · trivial
theorem funcB_match (fn : Fn) (first caps : List EV) : Match (funcB fn first caps) (funcE fn first caps) := by
  unfold funcB
  split
  · split
    · simp only [funcE, *]
      exact ⟨_, rfl, trivial⟩
    · trivial
  · split
    · rename_i hc
      exact ⟨True, if_pos hc, trivial⟩
    · trivial
  · trivial

/-- What the machine says of an operation is what the operation does. -/
theorem opB_sound (o : Oper) (ρ : Operand → EV) : Match (opB P o ρ) (opE P o ρ) := by
  unfold opB
  split <;> rename_i hop <;> skip
  case h_1 =>
    simp only [opE, *]
    exact ⟨_, rfl, trivial⟩
  case h_2 =>
    simp only [opE, *]
    exact ⟨_, rfl, trivial⟩
  case h_3 =>
    split
    · simp only [opE, *]
      exact ⟨_, rfl, trivial⟩
    · trivial
  case h_4 =>
    split
    · simp only [opE, *]
      exact ⟨_, rfl, trivial⟩
    · trivial
  case h_5 =>
    split
    · split
      · simp only [opE, *]
        exact ⟨_, rfl, trivial⟩
      · trivial
    · trivial
  case h_6 =>
    simp only [opE, *]
    exact buildB_match _ _
  case h_7 =>
    simp only [opE, *]
    exact buildSliceB_match _ _ _
  case h_8 =>
    simp only [opE, *]
    exact makeSliceB_match _ _ _
  case h_9 =>
    split
    · simp only [opE, *]
      exact loadB_match _ _ _
    · simp only [opE, *]
      exact delegB_match _ _
  case h_10 =>
    split
    · simp only [opE, *]
      exact storeB_match _ _ _ _
    · trivial
  case h_11 =>
    split
    · simp only [opE, *]
      exact ⟨_, rfl, trivial⟩
    · simp only [opE, *]
      exact ⟨_, rfl, trivial⟩
    · simp only [opE, *]
      exact ⟨_, rfl, trivial⟩
    · simp only [opE, *]
      exact delegB_match _ _
  case h_12 =>
    simp only [opE, *]
    exact binB_match _ _ _ _ _ _
  case h_13 =>
    split
    · simp only [opE, *]
      exact sliceB_match _ _ _ _ _ _ _ _ _ _
    · simp only [opE, *]
      exact sliceNoneB_match _ _ _ _ _
    · split
      · simp only [opE, *]
        exact sliceArrB_match _ _ _
      · trivial
    · split
      · simp only [opE, *]
        exact delegB_match _ _
      · simp only [opE, *]
        exact sliceNoneB_match _ _ _ _ _
  case h_14 =>
    split
    · simp only [opE, *]
      exact fieldAddrB_match _ _ _ _
    · simp only [opE, *]
      exact delegB_match _ _
  case h_15 =>
    simp only [opE, *]
    exact fieldB_match _ _ _
  case h_16 =>
    split
    · simp only [opE, *]
      exact delegB_match _ _
    · simp only [opE, *]
      exact indexAddrB_match _ _ _
  case h_17 =>
    split
    · simp only [opE, *]
      exact indexB_match _ _ _
    · simp only [opE, *]
      exact delegB_match _ _
  case h_18 =>
    split
    · split
      · simp only [opE, *]
        exact ⟨_, rfl, trivial⟩
      · trivial
    · trivial
  case h_19 =>
    simp only [opE, *]
    exact callB_match _ _ _
  case h_20 =>
    simp only [opE, *]
    exact ⟨_, rfl, trivial⟩
  case h_21 =>
    simp only [opE, *]
    exact lookupB_match _ _ _ _
  case h_22 =>
    simp only [opE, *]
    exact updateB_match _ _ _ _
  case h_23 =>
    simp only [opE, *]
    exact entryB_match _ _ _
  case h_24 =>
    simp only [opE, *]
    exact entryStoreB_match _ _ _
  case h_25 =>
    simp only [opE, *]
    exact funcB_match _ _ _
  case h_26 =>
    simp only [opE, *]
    exact delegB_match _ _
  case h_27 src dst x =>
    split
    · simp only [opE, *]
      unfold bytesB
      split
      · rename_i hok
        refine ⟨_, if_pos hok, fun ob d h => ?_⟩
        dsimp only at h
        split at h
        · rename_i k off len _ n _ _ _ cs
          cases hb : Nat.ble (off + len) cs.length with
          | false => rw [hb] at h; cases h
          | true =>
            rw [hb] at h
            simp only [cond_true] at h
            split at h
            · rename_i l hl
              injection h with h
              exact ⟨cs, l, rfl, Nat.le_of_ble_eq_true hb, hl, h.symm⟩
            · cases h
        · cases h
      · trivial
    · simp only [opE, *]
      unfold bytesNoneB
      split
      · rename_i hok; exact ⟨True, if_pos hok, trivial⟩
      · trivial
    · simp only [opE, *]
      unfold bytesNoneB
      split
      · rename_i hok; exact ⟨True, if_pos hok, trivial⟩
      · trivial
    · simp only [opE, *]
      exact delegB_match _ _
  case h_28 =>
    simp only [opE, *]
    exact extB_match _ _
end
end Go.Proofs.YtdbaklnjemcfgaaGreatDoor.E
