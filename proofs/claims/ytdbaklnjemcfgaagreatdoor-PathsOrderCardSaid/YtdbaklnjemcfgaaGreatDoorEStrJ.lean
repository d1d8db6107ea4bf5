/- strings.Join and strconv.Itoa, for the machine, out of the shelf's contracts. Conditions: none. -/
import Derived.Test.YtdbaklnjemcfgaaGreatDoorEStr0
import Derived.Test.YtdbaklnjemcfgaaGreatDoorGLays
namespace Go.Proofs.YtdbaklnjemcfgaaGreatDoor.E
open Go.RowKit Go.Proofs.YtdbaklnjemcfgaaGreatDoor.Mem Go.Proofs.YtdbaklnjemcfgaaGreatDoor.D
set_option linter.unusedVariables false
set_option linter.unusedSimpArgs false
section
variable {G : Gg} {w w' w0 : World} {T R : Nat → Prop} {h : Hp}
theorem itoa_call (i : Nat) (hi : i < 100) (h : Hp) (n : Nat) :
    CallE Tryz.prog 12 [er (.int .i64 i)] h n (er (.string ⟨(Lib.decDigits i).toArray⟩)) h n := by
  refine callE_pure ⟨_, Tryz.func12, by kernel_rfl, rfl⟩ fun T w0 R G w vs hW hn hv => ?_
  obtain ⟨x, rfl, hx⟩ := one1 hn hv
  rw [hx.raw]
  refine (Tryz.strconv_Itoa_small i hi w).mono ?_
  rintro e w' ⟨rfl, rfl⟩
  exact ⟨_, rfl, VV.er rfl, Below.refl _ _⟩
def strs : List EV → Option (List ByteArray)
  | [] => some []
  | .im (.raw (.string s)) :: l => (strs l).map (s :: ·)
  | _ => none
theorem strs_at : ∀ (l : List EV) (xs : List ByteArray), strs l = some xs → l = xs.map fun x => er (.string x) := by
  intro l
  induction l with
  | nil => intro xs h; simp [strs] at h; subst h; rfl
  | cons x l ih =>
    intro xs h
    unfold strs at h
    split at h
    · rename_i hq; cases hq
    · rename_i s l' hq
      injection hq with e1 e2
      subst e1 e2
      simp only [Option.map_eq_some_iff] at h
      obtain ⟨ys, h1, rfl⟩ := h
      rw [List.map_cons, ← ih ys h1]; rfl
    · cases h
theorem join_call (k off cap : Nat) (ex : Bool) (sep : ByteArray) (h : Hp) (n : Nat) (cs : List EV) (xs : List ByteArray) (hk : h k = some (.cells cs)) (hx : strs ((cs.drop off).take xs.length) = some xs) (h0 : 0 < xs.length) (hm : xs.length ≤ 1000000) (hlen : (Lib.join (xs.map (·.data.toList)) sep.data.toList).length ≤ 140737488355328) :
    CallE Tryz.prog 13 [.sl k off xs.length cap 1 ex, er (.string sep)] h n (er (.string ⟨(Lib.join (xs.map (·.data.toList)) sep.data.toList).toArray⟩)) h n := by
  have hx1 := strs_at _ _ hx
  refine callE_pure ⟨_, Tryz.func13, by kernel_rfl, rfl⟩ fun T w0 R G w vs hW hn hv => ?_
  obtain ⟨x, y, rfl, hxx, hy⟩ := two hn hv
  rw [hy.raw]
  cases hxx.leaf' rfl with
  | sl _ _ _ _ _ c hp hl hc hxc ha hmx hs =>
    rename_i p a
    obtain ⟨cur, tt, hh, hcsz, hfit, hcell⟩ := (hW.at' hk hp).2
    have hpos : a = p.o + off := by
      rcases ha with e | e
      · exact e
      · omega
    refine (Tryz.strings_Join p.b a c xs sep w (fun j x hj => ?_) (hW.lt hk hp) (by omega) (by omega) hlen).mono ?_
    · have e1 : ((cs.drop off).take xs.length)[j]? = some (er (.string x)) := by rw [hx1, List.getElem?_map, hj]; rfl
      have hi := (List.getElem?_eq_some_iff.1 hj).1
      rw [List.getElem?_take_of_lt hi, List.getElem?_drop] at e1
      obtain ⟨vv, g1, g2⟩ := hcell _ _ e1
      rw [g2.raw] at g1
      simp [World.cell?, hh, hpos, Nat.add_assoc]
      simpa [Nat.add_assoc] using g1
    · rintro e w' ⟨rfl, hb⟩
      exact ⟨_, rfl, VV.er rfl, hb⟩
end
noncomputable def libJ : LibF := fun f args h n =>
  match args with
  | [.im (.raw (.int .i64 i))] => cond (Nat.beq f 12 && decide (0 ≤ i) && decide (i < 100)) (some (er (.string ⟨(Lib.decDigits i.toNat).toArray⟩), h, n)) none
  | [.sl k off len cap 1 ex, .im (.raw (.string p))] => cond (Nat.beq f 13) (match h.get k with
    | some (.cells cs) => match strs ((cs.drop off).take len) with
      | some xs => cond (Nat.beq xs.length len && Nat.blt 0 len && Nat.ble len 1000000 && Nat.ble (Lib.join (xs.map (·.data.toList)) p.data.toList).length 140737488355328) (some (er (.string ⟨(Lib.join (xs.map (·.data.toList)) p.data.toList).toArray⟩), h, n)) none
      | none => none
    | _ => none) none
  | _ => none
theorem libJ_ok : LibOk Tryz.prog libJ := by
  intro f args h n d h' n' he
  unfold libJ at he
  split at he
  · rename_i i
    cases hc : (Nat.beq f 12 && decide (0 ≤ i) && decide (i < 100)) with
    | false => rw [hc] at he; cases he
    | true =>
      rw [hc] at he
      simp only [cond_true, Option.some.injEq, Prod.mk.injEq] at he
      obtain ⟨rfl, rfl, rfl⟩ := he
      simp only [Bool.and_eq_true, decide_eq_true_eq] at hc
      obtain ⟨⟨c1, c2⟩, c3⟩ := hc
      have := Nat.eq_of_beq_eq_true c1
      subst this
      have hi : i = ((i.toNat : Nat) : Int) := by omega
      have := itoa_call i.toNat (by omega) (absH h) n
      rw [← hi] at this
      exact ⟨this, dom_self _ _⟩
  · rename_i k off len cap ex p
    cases hf : Nat.beq f 13 with
    | false => rw [hf] at he; cases he
    | true =>
      have := Nat.eq_of_beq_eq_true hf
      subst this
      rw [hf] at he
      simp only [cond_true] at he
      split at he
      · rename_i cs hk
        split at he
        · rename_i xs hxs
          cases hc : (Nat.beq xs.length len && Nat.blt 0 len && Nat.ble len 1000000 && Nat.ble (Lib.join (xs.map (·.data.toList)) p.data.toList).length 140737488355328) with
          | false => rw [hc] at he; cases he
          | true =>
            rw [hc] at he
            simp only [cond_true, Option.some.injEq, Prod.mk.injEq] at he
            obtain ⟨rfl, rfl, rfl⟩ := he
            simp only [Bool.and_eq_true] at hc
            obtain ⟨⟨⟨c1, c2⟩, c3⟩, c4⟩ := hc
            have e := Nat.eq_of_beq_eq_true c1
            subst e
            exact ⟨join_call k off cap ex p (absH h) n cs xs hk hxs (Nat.le_of_ble_eq_true c2) (Nat.le_of_ble_eq_true c3) (Nat.le_of_ble_eq_true c4), dom_self _ _⟩
        · cases he
      · cases he
  · cases he
end Go.Proofs.YtdbaklnjemcfgaaGreatDoor.E
