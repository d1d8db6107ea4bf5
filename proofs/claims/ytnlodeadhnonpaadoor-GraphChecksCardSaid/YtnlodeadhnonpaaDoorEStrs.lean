/- Library calls on texts, for the machine, out of the shelf's contracts. Conditions: none. -/
import Derived.Test.YtnlodeadhnonpaaDoorERunT
import Derived.Test.YtnlodeadhnonpaaDoorGLays
namespace Go.Proofs.YtnlodeadhnonpaaDoor.E
open Go.RowKit Go.Proofs.YtnlodeadhnonpaaDoor.Mem Go.Proofs.YtnlodeadhnonpaaDoor.D
set_option linter.unusedVariables false
set_option linter.unusedSimpArgs false
section
variable {P : Program} {G : Gg} {w w' w0 : World} {T R : Nat → Prop} {h : Hp}
theorem WE.old (hW : WE T w0 R G h w) (hb : Below w.heap.size w w') : WE T w0 R G h w' where
  chg := hW.chg.then_below hb
  facts := fun b o x hx => by
    have h := hW.facts b o x hx
    have hlt : (⟨b, o, none⟩ : Addr).block < w.heap.size := World.block_lt_of_cell? w _ h
    exact (hb.cell hlt).trans h
  obj := fun k o hk => by
    obtain ⟨p, hp, hT, ho⟩ := hW.obj k o hk
    exact ⟨p, hp, hT, ho.mono (Gg.le_refl (fun _ => False) G) (hb.block _ ho.lt)⟩
  noF := hW.noF
  apart := hW.apart
  fresh := hW.fresh
  base := hW.base
/-- A call that leaves memory as it is. -/
theorem callE_pure {f : FuncId} {args : List EV} {d : EV} {n : Nat} (hf : ∃ fn, P.funcs[f]? = some fn ∧ (fn.name == "runtime.NumGoroutine") = false ∧ fn.body.isNone = false)
    (hc : ∀ T w0 R (G : Gg) (w : World) (vs : Array Value), WE T w0 R G h w → vs.size = args.length → (∀ (j : Nat) x y, vs[j]? = some x → args[j]? = some y → VV G x y) → Calls P f vs w fun e w' => ∃ v, e = .returned v ∧ VV G v d ∧ Below w.heap.size w w') :
    CallE P f args h n d h n := by
  refine ⟨Nat.le_refl _, hf, fun T w0 R G w vs hW hR hn hv => (hc T w0 R G w vs hW hn hv).mono ?_⟩
  rintro e w' ⟨v, rfl, hvv, hb⟩
  exact ⟨v, G, rfl, Gg.le_refl _ _, hvv, (hW.old hb).sub (fun _ _ h => h) (fun k hk => hk.1)⟩
theorem two {vs : Array Value} {a b : EV} (hn : vs.size = [a, b].length) (hv : ∀ (j : Nat) x y, vs[j]? = some x → [a, b][j]? = some y → VV G x y) : ∃ x y, vs = #[x, y] ∧ VV G x a ∧ VV G y b := by
  match vs, hn with
  | ⟨[x, y]⟩, _ => exact ⟨x, y, rfl, hv 0 _ _ rfl rfl, hv 1 _ _ rfl rfl⟩
theorem one1 {vs : Array Value} {a : EV} (hn : vs.size = [a].length) (hv : ∀ (j : Nat) x y, vs[j]? = some x → [a][j]? = some y → VV G x y) : ∃ x, vs = #[x] ∧ VV G x a := by
  match vs, hn with
  | ⟨[x]⟩, _ => exact ⟨x, rfl, hv 0 _ _ rfl rfl⟩
end
section
variable {G : Gg} {w w' w0 : World} {T R : Nat → Prop} {h : Hp}
theorem base_cell (hW : WE T w0 R G h w) : ∃ m : Int, w.cell? ⟨0, 0, none⟩ = some (.int .i64 m) := by
  obtain ⟨m, hm⟩ := hW.base
  exact ⟨m, hW.facts _ _ _ hm⟩
theorem split_call (s sep : ByteArray) (h : Hp) (n : Nat) (l : List ByteArray) (hs : s.size < 4294967281) (h1 : 1 ≤ sep.size) (hl : Lib.splitB sep 0 (Lib.countB s sep) s = l) (hc : Lib.countB s sep + 1 = l.length) (hm : l.length ≤ 1000000) :
    CallE Tryd.prog 42 [er (.string s), er (.string sep)] h n (.sl n 0 l.length l.length 1 true) (upd h n (some (.cells (l.map fun x => er (.string x))))) (n + 1) := by
  refine ⟨Nat.le_succ _, ⟨_, Tryd.func42, by kernel_rfl, rfl⟩, fun T w0 R G w vs hW hR hn hv => ?_⟩
  obtain ⟨x, y, rfl, hx, hy⟩ := two hn hv
  obtain ⟨m, hcell⟩ := base_cell hW
  rw [hx.raw, hy.raw]
  refine (Tryd.strings_Split s sep m w hs hcell h1).mono ?_
  rintro e w' ⟨rfl, rfl⟩
  rw [hl, hc]
  obtain ⟨q1, q2⟩ := hW.add (w' := w.alloc (.cells (l.map Value.string).toArray 9)) n (hR n (Nat.le_refl _)) (.cells (l.map fun x => er (.string x))) l.length rfl rfl rfl (by rw [size_alloc]; exact Nat.le_succ _) (fun b hb => heap_alloc_lt w _ hb)
    ⟨_, _, heap_alloc_new w _, by simp, by simp, fun j d hd => by
      rw [List.getElem?_map] at hd
      simp only [Option.map_eq_some_iff] at hd
      obtain ⟨z, hz, rfl⟩ := hd
      exact ⟨.string z, by rw [Nat.zero_add, List.getElem?_toArray, List.getElem?_map, hz]; rfl, VL.er rfl⟩⟩ (upd h n (some (.cells (l.map fun x => er (.string x))))) (upd_same ..) (fun k' o hne hk' => by rw [upd_ne _ _ hne] at hk'; exact hk')
  refine ⟨_, _, rfl, le_one q2, .leaf ?_, sub_one q1⟩
  exact VL.sl (G := G.put n ⟨w.heap.size, 0, l.length⟩) (a := 0) 0 l.length l.length 1 true l.length (k := n) (p := ⟨w.heap.size, 0, l.length⟩) (Gg.put_at ..) (Nat.le_refl _) (Nat.le_refl _) (fun _ => rfl) (.inl rfl) (by unfold maxLen; omega) (.inr (by show 0 + 0 + l.length * 1 ≤ l.length; omega))
theorem cut_call (s sep : ByteArray) (h : Hp) (n : Nat) (hs : s.size < 4294967281) :
    CallE Tryd.prog 60 [er (.string s), er (.string sep)] h n (.tup [er (.string ⟨(Lib.cut s.data.toList sep.data.toList).1.toArray⟩), er (.string ⟨(Lib.cut s.data.toList sep.data.toList).2.1.toArray⟩), er (.bool (Lib.cut s.data.toList sep.data.toList).2.2)]) h n := by
  refine callE_pure ⟨_, Tryd.func60, by kernel_rfl, rfl⟩ fun T w0 R G w vs hW hn hv => ?_
  obtain ⟨x, y, rfl, hx, hy⟩ := two hn hv
  obtain ⟨m, hcell⟩ := base_cell hW
  rw [hx.raw, hy.raw]
  refine (Tryd.strings_Cut s sep m w hs hcell).mono ?_
  rintro e w' ⟨rfl, k, rfl⟩
  refine ⟨_, rfl, .tup rfl (fun j x d hx hd => ?_), ⟨rfl, rfl, rfl, Nat.le_refl _, fun _ _ => rfl⟩⟩
  match j with
  | 0 => simp at hx hd; subst hx hd; exact VV.er rfl
  | 1 => simp at hx hd; subst hx hd; exact VV.er rfl
  | 2 => simp at hx hd; subst hx hd; exact VV.er rfl
  | j + 3 => simp at hx
theorem trim_call (s p : ByteArray) (h : Hp) (n : Nat) :
    CallE Tryd.prog 59 [er (.string s), er (.string p)] h n (er (.string ⟨(Lib.trimPrefix s.data.toList p.data.toList).toArray⟩)) h n := by
  refine callE_pure ⟨_, Tryd.func59, by kernel_rfl, rfl⟩ fun T w0 R G w vs hW hn hv => ?_
  obtain ⟨x, y, rfl, hx, hy⟩ := two hn hv
  rw [hx.raw, hy.raw]
  refine (Tryd.strings_TrimPrefix s p w).mono ?_
  rintro e w' ⟨rfl, rfl⟩
  exact ⟨_, rfl, VV.er rfl, Below.refl _ _⟩
theorem itoa_call (i : Nat) (hi : i < 100) (h : Hp) (n : Nat) :
    CallE Tryd.prog 56 [er (.int .i64 i)] h n (er (.string ⟨(Lib.decDigits i).toArray⟩)) h n := by
  refine callE_pure ⟨_, Tryd.func56, by kernel_rfl, rfl⟩ fun T w0 R G w vs hW hn hv => ?_
  obtain ⟨x, rfl, hx⟩ := one1 hn hv
  rw [hx.raw]
  refine (Tryd.strconv_Itoa_small i hi w).mono ?_
  rintro e w' ⟨rfl, rfl⟩
  exact ⟨_, rfl, VV.er rfl, Below.refl _ _⟩
theorem atoi_call (s : ByteArray) (i : Int) (hl : s.size ≤ 18) (ha : Lib.atoi s.data.toList = some i) (h : Hp) (n : Nat) :
    CallE Tryd.prog 63 [er (.string s)] h n (.tup [er (.int .i64 i), er .nilIface]) h n := by
  refine callE_pure ⟨_, Tryd.func63, by kernel_rfl, rfl⟩ fun T w0 R G w vs hW hn hv => ?_
  obtain ⟨x, rfl, hx⟩ := one1 hn hv
  rw [hx.raw]
  refine (Tryd.strconv_Atoi s i hl ha w).mono ?_
  rintro e w' ⟨rfl, t, rfl⟩
  refine ⟨_, rfl, .tup rfl (fun j x d hx hd => ?_), Lib.bytesWorld_below w _ t⟩
  match j with
  | 0 => simp at hx hd; subst hx hd; exact VV.er rfl
  | 1 => simp at hx hd; subst hx hd; exact VV.er rfl
  | j + 2 => simp at hx
def strs : List EV → Option (List ByteArray)
  | [] => some []
  | .im (.raw (.string s)) :: l => (strs l).map (s :: ·)
  | _ => none
theorem strs_at : ∀ (l : List EV) (xs : List ByteArray), strs l = some xs → l = xs.map fun x => er (.string x) := by
  intro l
  induction l with
  | nil => intro xs h; simp [strs] at h; subst h; rfl
  | cons x l ih =>
    intro xs h
    unfold strs at h
    split at h
    · rename_i hq; cases hq
    · rename_i s l' hq
      injection hq with e1 e2
      subst e1 e2
      simp only [Option.map_eq_some_iff] at h
      obtain ⟨ys, h1, rfl⟩ := h
      rw [List.map_cons, ← ih ys h1]; rfl
    · cases h
theorem join_call (k off cap : Nat) (ex : Bool) (sep : ByteArray) (h : Hp) (n : Nat) (cs : List EV) (xs : List ByteArray) (hk : h k = some (.cells cs)) (hx : strs ((cs.drop off).take xs.length) = some xs) (h0 : 0 < xs.length) (hm : xs.length ≤ 1000000) (hlen : (Lib.join (xs.map (·.data.toList)) sep.data.toList).length ≤ 140737488355328) :
    CallE Tryd.prog 81 [.sl k off xs.length cap 1 ex, er (.string sep)] h n (er (.string ⟨(Lib.join (xs.map (·.data.toList)) sep.data.toList).toArray⟩)) h n := by
  have hx1 := strs_at _ _ hx
  refine callE_pure ⟨_, Tryd.func81, by kernel_rfl, rfl⟩ fun T w0 R G w vs hW hn hv => ?_
  obtain ⟨x, y, rfl, hxx, hy⟩ := two hn hv
  rw [hy.raw]
  cases hxx.leaf' rfl with
  | sl _ _ _ _ _ c hp hl hc hxc ha hmx hs =>
    rename_i p a
    obtain ⟨cur, tt, hh, hcsz, hfit, hcell⟩ := (hW.at' hk hp).2
    have hpos : a = p.o + off := by
      rcases ha with e | e
      · exact e
      · omega
    refine (Tryd.strings_Join p.b a c xs sep w (fun j x hj => ?_) (hW.lt hk hp) (by omega) (by omega) hlen).mono ?_
    · have e1 : ((cs.drop off).take xs.length)[j]? = some (er (.string x)) := by rw [hx1, List.getElem?_map, hj]; rfl
      have hi := (List.getElem?_eq_some_iff.1 hj).1
      rw [List.getElem?_take_of_lt hi, List.getElem?_drop] at e1
      obtain ⟨vv, g1, g2⟩ := hcell _ _ e1
      rw [g2.raw] at g1
      simp [World.cell?, hh, hpos, Nat.add_assoc]
      simpa [Nat.add_assoc] using g1
    · rintro e w' ⟨rfl, hb⟩
      exact ⟨_, rfl, VV.er rfl, hb⟩
end
section
/-- Calls of which the answer is known. -/
noncomputable def libT : LibF := fun f args h n =>
  match args with
  | [.im (.raw (.string s)), .im (.raw (.string p))] =>
    cond (Nat.beq f 42)
      (cond (Nat.blt s.size 4294967281 && Nat.ble 1 p.size && Nat.ble (Lib.splitB p 0 (Lib.countB s p) s).length 1000000 && Nat.beq (Lib.countB s p + 1) (Lib.splitB p 0 (Lib.countB s p) s).length && fits n)
        (some (.sl n 0 (Lib.splitB p 0 (Lib.countB s p) s).length (Lib.splitB p 0 (Lib.countB s p) s).length 1 true, Tr.set (some (.cells ((Lib.splitB p 0 (Lib.countB s p) s).map fun x => er (.string x)))) deep h n, n + 1)) none)
      (cond (Nat.beq f 60)
        (cond (Nat.blt s.size 4294967281) (some (.tup [er (.string ⟨(Lib.cut s.data.toList p.data.toList).1.toArray⟩), er (.string ⟨(Lib.cut s.data.toList p.data.toList).2.1.toArray⟩), er (.bool (Lib.cut s.data.toList p.data.toList).2.2)], h, n)) none)
        (cond (Nat.beq f 59) (some (er (.string ⟨(Lib.trimPrefix s.data.toList p.data.toList).toArray⟩), h, n)) none))
  | [.im (.raw (.int .i64 i))] => cond (Nat.beq f 56 && decide (0 ≤ i) && decide (i < 100)) (some (er (.string ⟨(Lib.decDigits i.toNat).toArray⟩), h, n)) none
  | [.im (.raw (.string s))] => cond (Nat.beq f 63 && Nat.ble s.size 18) (match Lib.atoi s.data.toList with | some i => some (.tup [er (.int .i64 i), er .nilIface], h, n) | none => none) none
  | [.sl k off len cap 1 ex, .im (.raw (.string p))] => cond (Nat.beq f 81) (match h.get k with
    | some (.cells cs) => match strs ((cs.drop off).take len) with
      | some xs => cond (Nat.beq xs.length len && Nat.blt 0 len && Nat.ble len 1000000 && Nat.ble (Lib.join (xs.map (·.data.toList)) p.data.toList).length 140737488355328) (some (er (.string ⟨(Lib.join (xs.map (·.data.toList)) p.data.toList).toArray⟩), h, n)) none
      | none => none
    | _ => none) none
  | _ => none
theorem dom_self (h : Tr EO) (n : Nat) : Dom h h n n := fun i hi _ => hi
theorem libT_ok : LibOk Tryd.prog libT := by
  intro f args h n d h' n' he
  unfold libT at he
  split at he
  · rename_i s p
    cases hf : Nat.beq f 42 with
    | true =>
      have := Nat.eq_of_beq_eq_true hf
      subst this
      rw [hf] at he
      simp only [cond_true] at he
      generalize hl : Lib.splitB p 0 (Lib.countB s p) s = l at he
      cases hc : (Nat.blt s.size 4294967281 && Nat.ble 1 p.size && Nat.ble l.length 1000000 && Nat.beq (Lib.countB s p + 1) l.length && fits n) with
      | false => rw [hc] at he; cases he
      | true =>
        rw [hc] at he
        simp only [cond_true, Option.some.injEq, Prod.mk.injEq] at he
        obtain ⟨rfl, rfl, rfl⟩ := he
        simp only [Bool.and_eq_true] at hc
        obtain ⟨⟨⟨⟨c1, c2⟩, c3⟩, c4⟩, c5⟩ := hc
        refine ⟨?_, dom_set c5 _ (.inr ⟨Nat.le_refl _, Nat.lt_succ_self _⟩)⟩
        rw [absH_set c5]
        exact split_call s p (absH h) n l (Nat.le_of_ble_eq_true c1) (Nat.le_of_ble_eq_true c2) hl (Nat.eq_of_beq_eq_true c4) (Nat.le_of_ble_eq_true c3)
    | false =>
      rw [hf] at he
      simp only [cond_false] at he
      cases hg : Nat.beq f 60 with
      | true =>
        have := Nat.eq_of_beq_eq_true hg
        subst this
        rw [hg] at he
        simp only [cond_true] at he
        cases hc : Nat.blt s.size 4294967281 with
        | false => rw [hc] at he; cases he
        | true =>
          rw [hc] at he
          simp only [cond_true, Option.some.injEq, Prod.mk.injEq] at he
          obtain ⟨rfl, rfl, rfl⟩ := he
          exact ⟨cut_call s p (absH h) n (Nat.le_of_ble_eq_true hc), dom_self _ _⟩
      | false =>
        rw [hg] at he
        simp only [cond_false] at he
        cases ht : Nat.beq f 59 with
        | false => rw [ht] at he; cases he
        | true =>
          have := Nat.eq_of_beq_eq_true ht
          subst this
          rw [ht] at he
          simp only [cond_true, Option.some.injEq, Prod.mk.injEq] at he
          obtain ⟨rfl, rfl, rfl⟩ := he
          exact ⟨trim_call s p (absH h) n, dom_self _ _⟩
  · rename_i i
    cases hc : (Nat.beq f 56 && decide (0 ≤ i) && decide (i < 100)) with
    | false => rw [hc] at he; cases he
    | true =>
      rw [hc] at he
      simp only [cond_true, Option.some.injEq, Prod.mk.injEq] at he
      obtain ⟨rfl, rfl, rfl⟩ := he
      simp only [Bool.and_eq_true, decide_eq_true_eq] at hc
      obtain ⟨⟨c1, c2⟩, c3⟩ := hc
      have := Nat.eq_of_beq_eq_true c1
      subst this
      have hi : i = ((i.toNat : Nat) : Int) := by omega
      have := itoa_call i.toNat (by omega) (absH h) n
      rw [← hi] at this
      exact ⟨this, dom_self _ _⟩
  · rename_i s
    cases hc : (Nat.beq f 63 && Nat.ble s.size 18) with
    | false => rw [hc] at he; cases he
    | true =>
      rw [hc] at he
      simp only [cond_true] at he
      simp only [Bool.and_eq_true] at hc
      have := Nat.eq_of_beq_eq_true hc.1
      subst this
      split at he
      · rename_i i hi
        simp only [Option.some.injEq, Prod.mk.injEq] at he
        obtain ⟨rfl, rfl, rfl⟩ := he
        exact ⟨atoi_call s i (Nat.le_of_ble_eq_true hc.2) hi (absH h) n, dom_self _ _⟩
      · cases he
  · rename_i k off len cap ex p
    cases hf : Nat.beq f 81 with
    | false => rw [hf] at he; cases he
    | true =>
      have := Nat.eq_of_beq_eq_true hf
      subst this
      rw [hf] at he
      simp only [cond_true] at he
      split at he
      · rename_i cs hk
        split at he
        · rename_i xs hxs
          cases hc : (Nat.beq xs.length len && Nat.blt 0 len && Nat.ble len 1000000 && Nat.ble (Lib.join (xs.map (·.data.toList)) p.data.toList).length 140737488355328) with
          | false => rw [hc] at he; cases he
          | true =>
            rw [hc] at he
            simp only [cond_true, Option.some.injEq, Prod.mk.injEq] at he
            obtain ⟨rfl, rfl, rfl⟩ := he
            simp only [Bool.and_eq_true] at hc
            obtain ⟨⟨⟨c1, c2⟩, c3⟩, c4⟩ := hc
            have e := Nat.eq_of_beq_eq_true c1
            subst e
            exact ⟨join_call k off cap ex p (absH h) n cs xs hk hxs (Nat.le_of_ble_eq_true c2) (Nat.le_of_ble_eq_true c3) (Nat.le_of_ble_eq_true c4), dom_self _ _⟩
        · cases he
      · cases he
  · cases he
end
end Go.Proofs.YtnlodeadhnonpaaDoor.E
