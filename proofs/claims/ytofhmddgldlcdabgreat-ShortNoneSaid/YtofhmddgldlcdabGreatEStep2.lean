/- What one operation does in the model that reads memory, or changes it, or calls; memory of which a part alone is spoken of (WE.merge). Conditions: none. -/
import Derived.Test.YtofhmddgldlcdabGreatEStep
namespace Go.Proofs.YtofhmddgldlcdabGreat.E
open Go.RowKit Go.Proofs.YtofhmddgldlcdabGreat.Mem Go.Proofs.YtofhmddgldlcdabGreat.D
set_option linter.unusedVariables false
set_option linter.unusedSimpArgs false

section
variable {P : Program} {G G' : Gg} {w w' w0 : World} {T R : Nat → Prop} {h : Hp}

theorem nodeleg {o : Oper} {ρ : Operand → EV} {x : OutE} (hd : delegD P o ρ = x) : x = .bad ∨ ∃ c d, x = .val c d := by
  unfold delegD at hd
  split at hd
  · exact .inr ⟨_, _, hd.symm⟩
  · exact .inl hd.symm

theorem look_sound (hW : WE T w0 R G h w) {o : Oper} {ρ : Operand → Value} {ρE : Operand → EV} {k : Nat} {r : EO → EV → Prop} (hρ : ∀ x, VV G (ρ x) (ρE x)) (ho : opE P o ρE = .look k r) {ob : EO} {d : EV} (hk : h k = some ob) (hr : r ob d) :
    ∃ v, (execOp ρ o).run P w = .ok (.value v) w ∧ VV G v d := by
  have nd : delegD P o ρE ≠ .look k r := fun hd => by rcases nodeleg hd with h | ⟨_, _, h⟩ <;> cases h
  unfold opE at ho
  split at ho <;> rename_i hop <;> (try (cases ho; done)) <;> (try (exact absurd ho nd))
  case h_3 => split at ho <;> cases ho
  case h_4 => split at ho <;> cases ho
  case h_5 =>
    exfalso
    repeat' (first | split at ho | (cases ho; done))
  case h_6 =>
    exfalso
    unfold buildE at ho
    repeat' (first | split at ho | (cases ho; done))
  case h_7 =>
    exfalso
    unfold buildSliceE at ho
    repeat' (first | split at ho | (cases ho; done))
  case h_8 =>
    exfalso
    unfold makeSliceE at ho
    repeat' (first | split at ho | (cases ho; done))
  case h_9 t a =>
    split at ho
    · rename_i k' off ha
      have hv := hρ a
      rw [ha] at hv
      obtain ⟨v, hr', hvv⟩ := load_runE (P := P) hW hv ho hk hr
      exact ⟨v, by unfold execOp; simp only [hop, Sem.run_bind, hr', Result.andThen_ok, Sem.run_pure], hvv⟩
    · exact absurd ho nd
  case h_10 =>
    split at ho
    · exfalso
      unfold storeE at ho
      repeat' (first | split at ho | (cases ho; done))
    · cases ho
  case h_11 =>
    split at ho
    · cases ho
    · cases ho
    · exact absurd ho nd
  case h_12 =>
    unfold binE at ho
    split at ho
    · split at ho
      · cases ho
      · exact absurd ho nd
    · split at ho
      · cases ho
      · exact absurd ho nd
    · exact absurd ho nd
  case h_13 =>
    split at ho
    · exfalso
      unfold sliceE at ho
      repeat' (first | split at ho | (cases ho; done))
    · exfalso
      unfold sliceNoneE at ho
      repeat' (first | split at ho | (cases ho; done))
    · split at ho
      · exact absurd ho nd
      · exfalso
        unfold sliceNoneE at ho
        repeat' (first | split at ho | (cases ho; done))
  case h_14 =>
    split at ho
    · exfalso
      unfold fieldAddrE at ho
      repeat' (first | split at ho | (cases ho; done))
    · exact absurd ho nd
  case h_15 =>
    exfalso
    unfold fieldE at ho
    repeat' (first | split at ho | (cases ho; done))
  case h_16 =>
    split at ho
    · exact absurd ho nd
    · exfalso
      unfold indexAddrE at ho
      repeat' (first | split at ho | (cases ho; done))
  case h_17 =>
    split at ho
    · exfalso
      unfold indexE at ho
      repeat' (first | split at ho | (cases ho; done))
    · exact absurd ho nd
  case h_18 =>
    exfalso
    repeat' (first | split at ho | (cases ho; done))
  case h_19 cl =>
    unfold callE at ho
    split at ho
    · rename_i hcal
      split at ho
      · rename_i x hargs
        have e1 : cl.args = #[x] := by rw [← Array.toArray_toList (xs := cl.args), hargs]
        unfold lenE at ho
        split at ho
        · rename_i t ht
          have e2 : cl.argTypes = #[t] := by rw [← Array.toArray_toList (xs := cl.argTypes), ht]
          split at ho <;> (try (cases ho; done)) <;> (try (exact absurd ho nd))
          rename_i e f k' hu hx
          injection ho with h1 h2
          subst h1 h2
          obtain ⟨es, clk, rfl, rfl⟩ := hr
          have hv := hρ x
          rw [hx] at hv
          generalize hvx : ρ x = vx at hv
          cases hv.leaf' rfl with
          | mp hp =>
            rename_i p
            obtain ⟨h0, ents, q1, q2, q3⟩ := (hW.at' hk hp).2
            refine ⟨.int .i64 es.length, ?_, VV.er rfl⟩
            unfold execOp
            simp only [hop, resolve, hcal, e1, e2, Sem.run_bind, Sem.run_pure, Result.andThen_ok, invoke, builtin, List.map_toArray, List.map_cons, List.map_nil, hvx]
            simp [Builtin.len_, run_under hu, Go.MapKept.run_getObj_map q1, hvx, goInt, q2]
        · cases ho
      · cases ho
    · exfalso
      split at ho
      · unfold appendE at ho
        repeat' (first | split at ho | (cases ho; done))
      · cases ho
    · exfalso
      split at ho
      · unfold mmE at ho
        repeat' (first | split at ho | (cases ho; done))
      · cases ho
    · exfalso
      split at ho
      · unfold mmE at ho
        repeat' (first | split at ho | (cases ho; done))
      · cases ho
    · exfalso
      split at ho
      · split at ho <;> cases ho
      · cases ho
      · cases ho
    · cases ho
  case h_21 t m kk ok =>
    obtain ⟨v, hr', hvv⟩ := lookup_look (P := P) hW (hρ m) (hρ kk) ho hk hr
    exact ⟨v, by unfold execOp; simp only [hop, Sem.run_bind, hr', Result.andThen_ok, Sem.run_pure], hvv⟩
  case h_22 =>
    exfalso
    unfold updateE at ho
    repeat' (first | split at ho | (cases ho; done))
  case h_23 =>
    exfalso
    unfold entryE at ho
    repeat' (first | split at ho | (cases ho; done))
  case h_24 =>
    exfalso
    unfold entryStoreE at ho
    repeat' (first | split at ho | (cases ho; done))
  case h_25 =>
    exfalso
    unfold funcE at ho
    repeat' (first | split at ho | (cases ho; done))

theorem call_args {G : Gg} {args : Array Operand} {ρ : Operand → Value} {ρE : Operand → EV} (hρ : ∀ x, VV G (ρ x) (ρE x)) : ∀ (j : Nat) v d, (args.map ρ)[j]? = some v → (args.toList.map ρE)[j]? = some d → VV G v d := by
  intro j v d hv hd
  rw [Array.getElem?_map] at hv
  rw [List.getElem?_map, Array.getElem?_toList] at hd
  cases hq : args[j]? with
  | none => rw [hq] at hv; cases hv
  | some x =>
    rw [hq] at hv hd
    simp only [Option.map_some, Option.some.injEq] at hv hd
    subst hv hd
    exact hρ x

/-- A change of memory, in the model. -/
theorem eff_sound (hW : WE T w0 R G h w) {n n' : Nat} (hR : ∀ k, n ≤ k → R k) {o : Oper} {a : Act} {ρE : Operand → EV} (hρ : ∀ x, VV G (a.eval x) (ρE x)) {d : EV} {h' : Hp} (he : Eff P (opE P o ρE) h n d h' n') {next : Act → World → Prop} {Q : Exit → Act → World → Prop}
    (hK : ∀ v G' w', G.le (fun k => n ≤ k ∧ k < n') G' → VV G' v d → WE T w0 (fun k => R k ∧ ¬ (n ≤ k ∧ k < n')) G' h' w' → next (a.put o.dst v) w') : n ≤ n' ∧ o.wp P a w next Q := by
  unfold Oper.wp
  have skip : ∀ {w' : World}, (execOp a.eval o).run P w = .ok .skip w' → d = er undef → n' = n → WE T w0 R G h' w' → n ≤ n' ∧ o.upon P a next Q ((execOp a.eval o).run P w) := by
    intro w' hr hd hn hWE
    subst hd hn
    rw [hr]
    exact ⟨Nat.le_refl _, hK undef G w' (Gg.le_refl _ _) (VV.er rfl) (hWE.sub (fun _ _ h => h) (fun k hk => hk.1))⟩
  have call : ∀ (f : FuncId) (vs : Array Value) (args : List EV), CallE P f args h n d h' n' → (∀ (hf : ∃ fn, P.funcs[f]? = some fn ∧ (fn.name == "runtime.NumGoroutine") = false ∧ fn.body.isNone = false), (execOp a.eval o).run P w = .ok (.enter f vs) w) → vs.size = args.length → (∀ (j : Nat) x y, vs[j]? = some x → args[j]? = some y → VV G x y) → n ≤ n' ∧ o.upon P a next Q ((execOp a.eval o).run P w) := by
    intro f vs args hc hr hn hv
    refine ⟨hc.1, ?_⟩
    rw [hr hc.2.1]
    show Calls P f vs w _
    refine (hc.2.2 T w0 R G w vs hW hR hn hv).mono ?_
    rintro e w' ⟨v, G', rfl, h1, h2, h3⟩
    exact hK v G' w' h1 h2 h3
  have nd : ∀ {h1 h2 : Hp} {n1 n2 : Nat} {d : EV}, ¬ Eff P (delegD P o ρE) h1 n1 d h2 n2 := by
    intro h1 h2 n1 n2 d hd
    rcases nodeleg (x := delegD P o ρE) rfl with q | ⟨_, _, q⟩ <;> (rw [q] at hd; exact hd)
  unfold opE at he
  split at he <;> rename_i hop
  case h_1 => exact he.elim
  case h_2 => exact he.elim
  case h_3 => split at he <;> exact he.elim
  case h_4 => split at he <;> exact he.elim
  case h_5 => repeat' (first | split at he | exact he.elim)
  case h_6 => unfold buildE at he; repeat' (first | split at he | exact he.elim)
  case h_7 => unfold buildSliceE at he; repeat' (first | split at he | exact he.elim)
  case h_8 => unfold makeSliceE at he; repeat' (first | split at he | exact he.elim)
  case h_9 =>
    split at he
    · unfold loadE at he; repeat' (first | split at he | exact he.elim)
    · exact (nd he).elim
  case h_10 t x v =>
    split at he
    · rename_i k off ha
      have hv := hρ x
      rw [ha] at hv
      cases hs : storeE P t k off (ρE v) with
      | eff r =>
        rw [hs] at he
        obtain ⟨w', hr, q1, q2, q3, _⟩ := store_runE (P := P) hW hv (hρ v) hs he
        exact skip (by unfold execOp; simp only [hop, Sem.run_bind, hr, Result.andThen_ok, Sem.run_pure]) q1 q2 q3
      | _ => rw [hs] at he; first | exact he.elim | (exfalso; unfold storeE at hs; repeat' (first | split at hs | (cases hs; done)))
    · exact he.elim
  case h_11 =>
    split at he
    · exact he.elim
    · exact he.elim
    · exact (nd he).elim
  case h_12 =>
    unfold binE at he
    split at he
    · split at he
      · exact he.elim
      · exact (nd he).elim
    · split at he
      · exact he.elim
      · exact (nd he).elim
    · exact (nd he).elim
  case h_13 =>
    split at he
    · unfold sliceE at he; repeat' (first | split at he | exact he.elim)
    · unfold sliceNoneE at he; repeat' (first | split at he | exact he.elim)
    · split at he
      · exact (nd he).elim
      · unfold sliceNoneE at he; repeat' (first | split at he | exact he.elim)
  case h_14 =>
    split at he
    · unfold fieldAddrE at he; repeat' (first | split at he | exact he.elim)
    · exact (nd he).elim
  case h_15 => unfold fieldE at he; repeat' (first | split at he | exact he.elim)
  case h_16 =>
    split at he
    · exact (nd he).elim
    · unfold indexAddrE at he; repeat' (first | split at he | exact he.elim)
  case h_17 =>
    split at he
    · unfold indexE at he; repeat' (first | split at he | exact he.elim)
    · exact (nd he).elim
  case h_18 => repeat' (first | split at he | exact he.elim)
  case h_19 cl =>
    unfold callE at he
    split at he
    · split at he
      · unfold lenE at he
        split at he
        · split at he <;> first | exact he.elim | exact (nd he).elim
        · exact he.elim
      · exact he.elim
    · rename_i hcal
      split at he
      · rename_i s x hargs
        have e1 : cl.args = #[s, x] := by rw [← Array.toArray_toList (xs := cl.args), hargs]
        unfold appendE at he
        split at he
        · rename_i t t' hat
          have e2 : cl.argTypes = #[t, t'] := by rw [← Array.toArray_toList (xs := cl.argTypes), hat]
          split at he
          · rename_i e hu
            split at he
            · rename_i nn b g ht
              split at he
              · rename_i hok
                simp only [Bool.and_eq_true, decide_eq_true_eq, beq_iff_eq] at hok
                obtain ⟨⟨⟨rfl, k2⟩, k3⟩, k4⟩ := hok
                cases hz : zeroT P e with
                | none => rw [hz] at k4; cases k4
                | some z =>
                  rw [hz] at k4
                  simp only [Option.any_some, beq_iff_eq] at k4
                  obtain ⟨m, add, q1, q2, q3⟩ := he
                  obtain ⟨v, w', G', hr, hnn, hle, hvv, hWE, _⟩ := app_run (P := P) (ty := o.type) hW hR hu ht k2 k3 hz k4 (hρ s) (hρ x) q1 q2 q3
                  refine ⟨hnn, ?_⟩
                  have : (execOp a.eval o).run P w = .ok (.value v) w' := by
                    unfold execOp
                    simp only [hop, resolve, hcal, e1, e2, Sem.run_bind, Sem.run_pure, Result.andThen_ok, invoke, builtin, List.map_toArray, List.map_cons, List.map_nil, hr]
                  rw [this]
                  exact hK v G' w' hle hvv hWE
              · exact he.elim
            · exact he.elim
          · exact he.elim
        · exact he.elim
      · exact he.elim
    · split at he
      · unfold mmE at he
        repeat' (first | split at he | exact he.elim)
      · exact he.elim
    · split at he
      · unfold mmE at he
        repeat' (first | split at he | exact he.elim)
      · exact he.elim
    · rename_i fx hcal
      split at he
      · rename_i f' first captured hfx
        split at he
        · rename_i hok
          simp only [Bool.and_eq_true, Array.isEmpty_iff] at hok
          obtain ⟨rfl, rfl⟩ := hok
          have hfv := hρ fx
          rw [hfx] at hfv
          have hfv' := hfv.raw
          refine call f' (cl.args.map a.eval) _ he (fun hf => ?_) (by simp) (call_args hρ)
          obtain ⟨fn, q1, q2, q3⟩ := hf
          unfold execOp
          simp only [hop, resolve, hcal, hfv', Deferred.ofValue, Sem.run_bind, Sem.run_pure, Result.andThen_ok, invoke, callFunc, run_program, q1, q2, q3, Bool.false_eq_true, if_false, Array.append_empty, Array.empty_append]
        · exact he.elim
      · rename_i f' caps hfx
        have hfv := hρ fx
        rw [hfx] at hfv
        generalize hvx : a.eval fx = vx at hfv
        cases hfv.leaf' rfl with
        | clo _ hn hcap =>
          rename_i cs
          refine call f' (cl.args.map a.eval ++ cs) _ he (fun hf => ?_) (by simp [hn]) (fun j v d hv hd => ?_)
          · obtain ⟨fn, q1, q2, q3⟩ := hf
            unfold execOp
            simp only [hop, resolve, hcal, hvx, Deferred.ofValue, Sem.run_bind, Sem.run_pure, Result.andThen_ok, invoke, callFunc, run_program, q1, q2, q3, Bool.false_eq_true, if_false, Array.append_empty, Array.empty_append]
          · by_cases hj : j < cl.args.size
            · rw [Array.getElem?_append_left (by simpa using hj)] at hv
              rw [List.getElem?_append_left (by simpa using hj)] at hd
              exact call_args hρ j v d hv hd
            · rw [Array.getElem?_append_right (by simpa using hj)] at hv
              rw [List.getElem?_append_right (by simpa using hj)] at hd
              simp only [Array.size_map, List.length_map, Array.length_toList] at hv hd
              exact .leaf (hcap _ v d hv hd)
      · exact he.elim
    · exact he.elim
  case h_20 => exact he.elim
  case h_21 => unfold lookupE at he; repeat' (first | split at he | exact he.elim)
  case h_22 t m k x =>
    cases hs : updateE P t (ρE m) (ρE k) (ρE x) with
    | eff r =>
      rw [hs] at he
      obtain ⟨w', hr, q1, q2, q3, _⟩ := update_run (P := P) hW (hρ m) (hρ k) (hρ x) hs he
      exact skip (by unfold execOp; simp only [hop, Sem.run_bind, hr, Result.andThen_ok, Sem.run_pure]) q1 q2 q3
    | _ => rw [hs] at he; first | exact he.elim | (exfalso; unfold updateE at hs; repeat' (first | split at hs | (cases hs; done)))
  case h_23 t m k =>
    cases hs : entryE P t (ρE m) (ρE k) with
    | eff r =>
      rw [hs] at he
      obtain ⟨v, w', hr, q1, q2, q3, _⟩ := entry_run (P := P) hW (hρ m) (hρ k) hs he
      subst q2
      have : (execOp a.eval o).run P w = .ok (.value v) w' := by
        unfold execOp
        simp only [hop, Sem.run_bind, hr, Result.andThen_ok, Sem.run_pure]
      rw [this]
      exact ⟨Nat.le_refl _, hK v G w' (Gg.le_refl _ _) q1 (q3.sub (fun _ _ h => h) (fun k hk => hk.1))⟩
    | _ => rw [hs] at he; first | exact he.elim | (exfalso; unfold entryE at hs; repeat' (first | split at hs | (cases hs; done)))
  case h_24 t m st x =>
    cases hs : entryStoreE (ρE m) (ρE st) (ρE x) with
    | eff r =>
      rw [hs] at he
      obtain ⟨w', hr, q1, q2, q3, _⟩ := entryStore_run (P := P) (t := t) hW (hρ m) (hρ st) (hρ x) hs he
      exact skip (by unfold execOp; simp only [hop, Sem.run_bind, hr, Result.andThen_ok, Sem.run_pure]) q1 q2 q3
    | _ => rw [hs] at he; first | exact he.elim | (exfalso; unfold entryStoreE at hs; repeat' (first | split at hs | (cases hs; done)))
  case h_25 => unfold funcE at he; repeat' (first | split at he | exact he.elim)
  case h_26 => exact (nd he).elim
  case h_27 => exact (nd he).elim
  case h_28 => exact he.elim

/-- Memory of which a part has changed, all other standing. -/
def merge (h hf hf' : Hp) (n n' : Nat) : Hp := fun k => if (hf k).isSome || (decide (n ≤ k) && decide (k < n')) then hf' k else h k
theorem WE.merge (hW : WE T w0 R G h w) {hf hf' : Hp} {n n' : Nat} (hsub : ∀ k o, hf k = some o → h k = some o) (hR : ∀ k, n ≤ k → R k) {R' : Nat → Prop} (hle : G.le (fun k => n ≤ k ∧ k < n') G')
    (hW' : WE (fun b => ∃ k o p, hf k = some o ∧ G.pl k = some p ∧ p.b = b) w R' G' hf' w') : WE T w0 R' G' (E.merge h hf hf' n n') w' := by
  have hT : ∀ b, (∃ k o p, hf k = some o ∧ G.pl k = some p ∧ p.b = b) → T b ∨ w0.heap.size ≤ b := by
    rintro b ⟨k, o, p, h1, h2, rfl⟩
    exact (hW.at' (hsub k o h1) h2).1
  have hother : ∀ {k : Nat} {o : EO} {p : Pl}, h k = some o → hf k = none → G.pl k = some p → ¬ ∃ k' o' p', hf k' = some o' ∧ G.pl k' = some p' ∧ p'.b = p.b := by
    rintro k o p hk hn hp ⟨k', o', p', h1, h2, h3⟩
    refine hW.apart k' k o' o p' p (hsub k' o' h1) hk (fun e => ?_) h2 hp h3
    subst e
    rw [h1] at hn
    cases hn
  have hold : ∀ {k : Nat} {o : EO}, ¬ ((hf k).isSome || (decide (n ≤ k) && decide (k < n'))) = true → h k = some o → hf k = none ∧ ∃ p, G.pl k = some p ∧ G'.pl k = some p := by
    intro k o hm hk
    simp only [Bool.or_eq_true, Bool.and_eq_true, decide_eq_true_eq, not_or] at hm
    obtain ⟨p, hp, _, _⟩ := hW.obj k o hk
    exact ⟨by simpa using hm.1, p, hp, hle.pl k p hp⟩
  have hplace : ∀ {k : Nat} {o : EO} {p : Pl}, hf' k = some o → G'.pl k = some p → (∃ k' o' p', hf k' = some o' ∧ G.pl k' = some p' ∧ p'.b = p.b) ∨ w.heap.size ≤ p.b := fun hk hp => (hW'.at' hk hp).1
  refine ⟨hW.chg.trans hW'.chg hT, hW'.facts, ?_, ?_, ?_, hW'.fresh⟩
  · intro k o hk
    unfold E.merge at hk
    split at hk
    · obtain ⟨p, hp, h1, h2⟩ := hW'.obj k o hk
      refine ⟨p, hp, ?_, h2⟩
      rcases h1 with h1 | h1
      · exact hT _ h1
      · exact .inr (Nat.le_trans hW.chg.size h1)
    · rename_i hm
      obtain ⟨hn, p, hp, hp'⟩ := hold hm hk
      obtain ⟨q1, q2⟩ := hW.at' hk hp
      exact ⟨p, hp', q1, q2.mono hle (hW'.chg.block _ q2.lt (hother hk hn hp))⟩
  · intro k o p hk hp
    unfold E.merge at hk
    split at hk
    · exact hW'.noF k o p hk hp
    · rename_i hm
      obtain ⟨hn, p', hp0, hp'⟩ := hold hm hk
      rw [hp] at hp'
      injection hp' with hp'
      subst hp'
      rw [hle.F]
      exact hW.noF k o p hk hp0
  · intro k k' o o' p p' hk hk' hne hp hp'
    unfold E.merge at hk hk'
    split at hk <;> split at hk'
    · exact hW'.apart k k' o o' p p' hk hk' hne hp hp'
    · rename_i hm'
      obtain ⟨hn, q, hq0, hq'⟩ := hold hm' hk'
      rw [hp'] at hq'
      injection hq' with hq'
      subst hq'
      intro e
      rcases hplace hk hp with h1 | h1
      · rw [e] at h1; exact hother hk' hn hq0 h1
      · have := hW.lt hk' hq0; omega
    · rename_i hm _
      obtain ⟨hn, q, hq0, hq'⟩ := hold hm hk
      rw [hp] at hq'
      injection hq' with hq'
      subst hq'
      intro e
      rcases hplace hk' hp' with h1 | h1
      · rw [← e] at h1; exact hother hk hn hq0 h1
      · have := hW.lt hk hq0; omega
    · rename_i hm hm'
      obtain ⟨_, q, hq0, hq'⟩ := hold hm hk
      obtain ⟨_, q2, hq2, hq3⟩ := hold hm' hk'
      rw [hp] at hq'
      rw [hp'] at hq3
      injection hq' with hq'
      injection hq3 with hq3
      subst hq' hq3
      exact hW.apart k k' o o' p p' hk hk' hne hq0 hq2
/-- A part of memory, in a world of its own. -/
theorem WE.part (hW : WE T w0 R G h w) {hf : Hp} (hsub : ∀ k o, hf k = some o → h k = some o) : WE (fun b => ∃ k o p, hf k = some o ∧ G.pl k = some p ∧ p.b = b) w R G hf w where
  chg := Chg.refl _ w
  facts := hW.facts
  obj := fun k o hk => by
    obtain ⟨p, hp, _, h2⟩ := hW.obj k o (hsub k o hk)
    exact ⟨p, hp, .inl ⟨k, o, p, hk, hp, rfl⟩, h2⟩
  noF := fun k o p hk => hW.noF k o p (hsub k o hk)
  apart := fun k k' o o' p p' hk hk' => hW.apart k k' o o' p p' (hsub k o hk) (hsub k' o' hk')
  fresh := hW.fresh
end
end Go.Proofs.YtofhmddgldlcdabGreat.E
