/- What the operations on maps do (look_run, turn_run). Conditions: keys of a plain type, elements without memory. -/
import Derived.Test.YtdbaklnjemcfgaaGreatDoorDStep2
import Derived.MapKept
import Derived.Carry
namespace Go.Proofs.YtdbaklnjemcfgaaGreatDoor.D
open Go.RowKit Go.Proofs.YtdbaklnjemcfgaaGreatDoor.Mem
set_option linter.unusedVariables false
set_option linter.unusedSimpArgs false

section
variable {P : Program} {w0 w w' : World} {F0 : Facts} {G : Gh} {s : St}

theorem flat_lit {v : Value} {d : DV} (h : RV G v d) (hf : flatD d = true) : d = lit v := by
  cases h with
  | leaf h => cases h with
    | imm h => cases h with
      | raw v hv => cases v <;> first | rfl | (simp [leafV] at hv)
      | sl0 => simp [flatD] at hf
      | sl => simp [flatD] at hf
      | ptr => simp [flatD] at hf
    | own => simp [flatD] at hf
    | ref => simp [flatD] at hf
    | mref => simp [flatD] at hf
    | clo => simp [flatD] at hf
  | agg hc =>
    rename_i cs ds
    simp only [flatD, List.all_eq_true] at hf
    have key : ∀ (j : Nat) x d, cs[j]? = some x → ds[j]? = some d → d = .raw x ∧ leafV x = true := by
      intro j x d hx hd
      have hR := hc.2 j x d (by simpa using hx) hd
      have h1 := hf d (List.mem_of_getElem? hd)
      have hl := hR.leaf
      cases d with
      | raw u =>
        have := RV.raw (.leaf hR)
        subst this
        exact ⟨rfl, hl⟩
      | _ => simp [flat0] at h1
    have hlen : cs.size = ds.length := by simpa using hc.1
    have hall : cs.all leafV = true := by
      rw [Array.all_eq_true]
      intro i hi
      exact (key i _ _ (Array.getElem?_eq_getElem hi) (List.getElem?_eq_getElem (by omega))).2
    simp only [lit, hall, if_true]
    congr 1
    apply List.ext_getElem?
    intro j
    simp only [List.getElem?_map]
    rw [Array.getElem?_toList (xs := cs)]
    by_cases hj : j < cs.size
    · rw [Array.getElem?_eq_getElem hj, List.getElem?_eq_getElem (by omega)]
      rw [(key j _ _ (Array.getElem?_eq_getElem hj) (List.getElem?_eq_getElem (by omega))).1]
      rfl
    · rw [Array.getElem?_eq_none (by omega), List.getElem?_eq_none (by omega)]
      rfl
  | tup => simp [flatD] at hf
  | junk => simp [flatD] at hf
theorem key_flat {kd : TypeDesc} {dk : DV} (hk : keyT kd dk = true) : flatD dk = true := by
  unfold keyT at hk
  split at hk <;> first | rfl | cases hk

theorem look_run (hW : WI P w0 F0 G s w) {o : Oper} {ρ : Operand → Value} {ρD : Operand → DV} {k : Key} {f : List DV → Option DV} (hρ : ∀ x, RV G (ρ x) (ρD x)) (h : opD P o ρD = .look k f) {cells : List DV} {d : DV} (hc : s.heap k = some cells) (hf : f cells = some d) :
    ∃ v, (execOp ρ o).run P w = .ok (.value v) w ∧ RV G v d := by
  unfold opD at h
  unfold execOp
  split at h <;> rename_i hop <;> simp only [hop] <;> (try (first | (cases h; done)))
  case h_21 =>
    rename_i cl
    unfold callD at h
    split at h
    · rename_i hcal
      split at h
      · rename_i x hx
        have e1 : cl.args = #[x] := by rw [← Array.toArray_toList (xs := cl.args), hx]
        unfold lenD at h
        split at h
        · rename_i t ht
          have e2 : cl.argTypes = #[t] := by rw [← Array.toArray_toList (xs := cl.argTypes), ht]
          split at h
          · cases h
          · split at h <;> cases h
          · cases h
          · rename_i kt et k' hu hm
            injection h with h1 h2
            subst h1 h2
            have hv := hρ x
            rw [hm] at hv
            generalize hvx : ρ x = vx at hv
            cases hv.leaf' rfl with
            | imm h => cases h
            | mref hb =>
              rename_i blk
              obtain ⟨_, _, es, clk, h2, h3⟩ := hW.mp _ _ hb
              rw [hc] at h2
              injection h2 with h2
              subst h2
              simp only [mapLen, Option.some.injEq] at hf
              subst hf
              refine ⟨.int .i64 es.size, ?_, by simpa using raw_rv (G := G) (.int .i64 es.size) rfl⟩
              simp only [resolve, hcal, e1, e2, Sem.run_bind, Sem.run_pure, Result.andThen_ok, invoke, builtin, List.map_toArray, List.map_cons, List.map_nil, hvx]
              simp [Builtin.len_, run_under hu, Go.MapKept.run_getObj_map h3, hvx, goInt]
          · cases h
        · cases h
      · cases h
    · split at h
      · unfold appendD at h
        repeat' (first | split at h | (cases h; done))
      · cases h
    · repeat' (first | split at h | (cases h; done))
    · cases h
  case h_23 t m kk ok =>
    unfold lookupD at h
    split at h
    · rename_i kt et hu
      split at h
      · rename_i kd z k' hkd hz hm
        split at h
        · rename_i hok
          simp only [Bool.and_eq_true] at hok
          injection h with h1 h2
          subst h1 h2
          have hv := hρ m
          rw [hm] at hv
          generalize hvx : ρ m = vx at hv
          cases hv.leaf' rfl with
          | imm h => cases h
          | mref hb =>
            rename_i blk
            obtain ⟨_, _, es, clk, h2, h3⟩ := hW.mp _ _ hb
            rw [hc] at h2
            injection h2 with h2
            subst h2
            simp only [mapFind] at hf
            cases hq : findL (ρD kk) (es.toList.map ent) with
            | none => rw [hq] at hf; cases hf
            | some r =>
              rw [hq] at hf
              rcases find_run (hρ kk) hok.1 es.toList 0 r hq with ⟨rfl, hn⟩ | ⟨j, v, vd, rfl, hn, rfl⟩
              · simp only [Option.some.injEq] at hf
                subst hf
                refine ⟨if ok then .tuple #[z, .bool false] else z, ?_, ?_⟩
                · simp only [Instr.lookup, Sem.run_bind, run_under hu, Result.andThen_ok, Sem.run_pure, Go.MapKept.run_getObj_map h3, hvx, checkKey_run (hρ kk) hok.1 hkd, Instr.findKey, run_under hkd, hn, run_zero hz]
                · cases ok
                  · exact RV.lit G z
                  · refine .tup rfl fun j x d hx hd => ?_
                    match j with
                    | 0 => simp at hx hd; subst hx hd; exact RV.lit G z
                    | 1 => simp at hx hd; subst hx hd; exact raw_rv _ rfl
                    | j + 2 => simp at hx
              · simp only [Option.some.injEq] at hf
                subst hf
                refine ⟨if ok then .tuple #[v, .bool true] else v, ?_, ?_⟩
                · simp only [Instr.lookup, Sem.run_bind, run_under hu, Result.andThen_ok, Sem.run_pure, Go.MapKept.run_getObj_map h3, hvx, checkKey_run (hρ kk) hok.1 hkd, Instr.findKey, run_under hkd, hn]
                · cases ok
                  · exact RV.lit G v
                  · refine .tup rfl fun j x d hx hd => ?_
                    match j with
                    | 0 => simp at hx hd; subst hx hd; exact RV.lit G v
                    | 1 => simp at hx hd; subst hx hd; exact raw_rv _ rfl
                    | j + 2 => simp at hx
        · cases h
      · split at h <;> cases h
      · cases h
    · cases h
  all_goals
    exfalso
    clear hop
    first
      | (cases h; done)
      | (split at h <;> cases h; done)
      | (unfold loadD at h; repeat' (first | split at h | (cases h; done)))
      | (unfold storeD at h; repeat' (first | split at h | (cases h; done)))
      | (unfold buildD at h; repeat' (first | split at h | (cases h; done)))
      | (unfold buildSliceD at h; repeat' (first | split at h | (cases h; done)))
      | (unfold makeSliceD at h; repeat' (first | split at h | (cases h; done)))
      | (unfold binD intD strD at h; repeat' (first | split at h | (cases h; done)))
      | (unfold unD at h; repeat' (first | split at h | (cases h; done)))
      | (unfold convD at h; repeat' (first | split at h | (cases h; done)))
      | (unfold sliceD sliceS sliceR at h; repeat' (first | split at h | (cases h; done)))
      | (unfold fieldAddrD at h; repeat' (first | split at h | (cases h; done)))
      | (unfold fieldD at h; repeat' (first | split at h | (cases h; done)))
      | (unfold indexAddrD at h; repeat' (first | split at h | (cases h; done)))
      | (unfold indexD at h; repeat' (first | split at h | (cases h; done)))
      | (unfold callD lenD appendD at h; repeat' (first | split at h | (cases h; done)))
      | (unfold lookupD at h; repeat' (first | split at h | (cases h; done)))
      | (unfold updateD at h; repeat' (first | split at h | (cases h; done)))
      | (unfold funcD at h; repeat' (first | split at h | (cases h; done)))
      | (repeat' (first | split at h | (cases h; done)))

theorem put_run {kd : TypeDesc} {key val : Value} {dk : DV} (hr : RV G key dk) (hk : keyT kd dk = true) : ∀ (es : List MapEntry) (i : Nat) (L : List DV), putL dk (lit val) (es.map ent) = some L →
    (Instr.findNow kd key es i = some none ∧ L = es.map ent ++ [.tup [dk, lit val]]) ∨
    ∃ (j : Nat) (v : Value) (e : MapEntry), Instr.findNow kd key es i = some (some (i + j, v)) ∧ es[j]? = some e ∧ eqK dk (lit e.key) = some true ∧ L = (es.modify j fun e => { e with key := key, val := val }).map ent := by
  have hkl : dk = lit key := flat_lit hr (key_flat hk)
  intro es
  induction es with
  | nil => intro i L h; simp [putL] at h; subst h; exact .inl ⟨rfl, rfl⟩
  | cons e es ih =>
    intro i L h
    simp only [List.map_cons, ent, putL] at h
    split at h
    · rename_i hq
      injection h with h
      subst h
      refine .inr ⟨0, e.val, e, by simp only [Instr.findNow, sameNow_run hr hk _ hq, Nat.add_zero], rfl, hq, ?_⟩
      simp [ent, hkl]
    · rename_i hq
      cases hp : putL dk (lit val) (es.map ent) with
      | none => simp [hp] at h
      | some L' =>
        simp only [hp, Option.map_some, Option.some.injEq] at h
        subst h
        rcases ih (i + 1) L' hp with ⟨h1, rfl⟩ | ⟨j, v, e', h1, h2, h3, rfl⟩
        · exact .inl ⟨by simp only [Instr.findNow, sameNow_run hr hk _ hq]; exact h1, by simp [ent]⟩
        · refine .inr ⟨j + 1, v, e', by simp only [Instr.findNow, sameNow_run hr hk _ hq]; rw [h1]; congr 3; omega, by simpa using h2, h3, by simp [ent]⟩
    · cases h
theorem sameBits_eq {kd : TypeDesc} {key u : Value} {dk : DV} (hr : RV G key dk) (hk : keyT kd dk = true) (h : eqK dk (lit u) = some true) (n : Nat) : Instr.sameBits (n + 1) u key = true := by
  unfold keyT at hk
  split at hk
  · rw [hr.raw]
    generalize hq : lit u = q at h
    cases q with
    | raw x =>
      rw [lit_raw hq]
      cases x with
      | int k' c =>
        simp only [eqK] at h
        split at h
        · rename_i hkk; subst hkk; simp at h; subst h; simp [Instr.sameBits]
        · cases h
      | _ => simp [eqK] at h
    | _ => simp [eqK] at h
  · rw [hr.raw]
    generalize hq : lit u = q at h
    cases q with
    | raw x =>
      rw [lit_raw hq]
      cases x with
      | string c => simp [eqK] at h; rw [bs_ext h]; simp [Instr.sameBits, beq_toListBytes]
      | _ => simp [eqK] at h
    | _ => simp [eqK] at h
  · rw [hr.raw]
    generalize hq : lit u = q at h
    cases q with
    | raw x =>
      rw [lit_raw hq]
      cases x with
      | bool c => simp [eqK] at h; subst h; simp [Instr.sameBits]
      | _ => simp [eqK] at h
    | _ => simp [eqK] at h
  · cases hk

theorem turn_run (hW : WI P w0 F0 G s w) {o : Oper} {ρ : Operand → Value} {ρD : Operand → DV} {k : Key} {f : List DV → Option (List DV)} (hρ : ∀ x, RV G (ρ x) (ρD x)) (h : opD P o ρD = .turn k f) {cells cells' : List DV} (hc : s.heap k = some cells) (hf : f cells = some cells') :
    ∃ w', (execOp ρ o).run P w = .ok .skip w' ∧ ∀ ev, WI P w0 F0 G { env := ev, heap := updK s.heap k (some cells'), tip := s.tip, gen := s.gen } w' := by
  unfold opD at h
  unfold execOp
  split at h <;> rename_i hop <;> simp only [hop] <;> (try (first | (cases h; done)))
  case h_21 =>
    unfold callD at h
    split at h
    · split at h
      · unfold lenD at h
        repeat' (first | split at h | (cases h; done))
      · cases h
    · split at h
      · unfold appendD at h
        repeat' (first | split at h | (cases h; done))
      · cases h
    · repeat' (first | split at h | (cases h; done))
    · cases h
  case h_24 t m kk x =>
    unfold updateD at h
    split at h
    · rename_i kt et k' hu hm
      split at h
      · rename_i kd hkd
        split at h
        · rename_i hok
          simp only [Bool.and_eq_true] at hok
          injection h with h1 h2
          subst h1 h2
          have hv := hρ m
          rw [hm] at hv
          generalize hvx : ρ m = vx at hv
          cases hv.leaf' rfl with
          | imm h => cases h
          | mref hb =>
            rename_i blk
            obtain ⟨_, _, es, clk, h2, h3⟩ := hW.mp _ _ hb
            rw [hc] at h2
            injection h2 with h2
            subst h2
            simp only [mapPut, Option.map_eq_some_iff] at hf
            obtain ⟨L, hL, rfl⟩ := hf
            rw [flat_lit (hρ x) hok.2] at hL
            have hkl : ρD kk = lit (ρ kk) := flat_lit (hρ kk) (key_flat hok.1)
            have hoth : ∀ (ob : Obj) (b' : Nat), b' ≠ blk → ({ w with heap := w.heap.setIfInBounds blk ob } : World).heap[b']? = w.heap[b']? := fun ob b' hb' => Array.getElem?_setIfInBounds_ne (Ne.symm hb')
            have hat : ∀ ob : Obj, ({ w with heap := w.heap.setIfInBounds blk ob } : World).heap[blk]? = some ob := fun ob => by
              have := lt_of_heap h3
              simp [this]
            rcases put_run (hρ kk) hok.1 es.toList 0 L hL with ⟨hn, rfl⟩ | ⟨j, v, e, hn, he, hq, rfl⟩
            · refine ⟨{ w with heap := w.heap.setIfInBounds blk (.map (es.push { key := ρ kk, val := ρ x, born := clk }) (clk + 1)) }, ?_, fun ev => ?_⟩
              · simp only [Instr.mapUpdate, Sem.run_bind, run_under hu, Result.andThen_ok, Sem.run_pure, Go.MapKept.run_getObj_map h3, hvx, checkKey_run (hρ kk) hok.1 hkd, Instr.findKey, run_under hkd, hn]
                rw [Go.MapKept.run_setObj_map _ h3]
                rfl
              · have := hW.setMap (w' := { w with heap := w.heap.setIfInBounds blk (.map (es.push { key := ρ kk, val := ρ x, born := clk }) (clk + 1)) }) k' blk hb ev (es.push { key := ρ kk, val := ρ x, born := clk }) (clk + 1) (hat _) rfl rfl rfl (by simp) (hoth _)
                simpa [ent, hkl] using this
            · rw [Nat.zero_add] at hn
              refine ⟨{ w with heap := w.heap.setIfInBounds blk (.map (es.modify j fun e => { e with key := ρ kk, val := ρ x }) clk) }, ?_, fun ev => ?_⟩
              · have hej : es[j]? = some e := by simpa using he
                simp only [Instr.mapUpdate, Sem.run_bind, run_under hu, Result.andThen_ok, Sem.run_pure, Go.MapKept.run_getObj_map h3, hvx, checkKey_run (hρ kk) hok.1 hkd, Instr.findKey, run_under hkd, hn, hej, Option.map_some, Option.getD_some, Instr.keyThatStays]
                rw [if_pos (sameBits_eq (hρ kk) hok.1 hq 9999)]
                simp only [Sem.run_pure, Result.andThen_ok]
                rw [Go.MapKept.run_setObj_map _ h3]
                rfl
              · have := hW.setMap (w' := { w with heap := w.heap.setIfInBounds blk (.map (es.modify j fun e => { e with key := ρ kk, val := ρ x }) clk) }) k' blk hb ev (es.modify j fun e => { e with key := ρ kk, val := ρ x }) clk (hat _) rfl rfl rfl (by simp) (hoth _)
                simpa using this
        · cases h
      · cases h
    · cases h
  all_goals
    exfalso
    clear hop
    first
      | (cases h; done)
      | (split at h <;> cases h; done)
      | (unfold loadD at h; repeat' (first | split at h | (cases h; done)))
      | (unfold storeD at h; repeat' (first | split at h | (cases h; done)))
      | (unfold buildD at h; repeat' (first | split at h | (cases h; done)))
      | (unfold buildSliceD at h; repeat' (first | split at h | (cases h; done)))
      | (unfold makeSliceD at h; repeat' (first | split at h | (cases h; done)))
      | (unfold binD intD strD at h; repeat' (first | split at h | (cases h; done)))
      | (unfold unD at h; repeat' (first | split at h | (cases h; done)))
      | (unfold convD at h; repeat' (first | split at h | (cases h; done)))
      | (unfold sliceD sliceS sliceR at h; repeat' (first | split at h | (cases h; done)))
      | (unfold fieldAddrD at h; repeat' (first | split at h | (cases h; done)))
      | (unfold fieldD at h; repeat' (first | split at h | (cases h; done)))
      | (unfold indexAddrD at h; repeat' (first | split at h | (cases h; done)))
      | (unfold indexD at h; repeat' (first | split at h | (cases h; done)))
      | (unfold callD lenD appendD at h; repeat' (first | split at h | (cases h; done)))
      | (unfold lookupD at h; repeat' (first | split at h | (cases h; done)))
      | (unfold updateD at h; repeat' (first | split at h | (cases h; done)))
      | (unfold funcD at h; repeat' (first | split at h | (cases h; done)))
      | (repeat' (first | split at h | (cases h; done)))
end
end Go.Proofs.YtdbaklnjemcfgaaGreatDoor.D
