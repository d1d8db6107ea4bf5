/- An operation's step on plain data is what the model does (step_sound). Conditions: none. -/
import Derived.Test.YtdbaklnjemcfgaaGreatDoorDMap
namespace Go.Proofs.YtdbaklnjemcfgaaGreatDoor.D
open Go.RowKit Go.Proofs.YtdbaklnjemcfgaaGreatDoor.Mem
set_option linter.unusedVariables false
set_option linter.unusedSimpArgs false

section
variable {P : Program} {w0 w w' : World} {F0 : Facts} {G : Gh} {s : St}

theorem WI.moreFacts (h : WI P w0 F0 G s w) (hb : Below w.heap.size w w') (F' : Facts) (hs : G.F.sub F') (hok : F'.ok w') (hnew : ∀ b o x, F' b o x → G.F b o x ∨ w.heap.size ≤ b) :
    WI P w0 F0 { F := F', box := G.box, mp := G.mp, tip := G.tip } s w' ∧ Gh.le G { F := F', box := G.box, mp := G.mp, tip := G.tip } := by
  have h' := h.old hb
  have hle : Gh.le G { F := F', box := G.box, mp := G.mp, tip := G.tip } := ⟨hs, fun _ _ h => h, fun _ _ h => h, fun k v e u hk => ⟨v, e, u, hk, .inr ⟨rfl, rfl, rfl⟩⟩⟩
  refine ⟨{
    below := h'.below
    base := h'.base
    facts := hok
    f0 := Facts.sub_trans h.f0 hs
    fnew := fun b o x hx => by
      rcases hnew b o x hx with hx | hx
      · exact h.fnew b o x hx
      · exact .inr (Nat.le_trans h.below.size hx)
    box := fun k b hk => by
      obtain ⟨cells', cs', t', h1, h2, h3, h4, h5⟩ := h'.box k b hk
      refine ⟨cells', cs', t', h1, h2, h3, h4.mono hle, fun o x hx => ?_⟩
      rcases hnew b o x hx with hx | hx
      · exact h5 o x hx
      · have := h.box_lt hk; omega
    hbox := h.hbox
    tip := fun k v e u hk => ⟨(h'.tip k v e u hk).1, (h'.tip k v e u hk).2.facts fun b o x hb' hx => by
      rcases hnew b o x hx with hx | hx
      · exact hx
      · have := h.tip_lt hk hb'; omega⟩
    mp := h'.mp
    mp2 := h.mp2
    htip := h.htip
    box2 := h.box2
    tip2 := h.tip2
    boxtip := h.boxtip
    fresh := h.fresh }, hle⟩

/-- The memory of boxes as it is now. -/
def boxFacts (G : Gh) (w : World) : Facts := fun b o x => (∃ k, G.box k = some b) ∧ w.cell? ⟨b, o, none⟩ = some x

theorem seen0_sound (hW : WI P w0 F0 G s w) {v : Value} {d x : DV} {b : Bool} (hv : RV G v d) (h : seen0 s d = some (x, b)) : RP (G.F.or (boxFacts G w)) v x ∧ (b = false → RP G.F v x) := by
  cases hv with
  | agg => simp [seen0] at h
  | tup => simp [seen0] at h
  | junk => simp [seen0] at h
  | leaf hl =>
    cases hl with
    | imm hi =>
      have hR : RI G.F v x ∧ b = false := by
        cases hi with
        | raw v hv =>
          unfold seen0 at h
          split at h
          · rename_i hq; cases hq
          · rename_i hq; injection hq with hq; subst hq; simp at h; obtain ⟨rfl, rfl⟩ := h; exact ⟨.sl0 _ _, rfl⟩
          · rename_i hq; cases hq
          · cases h
          · cases h
          · cases h
          · cases h
          · cases h
          · simp at h; obtain ⟨rfl, rfl⟩ := h; exact ⟨.raw v hv, rfl⟩
        | sl0 A c => simp [seen0] at h; obtain ⟨rfl, rfl⟩ := h; exact ⟨.sl0 A c, rfl⟩
        | sl bb off c sz rows x' a1 a2 a3 a4 a5 a6 => simp [seen0] at h; obtain ⟨rfl, rfl⟩ := h; exact ⟨.sl bb off c sz rows x' a1 a2 a3 a4 a5 a6, rfl⟩
        | ptr bb off cells x' a1 a2 => simp [seen0] at h; obtain ⟨rfl, rfl⟩ := h; exact ⟨.ptr bb off cells x' a1 a2, rfl⟩
      exact ⟨.leaf (hR.1.mono (Facts.sub_or _ _)), fun _ => .leaf hR.1⟩
    | mref => simp [seen0] at h
    | clo => simp [seen0] at h
    | own h' _ _ => simp [seen0] at h; obtain ⟨rfl, rfl⟩ := h; exact ⟨.leaf (h'.mono (Facts.sub_or _ _)), fun _ => .leaf h'⟩
    | ref off hb =>
      rename_i k bb
      obtain ⟨cells, cs, t, h1, h2, h3, h4, h5⟩ := hW.box _ _ hb
      simp only [seen0, h1] at h
      split at h
      · rename_i hp
        simp only [Option.some.injEq, Prod.mk.injEq] at h
        obtain ⟨rfl, rfl⟩ := h
        refine ⟨.leaf (.ptr bb off _ (fun j => cs.toList.getD (off + j) undef) (fun j d hj => .inr ⟨⟨k, hb⟩, ?_⟩) (fun j d hj => ?_)), fun h => by cases h⟩
        · have hlt : off + j < cs.toList.length := by
            rw [h4.1]
            rw [List.getElem?_drop] at hj
            exact (List.getElem?_eq_some_iff.1 hj).1
          simp only [World.cell?, h3, List.getD_eq_getElem?_getD, List.getElem?_eq_getElem hlt]
          simp at hlt
          simp [hlt]
        · rw [List.getElem?_drop] at hj
          have hlt : off + j < cs.toList.length := by rw [h4.1]; exact (List.getElem?_eq_some_iff.1 hj).1
          have hR := h4.2 (off + j) _ d (List.getElem?_eq_getElem hlt) hj
          rw [List.getD_eq_getElem?_getD, List.getElem?_eq_getElem hlt]
          refine (hR.pure (List.all_eq_true.1 hp d ?_)).mono (Facts.sub_or _ _)
          exact List.mem_of_getElem? (i := j) (by rw [List.getElem?_drop]; exact hj)
      · cases h

theorem seen_sound (hW : WI P w0 F0 G s w) {v : Value} {d x : DV} {b : Bool} (hv : RV G v d) (h : seen s d = some (x, b)) : RP (G.F.or (boxFacts G w)) v x ∧ (b = false → RP G.F v x) := by
  unfold seen at h
  split at h
  · rename_i cs
    split at h
    · rename_i hp
      simp only [Option.some.injEq, Prod.mk.injEq] at h
      obtain ⟨rfl, rfl⟩ := h
      cases hv with
      | leaf hl => cases hl with
        | imm h => cases h
      | agg hc =>
        rename_i vs
        have : RP G.F (.agg vs) (.agg (cs.map imm0)) := .agg (by simpa using hc.1) fun j y d hy hd => by
          rw [List.getElem?_map] at hd
          cases hq : cs[j]? with
          | none => rw [hq] at hd; cases hd
          | some q =>
            rw [hq] at hd
            simp only [Option.map_some, Option.some.injEq] at hd
            subst hd
            exact ((hc.2 j y q (by simpa using hy) hq).imm0).pure (List.all_eq_true.1 hp q (List.mem_of_getElem? hq))
        exact ⟨this.mono (Facts.sub_or _ _), fun _ => this⟩
    · cases h
  · exact seen0_sound hW hv h

theorem seenAll_sound (hW : WI P w0 F0 G s w) : ∀ (vs : List Value) (ds xs : List DV) (b : Bool), vs.length = ds.length → (∀ (j : Nat) v d, vs[j]? = some v → ds[j]? = some d → RV G v d) → seenAll s ds = some (xs, b) →
    vs.length = xs.length ∧ (∀ (j : Nat) v x, vs[j]? = some v → xs[j]? = some x → RP (G.F.or (boxFacts G w)) v x ∧ (b = false → RP G.F v x)) := by
  intro vs
  induction vs with
  | nil =>
    intro ds xs b hl _ h
    obtain rfl : ds = [] := List.eq_nil_of_length_eq_zero hl.symm
    simp [seenAll] at h
    obtain ⟨rfl, rfl⟩ := h
    exact ⟨rfl, fun j v x hv => by simp at hv⟩
  | cons v vs ih =>
    intro ds xs b hl hv h
    cases ds with
    | nil => simp at hl
    | cons d ds =>
      simp only [seenAll] at h
      cases h1 : seen s d with
      | none => simp [h1] at h
      | some p =>
        obtain ⟨x, b1⟩ := p
        cases h2 : seenAll s ds with
        | none => simp [h1, h2] at h
        | some q =>
          obtain ⟨ys, b2⟩ := q
          simp [h1, h2] at h
          obtain ⟨rfl, rfl⟩ := h
          obtain ⟨i1, i2⟩ := ih ds ys b2 (by simpa using hl) (fun j v d a b => hv (j + 1) v d (by simpa using a) (by simpa using b)) h2
          have hs := seen_sound hW (hv 0 v d rfl rfl) h1
          refine ⟨by simp [i1], fun j u y hu hy => ?_⟩
          cases j with
          | zero =>
            simp at hu hy
            subst hu hy
            exact ⟨hs.1, fun hb => hs.2 (by simp at hb; exact hb.1)⟩
          | succ j =>
            have := i2 j u y (by simpa using hu) (by simpa using hy)
            exact ⟨this.1, fun hb => this.2 (by simp at hb; exact hb.2)⟩

theorem flatD_rp {F F' : Facts} {v : Value} {r : DV} (h : RP F v r) (hf : flatD r = true) : RP F' v r := by
  cases h with
  | leaf h =>
    cases h with
    | raw _ hv => exact .leaf (.raw _ hv)
    | sl0 => simp [flatD] at hf
    | sl => simp [flatD] at hf
    | ptr => simp [flatD] at hf
  | agg hn h =>
    simp only [flatD, List.all_eq_true] at hf
    refine .agg hn fun j x d a b => ?_
    have h1 := hf d (List.mem_of_getElem? b)
    have h2 := h j x d a b
    cases h2 with
    | raw _ hv => exact .raw _ hv
    | sl0 => simp [flat0] at h1
    | sl => simp [flat0] at h1
    | ptr => simp [flat0] at h1
  | tup => simp [flatD] at hf
theorem flatT_rp {F F' : Facts} {v : Value} {r : DV} (h : RP F v r) (hf : flatT r = true) : RP F' v r := by
  unfold flatT at hf
  split at hf
  · rename_i ds
    cases h with
    | leaf h => cases h
    | tup hn h => exact .tup hn fun j x d a b => flatD_rp (h j x d a b) (List.all_eq_true.1 hf d (List.mem_of_getElem? b))
  · exact flatD_rp h hf

/-- How a call's own data lies in memory. -/
structure Real (P : Program) (nt : Nat) (w0 : World) (F0 : Facts) (G : Gh) (s : St) (a : Act) (w : World) : Prop where
  size : a.tmps.size = nt
  defers : a.defers = []
  env : ∀ t, RV G (a.tmps.getD t undef) (s.env t)
  mem : WI P w0 F0 G s w
def Re (P : Program) (nt : Nat) (w0 : World) (F0 : Facts) (s : St) (a : Act) (w : World) : Prop := ∃ G, Real P nt w0 F0 G s a w

variable {nt : Nat} {a : Act}
theorem Real.ev (h : Real P nt w0 F0 G s a w) (x : Operand) : RV G (a.eval x) (s.ev x) := by
  cases x with
  | tmp t => exact h.env t
  | const v => exact RV.lit G v
  | global g => exact raw_rv _ rfl
  | func f => exact raw_rv _ rfl

theorem getD_put (tmps : Array Value) (d : Nat) (v : Value) (hd : d < tmps.size) (t : Nat) : (tmps.setIfInBounds d v).getD t undef = if t = d then v else tmps.getD t undef := by
  simp only [Array.getD_eq_getD_getElem?, Array.getElem?_setIfInBounds]
  by_cases h : t = d
  · subst h; simp [hd]
  · rw [if_neg (Ne.symm h), if_neg h]

theorem Real.put (h : Real P nt w0 F0 G s a w) {G' : Gh} {s' : St} (hle : G.le G') (hm : WI P w0 F0 G' s' w') (d : Nat) (hd : d < nt) (dd : DV) (v : Value) (he : s'.env = upd s.env d dd) (hv : RV G' v dd) : Real P nt w0 F0 G' s' (a.put (some d) v) w' where
  size := by simp [Act.put, h.size]
  defers := h.defers
  env := fun t => by
    simp only [Act.put]
    rw [getD_put _ _ _ (by rw [h.size]; exact hd), he]
    by_cases ht : t = d
    · subst ht; rw [if_pos rfl, upd_same]; exact hv
    · rw [if_neg ht, upd_ne _ _ ht]; exact (h.env t).mono hle
  mem := hm
theorem WI.env (h : WI P w0 F0 G s w) (e : Nat → DV) : WI P w0 F0 G { s with env := e } w := ⟨h.below, h.facts, h.f0, h.fnew, h.box, h.hbox, h.mp, h.mp2, h.tip, h.htip, h.box2, h.tip2, h.boxtip, h.fresh, h.base⟩
theorem WI.put (h : WI P w0 F0 G s w) (dst : Option Tmp) (d : DV) : WI P w0 F0 G (s.put dst d) w := by
  cases dst with
  | none => exact h
  | some t => exact h.env _
/-- A value put into a slot, in memory that has not lost anything. -/
theorem Real.putV (h : Real P nt w0 F0 G s a w) {G' : Gh} (hle : G.le G') (hm : WI P w0 F0 G' s w') (dst : Option Tmp) (hd : ∀ d, dst = some d → d < nt) (dd : DV) (v : Value) (hv : RV G' v dd) : Real P nt w0 F0 G' (s.put dst dd) (a.put dst v) w' := by
  cases dst with
  | none => exact ⟨h.size, h.defers, fun t => (h.env t).mono hle, hm⟩
  | some d => exact h.put hle (hm.env _) d (hd d rfl) dd v rfl hv

theorem call_run {o : Oper} {ρ : Operand → Value} {ρD : Operand → DV} {f : FuncId} {args : List DV} (hρ : ∀ x, RV G (ρ x) (ρD x)) (h : opD P o ρD = .call f args) (hf : ∃ fn, P.funcs[f]? = some fn ∧ (fn.name == "runtime.NumGoroutine") = false ∧ fn.body.isNone = false) :
    ∃ vs : Array Value, (execOp ρ o).run P w = .ok (.enter f vs) w ∧ vs.size = args.length ∧ ∀ (j : Nat) v d, vs[j]? = some v → args[j]? = some d → RV G v d := by
  unfold opD at h
  unfold execOp
  split at h <;> rename_i hop <;> simp only [hop] <;> (try (first | (cases h; done)))
  case h_21 =>
    rename_i cl
    unfold callD at h
    split at h
    · split at h
      · unfold lenD at h
        repeat' (first | split at h | (cases h; done))
      · cases h
    · split at h
      · unfold appendD at h
        repeat' (first | split at h | (cases h; done))
      · cases h
    · rename_i fx hcal
      split at h
      · rename_i f' first captured hfx
        split at h
        · rename_i hok
          injection h with h1 h2
          subst h1 h2
          simp only [Bool.and_eq_true, Array.isEmpty_iff] at hok
          obtain ⟨rfl, rfl⟩ := hok
          have hfv := hρ fx
          rw [hfx] at hfv
          have hfv' := hfv.raw
          obtain ⟨fn, q1, q2, q3⟩ := hf
          refine ⟨cl.args.map ρ, ?_, by simp, fun j v d hv hd => ?_⟩
          · simp only [resolve, hcal, hfv', Deferred.ofValue, Sem.run_bind, Sem.run_pure, Result.andThen_ok, invoke, callFunc, run_program, q1, q2, q3, Bool.false_eq_true, if_false, Array.append_empty, Array.empty_append]
          · rw [Array.getElem?_map] at hv
            rw [List.getElem?_map] at hd
            cases hq : cl.args[j]? with
            | none => rw [hq] at hv; cases hv
            | some x =>
              rw [hq] at hv
              rw [Array.getElem?_toList, hq] at hd
              simp only [Option.map_some, Option.some.injEq] at hv hd
              subst hv hd
              exact hρ x
        · cases h
      · rename_i f' caps hfx
        injection h with h1 h2
        subst h1 h2
        have hfv := hρ fx
        rw [hfx] at hfv
        generalize hvx : ρ fx = vx at hfv
        cases hfv.leaf' rfl with
        | imm h => cases h
        | clo _ hn hcap =>
          rename_i cs
          obtain ⟨fn, q1, q2, q3⟩ := hf
          refine ⟨cl.args.map ρ ++ cs, ?_, by simp [hn], fun j v d hv hd => ?_⟩
          · simp only [resolve, hcal, hvx, Deferred.ofValue, Sem.run_bind, Sem.run_pure, Result.andThen_ok, invoke, callFunc, run_program, q1, q2, q3, Bool.false_eq_true, if_false, Array.append_empty, Array.empty_append]
          · by_cases hj : j < cl.args.size
            · rw [Array.getElem?_append_left (by simpa using hj), Array.getElem?_map] at hv
              rw [List.getElem?_append_left (by simpa using hj), List.getElem?_map] at hd
              cases hq : cl.args[j]? with
              | none => rw [hq] at hv; cases hv
              | some x =>
                rw [hq] at hv
                rw [Array.getElem?_toList, hq] at hd
                simp only [Option.map_some, Option.some.injEq] at hv hd
                subst hv hd
                exact hρ x
            · rw [Array.getElem?_append_right (by simpa using hj)] at hv
              rw [List.getElem?_append_right (by simpa using hj)] at hd
              simp only [Array.size_map, List.length_map, Array.length_toList] at hv hd
              exact .leaf (hcap _ v d hv hd)
      · cases h
    · cases h
  all_goals
    exfalso
    clear hop
    first
      | (cases h; done)
      | (split at h <;> cases h; done)
      | (unfold loadD at h; repeat' (first | split at h | (cases h; done)))
      | (unfold storeD at h; repeat' (first | split at h | (cases h; done)))
      | (unfold buildD at h; repeat' (first | split at h | (cases h; done)))
      | (unfold buildSliceD at h; repeat' (first | split at h | (cases h; done)))
      | (unfold makeSliceD at h; repeat' (first | split at h | (cases h; done)))
      | (unfold binD intD strD at h; repeat' (first | split at h | (cases h; done)))
      | (unfold unD at h; repeat' (first | split at h | (cases h; done)))
      | (unfold convD at h; repeat' (first | split at h | (cases h; done)))
      | (unfold sliceD sliceS sliceR at h; repeat' (first | split at h | (cases h; done)))
      | (unfold fieldAddrD at h; repeat' (first | split at h | (cases h; done)))
      | (unfold fieldD at h; repeat' (first | split at h | (cases h; done)))
      | (unfold indexAddrD at h; repeat' (first | split at h | (cases h; done)))
      | (unfold indexD at h; repeat' (first | split at h | (cases h; done)))
      | (unfold callD lenD appendD at h; repeat' (first | split at h | (cases h; done)))
      | (unfold lookupD at h; repeat' (first | split at h | (cases h; done)))
      | (unfold updateD at h; repeat' (first | split at h | (cases h; done)))
      | (unfold funcD at h; repeat' (first | split at h | (cases h; done)))
      | (repeat' (first | split at h | (cases h; done)))

theorem map_run {o : Oper} {ρ : Operand → Value} {ρD : Operand → DV} (h : opD P o ρD = .map) : (execOp ρ o).run P w = .ok (.value (.map (some w.heap.size))) (w.alloc (.map #[] 0)) := by
  unfold opD at h
  unfold execOp
  split at h <;> rename_i hop <;> simp only [hop] <;> (try (first | (cases h; done)))
  case h_22 => simp only [Option.map_none, Sem.run_bind, run_makeMap, Result.andThen_ok, Sem.run_pure]
  case h_21 =>
    exfalso
    unfold callD at h
    split at h
    · split at h
      · unfold lenD at h
        repeat' (first | split at h | (cases h; done))
      · cases h
    · split at h
      · unfold appendD at h
        repeat' (first | split at h | (cases h; done))
      · cases h
    · repeat' (first | split at h | (cases h; done))
    · cases h
  all_goals
    exfalso
    clear hop
    first
      | (cases h; done)
      | (split at h <;> cases h; done)
      | (unfold loadD at h; repeat' (first | split at h | (cases h; done)))
      | (unfold storeD at h; repeat' (first | split at h | (cases h; done)))
      | (unfold buildD at h; repeat' (first | split at h | (cases h; done)))
      | (unfold buildSliceD at h; repeat' (first | split at h | (cases h; done)))
      | (unfold makeSliceD at h; repeat' (first | split at h | (cases h; done)))
      | (unfold binD intD strD at h; repeat' (first | split at h | (cases h; done)))
      | (unfold unD at h; repeat' (first | split at h | (cases h; done)))
      | (unfold convD at h; repeat' (first | split at h | (cases h; done)))
      | (unfold sliceD sliceS sliceR at h; repeat' (first | split at h | (cases h; done)))
      | (unfold fieldAddrD at h; repeat' (first | split at h | (cases h; done)))
      | (unfold fieldD at h; repeat' (first | split at h | (cases h; done)))
      | (unfold indexAddrD at h; repeat' (first | split at h | (cases h; done)))
      | (unfold indexD at h; repeat' (first | split at h | (cases h; done)))
      | (unfold callD lenD appendD at h; repeat' (first | split at h | (cases h; done)))
      | (unfold lookupD at h; repeat' (first | split at h | (cases h; done)))
      | (unfold updateD at h; repeat' (first | split at h | (cases h; done)))
      | (unfold funcD at h; repeat' (first | split at h | (cases h; done)))
      | (repeat' (first | split at h | (cases h; done)))

theorem step_sound (h : Real P nt w0 F0 G s a w) {o : Oper} (hd : ∀ d, o.dst = some d → d < nt) {s' : St} (hs : (opD P o s.ev).step P o.dst s s') {K : Act → World → Prop} {Q : Exit → Act → World → Prop} (hK : ∀ a' w', Re P nt w0 F0 s' a' w' → K a' w') : o.wp P a w K Q := by
  have hρ : ∀ x, RV G (a.eval x) (s.ev x) := h.ev
  unfold Oper.wp
  cases hout : opD P o s.ev with
  | bad => rw [hout] at hs; exact hs.elim
  | val c d =>
    rw [hout] at hs
    obtain ⟨hc, rfl⟩ := hs
    obtain ⟨v, hv, hr⟩ := val_sound h.mem.facts hρ hout hc
    rw [hv]
    exact hK _ _ ⟨G, h.putV (Gh.le_refl _) h.mem o.dst hd d v hr⟩
  | box t cells =>
    rw [hout] at hs
    obtain ⟨d, hdst, rfl⟩ := hs
    obtain ⟨cs, hv, hr⟩ := box_run (w := w) hρ hout
    rw [hv]
    refine hK _ _ ⟨{ F := G.F, box := updK G.box (d, s.gen d) (some w.heap.size), mp := G.mp, tip := G.tip }, ?_⟩
    rw [hdst]
    exact h.put (le_addBox h.mem d w.heap.size) (h.mem.addBox d _ cs t cells hr) d (hd d hdst) (.ref (d, s.gen d) 0) _ rfl (.leaf (.ref 0 (updK_same ..)))
  | fresh c e rows =>
    rw [hout] at hs
    obtain ⟨hc, d, hdst, rfl⟩ := hs
    obtain ⟨v, w', hv, hf⟩ := fresh_run h.mem hρ hout hc
    obtain ⟨F', hb, hsub, hok, hnew, htk, hub, hR⟩ := hf.ex
    obtain ⟨hm, hle⟩ := h.mem.addTip hb d (upd s.env d (.own (d, s.gen d) 0 rows)) e v F' hsub hok hnew htk hub
    rw [hv]
    refine hK _ _ ⟨{ F := F', box := G.box, mp := G.mp, tip := updK G.tip (d, s.gen d) (some (0, e, v)) }, ?_⟩
    rw [hdst]
    exact h.put hle hm d (hd d hdst) (.own (d, s.gen d) 0 rows) _ rfl (.leaf (.own hR ⟨0, e, v, updK_same .., Nat.le_refl _⟩ (fun e' u hu => by simp only [updK_same, Option.some.injEq, Prod.mk.injEq] at hu; exact hu.2.2.symm)))
  | load k off n g =>
    rw [hout] at hs
    obtain ⟨cells, hc, hl, rfl⟩ := hs
    obtain ⟨v, hv, hr⟩ := load_run h.mem hρ hout hc hl
    rw [hv]
    exact hK _ _ ⟨G, h.putV (Gh.le_refl _) h.mem o.dst hd _ v hr⟩
  | store k off n new =>
    rw [hout] at hs
    obtain ⟨cells, hc, hn, hl, h1, rfl⟩ := hs
    obtain ⟨w', hv, hm⟩ := store_run h.mem hρ hout hc hn hl h1
    rw [hv]
    have h' : Real P nt w0 F0 G { s with heap := updK s.heap k (some (splice cells off new)) } a w' := ⟨h.size, h.defers, h.env, hm s.env⟩
    exact hK _ _ ⟨G, h'.putV (Gh.le_refl _) h'.mem o.dst hd _ undef (raw_rv _ rfl)⟩
  | grow c k ver e rows add =>
    rw [hout] at hs
    obtain ⟨hc, htip, d, hdst, rfl⟩ := hs
    obtain ⟨v, w', F', hv, hm, hle, hR⟩ := grow_run h.mem hρ hout hc htip (upd s.env d (.own k (ver + 1) (rows ++ add)))
    rw [hv]
    refine hK _ _ ⟨{ F := F', box := G.box, mp := G.mp, tip := updK G.tip k (some (ver + 1, e, v)) }, ?_⟩
    rw [hdst]
    exact h.put hle hm d (hd d hdst) (.own k (ver + 1) (rows ++ add)) _ rfl (.leaf (.own hR ⟨ver + 1, e, v, updK_same .., Nat.le_refl _⟩ (fun e' u hu => by simp only [updK_same, Option.some.injEq, Prod.mk.injEq] at hu; exact hu.2.2.symm)))
  | map =>
    rw [hout] at hs
    obtain ⟨d, hdst, rfl⟩ := hs
    obtain ⟨hm, hle⟩ := h.mem.addMap d (upd s.env d (.mref (d, s.gen d)))
    rw [map_run (w := w) hout]
    refine hK _ _ ⟨{ F := G.F, box := G.box, mp := updK G.mp (d, s.gen d) (some w.heap.size), tip := G.tip }, ?_⟩
    rw [hdst]
    exact h.put hle hm d (hd d hdst) (.mref (d, s.gen d)) _ rfl (.leaf (.mref (updK_same ..)))
  | look k f =>
    rw [hout] at hs
    obtain ⟨cells, d, hc, hf, rfl⟩ := hs
    obtain ⟨v, hv, hr⟩ := look_run h.mem hρ hout hc hf
    rw [hv]
    exact hK _ _ ⟨G, h.putV (Gh.le_refl _) h.mem o.dst hd d v hr⟩
  | turn k f =>
    rw [hout] at hs
    obtain ⟨cells, cells', hc, hf, rfl⟩ := hs
    obtain ⟨w', hv, hm⟩ := turn_run h.mem hρ hout hc hf
    rw [hv]
    have h' : Real P nt w0 F0 G { s with heap := updK s.heap k (some cells') } a w' := ⟨h.size, h.defers, h.env, hm s.env⟩
    exact hK _ _ ⟨G, h'.putV (Gh.le_refl _) h'.mem o.dst hd _ undef (raw_rv _ rfl)⟩
  | call f args =>
    rw [hout] at hs
    obtain ⟨xs, b, r, hseen, hfn, hflat, rfl⟩ := hs
    obtain ⟨vs, hv, hvn, hvr⟩ := call_run (w := w) hρ hout hfn.1
    rw [hv]
    show Calls P f vs w _
    obtain ⟨hxl, hxr⟩ := seenAll_sound h.mem vs.toList args xs b (by simpa using hvn) (fun j v d x y => hvr j v d (by simpa using x) y) hseen
    cases b with
    | false =>
      refine (hfn.2 w G.F vs h.mem.facts (h.mem.base.keep h.mem.f0 (fun b hb _ => h.mem.below.block b hb)) (by simpa using hxl) (fun j x d p q => (hxr j x d (by simpa using p) q).2 rfl)).mono ?_
      rintro e w' ⟨v, F', rfl, hsub, hok, hnew, hR, hb⟩
      obtain ⟨hm, hle⟩ := h.mem.moreFacts hb F' hsub hok hnew
      exact hK _ _ ⟨_, h.putV hle hm o.dst hd r v (RP.rv (G := { F := F', box := G.box, mp := G.mp, tip := G.tip }) hR)⟩
    | true =>
      have hokb : (G.F.or (boxFacts G w)).ok w := fun b o x hx => by
        rcases hx with hx | hx
        · exact h.mem.facts b o x hx
        · exact hx.2
      refine (hfn.2 w _ vs hokb (h.mem.base.keep (fun b o x hx => .inl (h.mem.f0 b o x hx)) (fun b hb _ => h.mem.below.block b hb)) (by simpa using hxl) (fun j x d p q => (hxr j x d (by simpa using p) q).1)).mono ?_
      rintro e w' ⟨v, F', rfl, hsub, hok, hnew, hR, hb⟩
      exact hK _ _ ⟨G, h.putV (Gh.le_refl _) (h.mem.old hb) o.dst hd r v (RP.rv (flatT_rp hR (hflat rfl)))⟩
end
end Go.Proofs.YtdbaklnjemcfgaaGreatDoor.D
