/- What an operation that only yields a value does in the model: all of them (val_sound). Conditions: none. -/
import Derived.Test.YtofhmddgldlcdabGreatDSound3
namespace Go.Proofs.YtofhmddgldlcdabGreat.D
open Go.RowKit Go.Proofs.YtofhmddgldlcdabGreat.Mem
set_option linter.unusedVariables false
set_option linter.unusedSimpArgs false

section
variable {P : Program} {G : Gh} {w : World}

theorem take_app1 {α : Type} (x : α) (B : List α) : ∀ A : List α, List.take (A.length + 1) (A ++ x :: B) = A ++ [x]
  | [] => by simp
  | a :: A => by simpa using take_app1 x B A
theorem drop_app1 {α : Type} (x : α) (B : List α) (k : Nat) : ∀ A : List α, List.drop (A.length + (k + 1)) (A ++ x :: B) = B.drop k
  | [] => by simp
  | a :: A => by
    have := drop_app1 x B k A
    rw [List.length_cons, List.cons_append, show A.length + 1 + (k + 1) = (A.length + (k + 1)) + 1 by omega, List.drop_succ_cons]
    exact this
/-- Cells laid over others. -/
theorem fold_splice (off : Nat) : ∀ (l : List Value) (i : Nat) (cs : Array Value), off + i + l.length ≤ cs.size →
    ((l.zipIdx i).foldl (fun cs (x : Value × Nat) => cs.setIfInBounds (off + x.2) x.1) cs).toList = cs.toList.take (off + i) ++ l ++ cs.toList.drop (off + i + l.length) := by
  intro l
  induction l with
  | nil => intro i cs h; simp
  | cons x l ih =>
    intro i cs h
    simp only [List.length_cons] at h
    rw [List.zipIdx_cons, List.foldl_cons, ih (i + 1) _ (by simp; omega)]
    simp only [Array.toList_setIfInBounds, List.length_cons]
    have hlt : off + i < cs.toList.length := by simp; omega
    rw [List.set_eq_take_append_cons_drop, if_pos hlt]
    have e1 : (cs.toList.take (off + i)).length = off + i := by rw [List.length_take]; omega
    have e2 : List.take (off + (i + 1)) (cs.toList.take (off + i) ++ x :: cs.toList.drop (off + i + 1)) = cs.toList.take (off + i) ++ [x] := by
      have := take_app1 x (cs.toList.drop (off + i + 1)) (cs.toList.take (off + i))
      rw [e1] at this
      exact this
    have e3 : List.drop (off + (i + 1) + l.length) (cs.toList.take (off + i) ++ x :: cs.toList.drop (off + i + 1)) = cs.toList.drop (off + i + (l.length + 1)) := by
      have := drop_app1 x (cs.toList.drop (off + i + 1)) l.length (cs.toList.take (off + i))
      rw [e1, List.drop_drop] at this
      rw [show off + (i + 1) + l.length = off + i + (l.length + 1) by omega, this]
      congr 1
      omega
    rw [e2, e3]
    simp

theorem RC.splice {cs : List Value} {ds : List DV} {new : List Value} {dn : List DV} (h : RC G cs ds) (hn : RC G new dn) (off : Nat) (hl : off + new.length ≤ cs.length) :
    RC G (cs.take off ++ new ++ cs.drop (off + new.length)) (D.splice ds off dn) := by
  unfold D.splice
  rw [← hn.1]
  exact ((h.take off).append hn).append (h.drop _)

theorem fill_sound (place : Nat → Option (Nat × Nat)) : ∀ (parts : List (Nat × Value)) (dp : List (Nat × DV)) (cs : Array Value) (ds r : List DV), parts.length = dp.length → (∀ (j : Nat) x y, parts[j]? = some x → dp[j]? = some y → x.1 = y.1 ∧ RV G x.2 y.2) →
    RC G cs.toList ds → fillD place ds dp = some r → ∃ cs', Instr.fill place cs parts = some cs' ∧ RC G cs'.toList r := by
  intro parts
  induction parts with
  | nil =>
    intro dp cs ds r hl hp hcs h
    obtain rfl : dp = [] := List.eq_nil_of_length_eq_zero hl.symm
    simp [fillD] at h
    subst h
    exact ⟨cs, rfl, hcs⟩
  | cons x parts ih =>
    intro dp cs ds r hl hp hcs h
    cases dp with
    | nil => simp at hl
    | cons y dp =>
      obtain ⟨i, v⟩ := x
      obtain ⟨i', d⟩ := y
      obtain ⟨h1, hv⟩ := hp 0 _ _ rfl rfl
      simp at h1 hv
      subst h1
      simp only [fillD] at h
      cases hpl : place i with
      | none => simp [hpl] at h
      | some on =>
        obtain ⟨off, n⟩ := on
        simp only [hpl] at h
        split at h
        · rename_i hok
          simp only [Bool.and_eq_true, beq_iff_eq, decide_eq_true_eq] at hok
          obtain ⟨⟨k1, k2⟩, k3⟩ := hok
          have hc := hv.cells k1
          have hvs : v.cells.size = n := by rw [← k2, ← hc.1]; simp
          have hcs1 : cs.size = ds.length := by simpa using hcs.1
          have hfold : (v.cells.zipIdx.foldl (fun cs (x : Value × Nat) => cs.setIfInBounds (off + x.2) x.1) cs).toList = cs.toList.take off ++ v.cells.toList ++ cs.toList.drop (off + v.cells.toList.length) := by
            rw [← Array.foldl_toList, Array.toList_zipIdx]
            have := fold_splice off v.cells.toList 0 cs (by simp; omega)
            simpa using this
          obtain ⟨cs', hf, hr⟩ := ih dp _ _ r (by simpa using hl) (fun j x y a b => hp (j + 1) x y (by simpa using a) (by simpa using b)) (by rw [hfold]; exact hcs.splice hc off (by simp; omega)) h
          refine ⟨cs', ?_, hr⟩
          simp only [Instr.fill, hpl]
          rw [if_neg (by simp [hvs]; omega)]
          exact hf
        · cases h

theorem parts_ev {ρ : Operand → Value} {ρD : Operand → DV} (hρ : ∀ x, RV G (ρ x) (ρD x)) (parts : Array (Nat × Operand)) :
    ((parts.map fun (i, x) => (i, ρ x)).toList.length = (parts.toList.map fun (i, x) => (i, ρD x)).length) ∧ ∀ (j : Nat) x y, (parts.map fun (i, x) => (i, ρ x)).toList[j]? = some x → (parts.toList.map fun (i, x) => (i, ρD x))[j]? = some y → x.1 = y.1 ∧ RV G x.2 y.2 := by
  refine ⟨by simp, fun j x y a b => ?_⟩
  rw [Array.toList_map, List.getElem?_map] at a
  rw [List.getElem?_map] at b
  cases hp : parts.toList[j]? with
  | none => rw [hp] at a; simp at a
  | some p => rw [hp] at a b; simp at a b; subst a b; exact ⟨rfl, hρ _⟩

theorem zero_cells {z : Value} (hz : notTup (lit z) = true) : RC G z.cells.toList (lit z).cells := (RV.lit G z).cells hz

theorem places_run {P : Program} {w : World} (fs : Array Field) (h : (fs.all fun f => (tI P f.type).isSome) = true) :
    ∃ pl : Array (Nat × Nat), ((fs.mapM fun f => do pure (f.offset, ← sizeOf f.type)) : Sem (Array (Nat × Nat))).run P w = .ok pl w ∧ ∀ i, pl[i]? = places P fs i := by
  have key : ∀ (l : List Field), (∀ f ∈ l, (tI P f.type).isSome = true) → ∃ pl : List (Nat × Nat), ((l.mapM fun f => do pure (f.offset, ← sizeOf f.type)) : Sem (List (Nat × Nat))).run P w = .ok pl w ∧ ∀ i : Nat, pl[i]? = (l[i]?).bind fun f => (tI P f.type).map fun x => (f.offset, x.1) := by
    intro l
    induction l with
    | nil => intro _; exact ⟨[], rfl, fun i => by simp⟩
    | cons f l ih =>
      intro hl
      obtain ⟨pl, hp, hi⟩ := ih (fun g hg => hl g (by simp [hg]))
      have hf := hl f (by simp)
      cases ht : tI P f.type with
      | none => simp [ht] at hf
      | some x =>
        obtain ⟨n, b, g⟩ := x
        refine ⟨(f.offset, n) :: pl, ?_, fun i => ?_⟩
        · simp only [List.mapM_cons, Sem.run_bind, run_size ht, Result.andThen_ok, Sem.run_pure, hp]
        · cases i with
          | zero => simp [ht]
          | succ i => simpa using hi i
  obtain ⟨pl, hp, hi⟩ := key fs.toList (fun f hf => by have := Array.all_eq_true_iff_forall_mem.1 h f (by simpa using hf); exact this)
  refine ⟨pl.toArray, ?_, fun i => ?_⟩
  · rw [← Array.toArray_toList (xs := fs), List.mapM_toArray]
    simp only [Sem.run_map, hp, Result.andThen_ok]
  · rw [List.getElem?_toArray, hi i]
    simp [places]

theorem buildD_sound {t : TypeId} {ρ : Operand → Value} {ρD : Operand → DV} (hρ : ∀ x, RV G (ρ x) (ρD x)) (parts : Array (Nat × Operand)) {c : Prop} {d : DV} (h : buildD P t (parts.toList.map fun (i, x) => (i, ρD x)) = .val c d) (hc : c) :
    ∃ v, (Instr.build t (parts.map fun (i, x) => (i, ρ x))).run P w = .ok v w ∧ RV G v d := by
  have hp := parts_ev hρ parts
  unfold buildD at h
  split at h
  · rename_i fs z hu hz
    split at h
    · rename_i hok
      simp only [Bool.and_eq_true] at hok
      split at h
      · rename_i cells hfl
        injection h with h1 h2; subst h1 h2
        obtain ⟨pl, hpl, hpi⟩ := places_run (P := P) (w := w) fs hok.2
        have hpe : (fun i => pl[i]?) = places P fs := funext hpi
        obtain ⟨cs', hf, hr⟩ := fill_sound (G := G) (places P fs) _ _ z.cells _ _ hp.1 hp.2 (zero_cells hok.1) hfl
        refine ⟨.agg cs', ?_, .agg hr⟩
        simp only [Instr.build, Sem.run_bind, run_zero hz, run_under hu, Result.andThen_ok, hpl, hpe, hf, Sem.run_pure]
      · cases h
    · cases h
  · rename_i m e z hu hz
    split at h
    · rename_i n bb g ht
      split at h
      · rename_i hok
        split at h
        · rename_i cells hfl
          injection h with h1 h2; subst h1 h2
          obtain ⟨cs', hf, hr⟩ := fill_sound (G := G) (fun i => some (i * n, n)) _ _ z.cells _ _ hp.1 hp.2 (zero_cells hok) hfl
          refine ⟨.agg cs', ?_, .agg hr⟩
          simp only [Instr.build, Sem.run_bind, run_zero hz, run_under hu, Result.andThen_ok, run_size ht, hf, Sem.run_pure]
        · cases h
      · cases h
    · cases h
  · cases h

theorem optmap {ρ : Operand → Value} {ρD : Operand → DV} (hρ : ∀ x, RV G (ρ x) (ρD x)) (lo : Option Operand) : (∀ x, lo.map ρ = some x → ∃ y, lo.map ρD = some y ∧ RV G x y) ∧ (lo.map ρ = none → lo.map ρD = none) := by
  cases lo with
  | none => simp
  | some x => simp; exact hρ x

/-! ### maps -/
theorem lit_raw {v u : Value} (h : lit v = .raw u) : v = u := by
  unfold lit at h
  split at h
  · split at h <;> cases h
  · injection h
theorem checkKey_n (n : Nat) {kt : TypeId} {kd : TypeDesc} {key : Value} {dk : DV} (hr : RV G key dk) (hk : keyT kd dk = true) (hu : P.underlying kt = some kd) (b : Bool) : (Instr.checkKey b (n + 1) kt key).run P w = .ok () w := by
  unfold keyT at hk
  split at hk
  · rw [hr.raw]; simp [Instr.checkKey, run_under hu]
  · rw [hr.raw]; simp [Instr.checkKey, run_under hu]
  · rw [hr.raw]; simp [Instr.checkKey, run_under hu]
  · cases hk
theorem checkKey_run {kt : TypeId} {kd : TypeDesc} {key : Value} {dk : DV} (hr : RV G key dk) (hk : keyT kd dk = true) (hu : P.underlying kt = some kd) (b : Bool) : (Instr.checkKey b 10000 kt key).run P w = .ok () w := checkKey_n 9999 hr hk hu b
theorem leafy_eq (d : DV) : leafy d = leafD d := by cases d <;> rfl
theorem sameNow_run {kd : TypeDesc} {key : Value} {dk : DV} (hr : RV G key dk) (hk : keyT kd dk = true) (u : Value) {b : Bool} (h : eqK dk (lit u) = some b) : Instr.sameNow kd key u = some b := by
  unfold keyT at hk
  split at hk
  · rename_i k a
    rw [hr.raw]
    generalize hq : lit u = q at h
    cases q with
    | raw x =>
      rw [lit_raw hq]
      cases x with
      | int k' c =>
        simp only [eqK] at h
        split at h
        · rename_i hkk; subst hkk; injection h with h; subst h; simp [Instr.sameNow]
        · cases h
      | _ => simp [eqK] at h
    | _ => simp [eqK] at h
  · rename_i a
    rw [hr.raw]
    generalize hq : lit u = q at h
    cases q with
    | raw x =>
      rw [lit_raw hq]
      cases x with
      | string c =>
        simp only [eqK, Option.some.injEq] at h
        subst h
        simp only [Instr.sameNow, Option.some.injEq]
        rw [beq_toListBytes, toList_bs, toList_bs]
      | _ => simp [eqK] at h
    | _ => simp [eqK] at h
  · rename_i a
    rw [hr.raw]
    generalize hq : lit u = q at h
    cases q with
    | raw x =>
      rw [lit_raw hq]
      cases x with
      | bool c => simp only [eqK, Option.some.injEq] at h; subst h; simp [Instr.sameNow]
      | _ => simp [eqK] at h
    | _ => simp [eqK] at h
  · cases hk
theorem find_run {kd : TypeDesc} {key : Value} {dk : DV} (hr : RV G key dk) (hk : keyT kd dk = true) : ∀ (es : List MapEntry) (i : Nat) (r : Option DV), findL dk (es.map ent) = some r →
    (r = none ∧ Instr.findNow kd key es i = some none) ∨ ∃ j v vd, r = some vd ∧ Instr.findNow kd key es i = some (some (j, v)) ∧ vd = lit v := by
  intro es
  induction es with
  | nil => intro i r h; simp [findL] at h; subst h; exact .inl ⟨rfl, rfl⟩
  | cons e es ih =>
    intro i r h
    simp only [List.map_cons, ent, findL] at h
    split at h
    · rename_i hq
      injection h with h
      subst h
      exact .inr ⟨i, e.val, _, rfl, by simp only [Instr.findNow, sameNow_run hr hk _ hq], rfl⟩
    · rename_i hq
      simp only [Instr.findNow, sameNow_run hr hk _ hq]
      exact ih (i + 1) r h
    · cases h

theorem callD_val {c : Call} {ρ : Operand → Value} {ρD : Operand → DV} (hρ : ∀ x, RV G (ρ x) (ρD x)) {p : Prop} {d : DV} (ty : TypeId) (h : callD P c ρD = .val p d) (hc : p) :
    ∃ v, ((do let d ← resolve ρ c ty; invoke d.target d.args) : Sem Next).run P w = .ok (.value v) w ∧ RV G v d := by
  unfold callD at h
  split at h
  · rename_i hcal
    split at h
    · rename_i x hx
      have e : c.args = #[x] := by rw [← Array.toArray_toList (xs := c.args), hx]
      obtain ⟨v, hv, hr⟩ := lenD_sound (P := P) (w := w) (ty := ty) (hρ x) h hc
      refine ⟨v, ?_, hr⟩
      simp only [resolve, hcal, e, Sem.run_bind, Sem.run_pure, Result.andThen_ok, invoke, builtin, List.map_toArray, List.map_cons, List.map_nil, hv]
    · cases h
  · split at h
    · unfold appendD at h
      split at h
      · split at h
        · split at h
          · split at h
            · split at h <;> cases h
            · cases h
          · cases h
        · cases h
      · cases h
    · cases h
  · split at h
    · split at h <;> cases h
    · cases h
    · cases h
  · cases h

/-- An operation that only yields a value: what it yields. -/
theorem val_sound {o : Oper} {ρ : Operand → Value} {ρD : Operand → DV} {c : Prop} {d : DV} (hF : G.F.ok w) (hρ : ∀ x, RV G (ρ x) (ρD x)) (h : opD P o ρD = .val c d) (hc : c) :
    ∃ v, (execOp ρ o).run P w = .ok (.value v) w ∧ RV G v d := by
  unfold opD at h
  unfold execOp
  split at h <;> rename_i hop <;> simp only [hop] <;> (try (first | (cases h; done)))
  · injection h with h1 h2; subst h1 h2
    exact ⟨_, rfl, hρ _⟩
  · injection h with h1 h2; subst h1 h2
    exact ⟨_, rfl, hρ _⟩
  · rename_i c0 a0 b0
    split at h
    · rename_i t ht
      injection h with h1 h2; subst h1 h2
      have hb := hρ c0
      rw [ht] at hb
      have hb' := hb.raw
      refine ⟨if t then ρ a0 else ρ b0, ?_, ?_⟩
      · simp only [hb', Sem.run_bind, asBool, Sem.run_pure, Result.andThen_ok]
      · cases t
        · exact hρ b0
        · exact hρ a0
    · cases h
  · split at h <;> cases h
  · split at h
    · split at h <;> cases h
    · cases h
  · obtain ⟨v, hv, hr⟩ := buildD_sound (P := P) (w := w) hρ _ h hc
    exact ⟨v, by simp only [Sem.run_bind, hv, Result.andThen_ok, Sem.run_pure], hr⟩
  · unfold buildSliceD at h
    split at h
    · split at h
      · split at h <;> cases h
      · cases h
    · cases h
  · unfold makeSliceD at h
    repeat' (first | split at h | (cases h; done))
  · obtain ⟨v, hv, hr⟩ := loadD_sound (P := P) (w := w) hF (hρ _) h hc
    exact ⟨v, by simp only [Sem.run_bind, hv, Result.andThen_ok, Sem.run_pure], hr⟩
  · unfold storeD at h
    split at h
    · split at h <;> cases h
    · cases h
  · rename_i x
    split at h
    · rename_i cells hx
      injection h with h1 h2; subst h1 h2
      have hl := hρ x
      rw [hx] at hl
      generalize ρ x = v at hl ⊢
      cases hl.leaf' rfl with
      | imm hi =>
        cases hi
        exact ⟨_, rfl, hl⟩
    · rename_i k off hx
      injection h with h1 h2; subst h1 h2
      have hl := hρ x
      rw [hx] at hl
      have hl' := hl.leaf' rfl
      generalize ρ x = v at hl' hl ⊢
      cases hl' with
      | imm h => cases h
      | ref off hb => exact ⟨_, rfl, hl⟩
    · cases h
  · obtain ⟨v, hv, hr⟩ := binD_sound (P := P) (w := w) (hρ _) (hρ _) h hc
    refine ⟨v, ?_, hr⟩
    simp only [Sem.run_bind] at hv ⊢
    rw [hv]
    rfl
  · obtain ⟨v, hv, hr⟩ := unD_sound (P := P) (w := w) (hρ _) h hc
    exact ⟨v, by simp only [Sem.run_bind, hv, Result.andThen_ok, Sem.run_pure], hr⟩
  · obtain ⟨v, hv, hr⟩ := convD_sound (P := P) (w := w) (hρ _) h hc
    exact ⟨v, by simp only [Sem.run_bind, hv, Result.andThen_ok, Sem.run_pure], hr⟩
  · obtain ⟨v, hv, hr⟩ := sliceD_sound (P := P) (w := w) (hρ _) (optmap hρ _).1 (optmap hρ _).2 (optmap hρ _).1 (optmap hρ _).2 h hc
    exact ⟨v, by simp only [Option.map_none, Sem.run_bind, hv, Result.andThen_ok, Sem.run_pure], hr⟩
  · obtain ⟨v, hv, hr⟩ := fieldAddrD_sound (P := P) (w := w) (hρ _) h hc
    exact ⟨v, by simp only [Sem.run_bind, hv, Result.andThen_ok, Sem.run_pure], hr⟩
  · obtain ⟨v, hv, hr⟩ := fieldD_sound (P := P) (w := w) (hρ _) h hc
    exact ⟨v, by simp only [Sem.run_bind, hv, Result.andThen_ok, Sem.run_pure], hr⟩
  · obtain ⟨v, hv, hr⟩ := indexAddrD_sound (P := P) (w := w) (hρ _) (hρ _) h hc
    exact ⟨v, by simp only [Sem.run_bind, hv, Result.andThen_ok, Sem.run_pure], hr⟩
  · obtain ⟨v, hv, hr⟩ := indexD_sound (P := P) (w := w) (hρ _) (hρ _) h hc
    exact ⟨v, by simp only [Sem.run_bind, hv, Result.andThen_ok, Sem.run_pure], hr⟩
  · rename_i x i
    split at h
    · rename_i ds hx
      split at h
      · rename_i dd hd
        injection h with h1 h2; subst h1 h2
        have hl := hρ x
        rw [hx] at hl
        generalize ρ x = v at hl ⊢
        cases hl with
        | leaf h => cases h with
          | imm h => cases h
        | tup hn ht =>
          rename_i vs
          have hlt : i < vs.size := by rw [hn]; exact (List.getElem?_eq_some_iff.1 hd).1
          refine ⟨vs[i], ?_, ht i _ _ (Array.getElem?_eq_getElem hlt) hd⟩
          simp only [Instr.extract, Array.getElem?_eq_getElem hlt, Sem.run_bind, Sem.run_pure, Result.andThen_ok]
      · cases h
    · cases h
  · exact callD_val hρ _ h hc
  · rename_i t m k ok
    unfold lookupD at h
    split at h
    · rename_i kt et hu
      split at h
      · split at h <;> cases h
      · rename_i kd z hkd hz hm
        split at h
        · rename_i hok
          simp only [Bool.and_eq_true] at hok
          injection h with h1 h2; subst h1 h2
          have hv := hρ m
          rw [hm] at hv
          rw [hv.raw]
          refine ⟨if ok then .tuple #[z, .bool false] else z, ?_, ?_⟩
          · simp only [Instr.lookup, Sem.run_bind, run_under hu, Result.andThen_ok, Sem.run_pure, checkKey_run (hρ k) hok.1 hkd, Instr.findKey, run_under hkd, Instr.findNow, run_zero hz]
          · cases ok
            · exact RV.lit G z
            · refine .tup rfl fun j x d hx hd => ?_
              match j with
              | 0 => simp at hx hd; subst hx hd; exact RV.lit G z
              | 1 => simp at hx hd; subst hx hd; exact raw_rv _ rfl
              | j + 2 => simp at hx
        · cases h
      · cases h
    · cases h
  · unfold updateD at h
    split at h
    · split at h
      · split at h <;> cases h
      · cases h
    · cases h
  · rename_i fn first caps
    unfold funcD at h
    split at h
    · rename_i f hf
      split at h
      · rename_i hl
        injection h with h1 h2; subst h1 h2
        obtain rfl : first = #[] := by
          rw [List.map_eq_nil_iff] at hf
          exact Array.toList_eq_nil_iff.1 hf
        refine ⟨.func (.func f) #[] (caps.map ρ), by simp only [Array.map_empty, Instr.makeFunc, Sem.run_bind, Sem.run_pure, Result.andThen_ok], .leaf ?_⟩
        have hsz : (caps.map ρ).size = (caps.toList.map ρD).length := by simp
        refine .clo f hsz fun j x d hx hd => ?_
        rw [Array.getElem?_map] at hx
        rw [List.getElem?_map, Array.getElem?_toList] at hd
        cases hq : caps[j]? with
        | none => rw [hq] at hx; cases hx
        | some y =>
          rw [hq] at hx hd
          simp only [Option.map_some, Option.some.injEq] at hx hd
          subst hx hd
          refine (hρ y).leaf' ?_
          have := List.all_eq_true.1 hl (ρD y) (List.mem_map_of_mem (List.mem_of_getElem? (i := j) (by rw [Array.getElem?_toList]; exact hq)))
          rw [← leafy_eq]; exact this
      · cases h
    · cases h
end
end Go.Proofs.YtofhmddgldlcdabGreat.D
