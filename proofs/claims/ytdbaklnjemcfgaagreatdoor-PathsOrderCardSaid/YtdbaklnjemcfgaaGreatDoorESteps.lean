/- What one operation does in the model, by its kind: what only yields, what makes memory, what reads it, what changes it. Conditions: none. -/
import Derived.Test.YtdbaklnjemcfgaaGreatDoorEExt
import Derived.Orders
namespace Go.Proofs.YtdbaklnjemcfgaaGreatDoor.E
open Go.RowKit Go.Proofs.YtdbaklnjemcfgaaGreatDoor.Mem Go.Proofs.YtdbaklnjemcfgaaGreatDoor.D
set_option linter.unusedVariables false
set_option linter.unusedSimpArgs false

section
variable {P : Program} {G G' : Gg} {w w' w0 : World} {T R : Nat → Prop} {h : Hp}

theorem deleg_val {o : Oper} {ρ : Operand → EV} {x : OutE} (h : delegD P o ρ = x) (hx : ∀ c d, x ≠ .val c d) : x = .bad := by
  unfold delegD at h
  split at h
  · exact absurd h.symm (hx _ _)
  · exact h.symm

theorem lenE_val {o : Oper} {cl : Call} {x : Operand} {ρ : Operand → Value} {ρE : Operand → EV} (hF : G.F.ok w) (hρ : ∀ x, VV G (ρ x) (ρE x)) (hop : o.op = .call cl) (hcal : cl.callee = .builtin .len) (hargs : cl.args.toList = [x]) {c : Prop} {d : EV} (h : lenE P o ρE cl (ρE x) = .val c d) (hc : c) :
    ∃ v, (execOp ρ o).run P w = .ok (.value v) w ∧ VV G v d := by
  unfold lenE at h
  have e1 : cl.args = #[x] := by rw [← Array.toArray_toList (xs := cl.args), hargs]
  split at h
  · rename_i t ht
    have e2 : cl.argTypes = #[t] := by rw [← Array.toArray_toList (xs := cl.argTypes), ht]
    have fin : ∀ (n : Nat) (v : Value), ρ x = v → (Builtin.len_ #[t] o.type #[v]).run P w = .ok (.int .i64 n) w → ∃ v, (execOp ρ o).run P w = .ok (.value v) w ∧ VV G v (er (.int .i64 n)) := fun n v hv hr => by
      refine ⟨.int .i64 n, ?_, VV.er rfl⟩
      unfold execOp
      simp only [hop, resolve, hcal, e1, e2, Sem.run_bind, Sem.run_pure, Result.andThen_ok, invoke, builtin, List.map_toArray, List.map_cons, List.map_nil, hv, hr]
    split at h
    · rename_i e k off len cap n ex hu hx
      injection h with h1 h2; subst h1 h2
      have hv := hρ x
      rw [hx] at hv
      generalize hvx : ρ x = vx at hv
      cases hv.leaf' rfl with
      | sl => exact fin len _ hvx (by simp [Builtin.len_, run_under hu, goInt])
    · rename_i e hu hx
      injection h with h1 h2; subst h1 h2
      have hv := hρ x
      rw [hx] at hv
      generalize hvx : ρ x = vx at hv
      cases hv.leaf' rfl with
      | emp A => exact fin 0 _ hvx (by simp [Builtin.len_, run_under hu, goInt])
    · rename_i e hu hx
      injection h with h1 h2; subst h1 h2
      have hv := hρ x
      rw [hx] at hv
      exact fin 0 _ hv.raw (by simp [Builtin.len_, run_under hu, goInt])
    · rename_i e f hu hx
      injection h with h1 h2; subst h1 h2
      have hv := hρ x
      rw [hx] at hv
      exact fin 0 _ hv.raw (by simp [Builtin.len_, run_under hu, goInt])
    · cases h
    · exact deleg_sound hF hρ h hc
  · cases h

theorem val_soundE {o : Oper} {ρ : Operand → Value} {ρE : Operand → EV} {c : Prop} {d : EV} (hF : G.F.ok w) (hρ : ∀ x, VV G (ρ x) (ρE x)) (h : opE P o ρE = .val c d) (hc : c) :
    ∃ v, (execOp ρ o).run P w = .ok (.value v) w ∧ VV G v d := by
  have dg : ∀ {c : Prop} {d : EV}, delegD P o ρE = .val c d → c → ∃ v, (execOp ρ o).run P w = .ok (.value v) w ∧ VV G v d := fun h hc => deleg_sound hF hρ h hc
  unfold opE at h
  split at h <;> rename_i hop
  case h_1 => injection h with h1 h2; subst h1 h2; exact ⟨_, by unfold execOp; simp only [hop]; rfl, hρ _⟩
  case h_2 => injection h with h1 h2; subst h1 h2; exact ⟨_, by unfold execOp; simp only [hop]; rfl, hρ _⟩
  case h_3 c0 a0 b0 =>
    split at h
    · rename_i t ht
      injection h with h1 h2; subst h1 h2
      have hb := hρ c0
      rw [ht] at hb
      have hb' := hb.raw
      refine ⟨if t then ρ a0 else ρ b0, ?_, ?_⟩
      · unfold execOp; simp only [hop, hb', Sem.run_bind, asBool, Sem.run_pure, Result.andThen_ok]
      · cases t
        · exact hρ b0
        · exact hρ a0
    · cases h
  case h_4 => split at h <;> cases h
  case h_5 =>
    split at h
    · split at h <;> cases h
    · cases h
  case h_6 =>
    obtain ⟨v, hv, hr⟩ := buildE_sound (P := P) (w := w) hρ _ h hc
    exact ⟨v, by unfold execOp; simp only [hop, Sem.run_bind, hv, Result.andThen_ok, Sem.run_pure], hr⟩
  case h_7 =>
    exfalso
    unfold buildSliceE at h
    repeat' (first | split at h | (cases h; done))
  case h_8 =>
    exfalso
    unfold makeSliceE at h
    repeat' (first | split at h | (cases h; done))
  case h_9 =>
    split at h
    · exfalso
      unfold loadE at h
      repeat' (first | split at h | (cases h; done))
    · exact dg h hc
  case h_10 =>
    exfalso
    split at h
    · unfold storeE at h
      repeat' (first | split at h | (cases h; done))
    · cases h
  case h_11 x =>
    split at h
    · rename_i k off hx
      injection h with h1 h2; subst h1 h2
      have hv := hρ x
      rw [hx] at hv
      refine ⟨ρ x, ?_, hv⟩
      generalize hvx : ρ x = v at hv
      cases hv.leaf' rfl with
      | ptr => unfold execOp; simp only [hop, hvx]; rfl
    · rename_i f caps hx
      injection h with h1 h2; subst h1 h2
      have hv := hρ x
      rw [hx] at hv
      refine ⟨ρ x, ?_, hv⟩
      generalize hvx : ρ x = v at hv ⊢
      cases hv.leaf' rfl with
      | clo => unfold execOp; simp only [hop, hvx]; rfl
    · rename_i f caps hx
      injection h with h1 h2; subst h1 h2
      have hv := hρ x
      rw [hx] at hv
      refine ⟨ρ x, ?_, hv⟩
      generalize hvx : ρ x = v at hv ⊢
      cases hv.leaf' rfl with
      | bnd => unfold execOp; simp only [hop, hvx]; rfl
    · exact dg h hc
  case h_12 op t x y yt =>
    unfold binE at h
    split at h
    · split at h
      · rename_i b hb
        injection h with h1 h2; subst h1 h2
        obtain ⟨p, q, hp, hq, hor, rfl⟩ := eqNil_cases hb
        have hx := nilK_v (hρ x) hp
        have hy := nilK_v (hρ y) hq
        refine ⟨.bool (p == q), ?_, VV.er rfl⟩
        unfold execOp
        simp only [hop, Sem.run_bind, guard_leaf _ _ _ _ _ _ (nilV_op hx).1 (nilV_op hx).2, Result.andThen_ok, nilV_eql hx, nilV_eq hx hy hor, Sem.run_pure]
      · exact dg h hc
    · split at h
      · rename_i b hb
        injection h with h1 h2; subst h1 h2
        obtain ⟨p, q, hp, hq, hor, rfl⟩ := eqNil_cases hb
        have hx := nilK_v (hρ x) hp
        have hy := nilK_v (hρ y) hq
        refine ⟨.bool (!(p == q)), ?_, VV.er rfl⟩
        unfold execOp
        simp only [hop, Sem.run_bind, guard_leaf _ _ _ _ _ _ (nilV_op hx).1 (nilV_op hx).2, Result.andThen_ok, nilV_neq hx, nilV_eq hx hy hor, Sem.run_pure]
      · exact dg h hc
    · exact dg h hc
  case h_13 t x lo hi mx =>
    split at h
    · rename_i k off len cap n ex hx
      have hv := hρ x
      rw [hx] at hv
      obtain ⟨v, hr, hvv⟩ := sliceE_sound (P := P) (w := w) hρ hv h hc
      exact ⟨v, by unfold execOp; simp only [hop, Sem.run_bind, hr, Result.andThen_ok, Sem.run_pure], hvv⟩
    · rename_i hx
      have hv := hρ x
      rw [hx] at hv
      obtain ⟨v, hr, hvv⟩ := sliceNoneE_sound (P := P) (w := w) hρ hv h hc
      exact ⟨v, by unfold execOp; simp only [hop, Sem.run_bind, hr, Result.andThen_ok, Sem.run_pure], hvv⟩
    · exfalso
      split at h
      · unfold sliceArrE at h
        repeat' (first | split at h | (cases h; done))
      · cases h
    · split at h
      · exact dg h hc
      · obtain ⟨v, hr, hvv⟩ := sliceNoneE_sound (P := P) (w := w) hρ (hρ x) h hc
        exact ⟨v, by unfold execOp; simp only [hop, Sem.run_bind, hr, Result.andThen_ok, Sem.run_pure], hvv⟩
  case h_14 t x f =>
    split at h
    · rename_i k off hx
      have hv := hρ x
      rw [hx] at hv
      obtain ⟨v, hr, hvv⟩ := fieldAddrE_sound (P := P) (w := w) hv h hc
      exact ⟨v, by unfold execOp; simp only [hop, Sem.run_bind, hr, Result.andThen_ok, Sem.run_pure], hvv⟩
    · exact dg h hc
  case h_15 t x f =>
    obtain ⟨v, hr, hvv⟩ := fieldE_sound (P := P) (w := w) (hρ x) h hc
    exact ⟨v, by unfold execOp; simp only [hop, Sem.run_bind, hr, Result.andThen_ok, Sem.run_pure], hvv⟩
  case h_16 t x i =>
    split at h
    · exact dg h hc
    · obtain ⟨v, hr, hvv⟩ := indexAddrE_sound (P := P) (w := w) (hρ x) (hρ i) h hc
      exact ⟨v, by unfold execOp; simp only [hop, Sem.run_bind, hr, Result.andThen_ok, Sem.run_pure], hvv⟩
  case h_17 t x i =>
    split at h
    · rename_i cells hx
      have hv := hρ x
      rw [hx] at hv
      obtain ⟨v, hr, hvv⟩ := indexE_sound (P := P) (w := w) hv (hρ i) h hc
      exact ⟨v, by unfold execOp; simp only [hop, Sem.run_bind, hr, Result.andThen_ok, Sem.run_pure], hvv⟩
    · exact dg h hc
  case h_18 x i =>
    split at h
    · rename_i ds hx
      split at h
      · rename_i dd hd
        injection h with h1 h2; subst h1 h2
        have hl := hρ x
        rw [hx] at hl
        generalize hvx : ρ x = v at hl
        cases hl with
        | leaf h => cases h
        | tup hn ht =>
          rename_i vs
          have hlt : i < vs.size := by rw [hn]; exact (List.getElem?_eq_some_iff.1 hd).1
          refine ⟨vs[i], ?_, ht i _ _ (Array.getElem?_eq_getElem hlt) hd⟩
          unfold execOp
          simp only [hop, hvx, Instr.extract, Array.getElem?_eq_getElem hlt, Sem.run_bind, Sem.run_pure, Result.andThen_ok]
      · cases h
    · cases h
  case h_19 cl =>
    unfold callE at h
    split at h
    · rename_i hcal
      split at h
      · rename_i x hx
        exact lenE_val hF hρ hop hcal hx h hc
      · cases h
    · exfalso
      split at h
      · unfold appendE at h
        repeat' (first | split at h | (cases h; done) | unfold appZeroE at h)
      · cases h
    · rename_i hcal
      split at h
      · rename_i x y hx
        have e1 : cl.args = #[x, y] := by rw [← Array.toArray_toList (xs := cl.args), hx]
        unfold mmE at h
        split at h
        · rename_i hx' hy'
          injection h with h1 h2; subst h2
          have hvx := (hx' ▸ hρ x : VV G (ρ x) _).raw
          have hvy := (hy' ▸ hρ y : VV G (ρ y) _).raw
          refine ⟨_, ?_, VV.er rfl⟩
          unfold execOp
          simp only [hop, resolve, hcal, e1, Sem.run_bind, Sem.run_pure, Result.andThen_ok, invoke, builtin, List.map_toArray, List.map_cons, List.map_nil, hvx, hvy, Builtin.min_, Builtin.min2, List.foldlM_cons, List.foldlM_nil, Bool.false_eq_true, if_false]
        · cases h
      · cases h
    · rename_i hcal
      split at h
      · rename_i x y hx
        have e1 : cl.args = #[x, y] := by rw [← Array.toArray_toList (xs := cl.args), hx]
        unfold mmE at h
        split at h
        · rename_i hx' hy'
          injection h with h1 h2; subst h2
          have hvx := (hx' ▸ hρ x : VV G (ρ x) _).raw
          have hvy := (hy' ▸ hρ y : VV G (ρ y) _).raw
          refine ⟨_, ?_, VV.er rfl⟩
          unfold execOp
          simp only [hop, resolve, hcal, e1, Sem.run_bind, Sem.run_pure, Result.andThen_ok, invoke, builtin, List.map_toArray, List.map_cons, List.map_nil, hvx, hvy, Builtin.max_, Builtin.max2, List.foldlM_cons, List.foldlM_nil, if_true]
        · cases h
      · cases h
    · exfalso
      split at h
      · split at h <;> cases h
      · cases h
      · cases h
      · cases h
    · exact extC_val hρ hop h hc
  case h_20 => cases h
  case h_21 t m k ok =>
    obtain ⟨v, hr, hvv⟩ := lookup_val (P := P) (w := w) (hρ m) (hρ k) h
    exact ⟨v, by unfold execOp; simp only [hop, Sem.run_bind, hr, Result.andThen_ok, Sem.run_pure], hvv⟩
  case h_22 =>
    exfalso
    unfold updateE at h
    repeat' (first | split at h | (cases h; done))
  case h_23 =>
    exfalso
    unfold entryE at h
    repeat' (first | split at h | (cases h; done))
  case h_24 =>
    exfalso
    unfold entryStoreE at h
    repeat' (first | split at h | (cases h; done))
  case h_25 fn first caps =>
    unfold funcE at h
    split at h
    · rename_i f hf
      split at h
      · rename_i hl
        injection h with h1 h2; subst h1 h2
        obtain rfl : first = #[] := by
          rw [List.map_eq_nil_iff] at hf
          exact Array.toList_eq_nil_iff.1 hf
        refine ⟨.func (.func f) #[] (caps.map ρ), by unfold execOp; simp only [hop, Array.map_empty, Instr.makeFunc, Sem.run_bind, Sem.run_pure, Result.andThen_ok], .leaf ?_⟩
        have hsz : (caps.map ρ).size = (caps.toList.map ρE).length := by simp
        refine .clo f hsz fun j x d hx hd => ?_
        rw [Array.getElem?_map] at hx
        rw [List.getElem?_map, Array.getElem?_toList] at hd
        cases hq : caps[j]? with
        | none => rw [hq] at hx; cases hx
        | some y =>
          rw [hq] at hx hd
          simp only [Option.map_some, Option.some.injEq] at hx hd
          subst hx hd
          exact (hρ y).leaf' (List.all_eq_true.1 hl (ρE y) (List.mem_map_of_mem (List.mem_of_getElem? (i := j) (by rw [Array.getElem?_toList]; exact hq))))
      · cases h
    · rename_i f a l hf
      split at h
      · rename_i hl
        injection h with h1 h2; subst h1 h2
        simp only [Bool.and_eq_true, List.isEmpty_iff] at hl
        obtain ⟨hce, hl⟩ := hl
        obtain rfl : caps = #[] := by
          rw [List.map_eq_nil_iff] at hce
          exact Array.toList_eq_nil_iff.1 hce
        rw [← hf] at hl ⊢
        refine ⟨.func (.func f) (first.map ρ) #[], by unfold execOp; simp only [hop, Array.map_empty, Instr.makeFunc, Sem.run_bind, Sem.run_pure, Result.andThen_ok], .leaf ?_⟩
        have hsz : (first.map ρ).size = (first.toList.map ρE).length := by simp
        refine .bnd f hsz fun j x d hx hd => ?_
        rw [Array.getElem?_map] at hx
        rw [List.getElem?_map, Array.getElem?_toList] at hd
        cases hq : first[j]? with
        | none => rw [hq] at hx; cases hx
        | some y =>
          rw [hq] at hx hd
          simp only [Option.map_some, Option.some.injEq] at hx hd
          subst hx hd
          exact (hρ y).leaf' (List.all_eq_true.1 hl (ρE y) (List.mem_map_of_mem (List.mem_of_getElem? (i := j) (by rw [Array.getElem?_toList]; exact hq))))
      · cases h
    · cases h
  case h_26 => exact dg h hc
  case h_27 src dst x =>
    split at h
    · exfalso
      unfold bytesE at h
      split at h <;> cases h
    · rename_i hx
      have hv := hρ x
      rw [hx] at hv
      generalize hvx : ρ x = vx at hv
      cases hv.leaf' rfl with
      | emp A =>
        obtain ⟨v, hr, hvv⟩ := bytesNone_run (P := P) (w := w) (G := G) (A := A) h
        exact ⟨v, by unfold execOp; simp only [hop, hvx, Sem.run_bind, hr, Result.andThen_ok, Sem.run_pure], hvv⟩
    · rename_i hx
      have hv := hρ x
      rw [hx] at hv
      obtain ⟨v, hr, hvv⟩ := bytesNone_run (P := P) (w := w) (G := G) (A := none) h
      exact ⟨v, by unfold execOp; simp only [hop, hv.raw, Sem.run_bind, hr, Result.andThen_ok, Sem.run_pure], hvv⟩
    · exact dg h hc
  case h_28 => exact extE_val hρ h hc

/-- New cells in a new block. -/
theorem add_cells (hW : WE T w0 R G h w) (k : Nat) (hk : R k) (cs : Array Value) (t : TypeId) (ds : List EV) (hc : VC G cs.toList ds) :
    WE T w0 (fun i => R i ∧ i ≠ k) (G.put k ⟨w.heap.size, 0, cs.size⟩) (upd h k (some (.cells ds))) (w.alloc (.cells cs t)) ∧ G.le (fun i => i = k) (G.put k ⟨w.heap.size, 0, cs.size⟩) := by
  have hle := Gg.put_le (hW.fresh k hk) ⟨w.heap.size, 0, cs.size⟩
  refine hW.add (w' := w.alloc (.cells cs t)) k hk (.cells ds) cs.size rfl rfl rfl (by rw [size_alloc]; exact Nat.le_succ _) (fun b hb => heap_alloc_lt w _ hb) ⟨cs, t, heap_alloc_new w _, rfl, by have := hc.1; rw [Array.length_toList] at this; show 0 + ds.length ≤ cs.size; omega, fun j d hd => ?_⟩ _ (upd_same ..) (fun k' o hne hk' => by rw [upd_ne _ _ hne] at hk'; exact hk')
  have hj : j < cs.size := by have := (List.getElem?_eq_some_iff.1 hd).1; rw [← hc.1, Array.length_toList] at this; exact this
  exact ⟨cs[j], by show cs[0 + j]? = _; rw [Nat.zero_add]; exact Array.getElem?_eq_getElem hj, (hc.2 j _ d (by rw [Array.getElem?_toList]; exact Array.getElem?_eq_getElem hj) hd).mono hle⟩

theorem new_sound (hW : WE T w0 R G h w) {o : Oper} {ρ : Operand → Value} {ρE : Operand → EV} {c : Prop} {ob : EO} {mk : Nat → EV} (hρ : ∀ x, VV G (ρ x) (ρE x)) (ho : opE P o ρE = .new c ob mk) (hc : c) (k : Nat) (hk : R k) :
    ∃ v w' G', (execOp ρ o).run P w = .ok (.value v) w' ∧ G.le (fun i => i = k) G' ∧ VV G' v (mk k) ∧ WE T w0 (fun i => R i ∧ i ≠ k) G' (upd h k (some ob)) w' := by
  have box : ∀ (cs : Array Value) (t : TypeId) (ds : List EV), VC G cs.toList ds → (execOp ρ o).run P w = .ok (.value (.pointer (some ⟨w.heap.size, 0, none⟩))) (w.alloc (.cells cs t)) →
      ∃ v w' G', (execOp ρ o).run P w = .ok (.value v) w' ∧ G.le (fun i => i = k) G' ∧ VV G' v (.ptr k 0) ∧ WE T w0 (fun i => R i ∧ i ≠ k) G' (upd h k (some (.cells ds))) w' := by
    intro cs t ds hcs hrun
    obtain ⟨q1, q2⟩ := add_cells hW k hk cs t ds hcs
    exact ⟨_, _, _, hrun, q2, .leaf (VL.ptr (G := G.put k ⟨w.heap.size, 0, cs.size⟩) (p := ⟨w.heap.size, 0, cs.size⟩) 0 (Gg.put_at ..)), q1⟩
  have row : ∀ (cs : Array Value) (t : TypeId) (ds : List EV) (l c n : Nat), VC G cs.toList ds → l ≤ c → cs.size = c * n → c ≤ maxLen → (execOp ρ o).run P w = .ok (.value (.slice (some ⟨w.heap.size, 0, none⟩) l c)) (w.alloc (.cells cs t)) →
      ∃ v w' G', (execOp ρ o).run P w = .ok (.value v) w' ∧ G.le (fun i => i = k) G' ∧ VV G' v (.sl k 0 l c n true) ∧ WE T w0 (fun i => R i ∧ i ≠ k) G' (upd h k (some (.cells ds))) w' := by
    intro cs t ds l c n hcs hlc hsz hm hrun
    obtain ⟨q1, q2⟩ := add_cells hW k hk cs t ds hcs
    have := VL.sl (G := G.put k ⟨w.heap.size, 0, cs.size⟩) (a := 0) 0 l c n true c (k := k) (p := ⟨w.heap.size, 0, cs.size⟩) (Gg.put_at ..) hlc (Nat.le_refl _) (fun _ => rfl) (.inl rfl) hm (.inr (by show 0 + 0 + c * n ≤ cs.size; omega))
    exact ⟨_, _, _, hrun, q2, .leaf this, q1⟩
  have nodeleg : delegD P o ρE ≠ .new c ob mk := by
    unfold delegD
    split <;> simp
  unfold opE at ho
  split at ho <;> rename_i hop <;> (try (cases ho; done)) <;> (try (exact absurd ho nodeleg))
  case h_3 => split at ho <;> cases ho
  case h_4 t x =>
    split at ho
    · rename_i hx
      injection ho with h1 h2 h3; subst h1 h2 h3
      exact box (ρ x).cells t _ ((hρ x).cells hx) (by unfold execOp; simp only [hop]; rfl)
    · cases ho
  case h_5 t =>
    split at ho
    · rename_i z hz
      split at ho
      · rename_i hx
        injection ho with h1 h2 h3; subst h1 h2 h3
        exact box z.cells t _ (zero_cellsE hx) (by unfold execOp; simp only [hop, Instr.alloc, Sem.run_bind, run_zero hz, Result.andThen_ok]; rfl)
      · cases ho
    · cases ho
  case h_6 =>
    exfalso
    unfold buildE at ho
    repeat' (first | split at ho | (cases ho; done))
  case h_7 t len parts =>
    unfold buildSliceE at ho
    split at ho
    · rename_i e hu
      split at ho
      · rename_i n b g z ht hz
        split at ho
        · rename_i hok
          simp only [Bool.and_eq_true, decide_eq_true_eq, beq_iff_eq] at hok
          obtain ⟨⟨⟨k1, k2⟩, k3⟩, k4⟩ := hok
          split at ho
          · rename_i cells hfl
            injection ho with h1 h2 h3; subst h1 h2 h3
            have hp := parts_evE hρ parts
            have hz0 := zero_cellsE (G := G) k4
            have hlz : ∀ zero : Array Value, (len * n = 0 → zero = #[]) → (len * n ≠ 0 → zero = z.cells) → ((Array.range (len * n)).map (zero[· % zero.size]!)).toList = (List.replicate len z.cells.toList).flatten := by
              intro zero h0 h1
              by_cases hl0 : len * n = 0
              · have : len = 0 := by rcases Nat.mul_eq_zero.1 hl0 with e | e; exact e; omega
                subst this
                simp
              · rw [h1 hl0]
                have := zero_repE z.cells len
                rw [k3] at this
                rw [k3]
                exact this
            have hfill : ∀ zero : Array Value, (len * n = 0 → zero = #[]) → (len * n ≠ 0 → zero = z.cells) → ∃ cs', Instr.fill (fun i => some (i * n, n)) ((Array.range (len * n)).map (zero[· % zero.size]!)) (parts.map fun (i, x) => (i, ρ x)).toList = some cs' ∧ VC G cs'.toList cells ∧ cs'.size = len * n := by
              intro zero h0 h1
              obtain ⟨cs', hf, hr, hs⟩ := fill_soundE (G := G) (fun i => some (i * n, n)) _ _ ((Array.range (len * n)).map (zero[· % zero.size]!)) _ _ hp.1 hp.2 (by rw [hlz zero h0 h1]; exact reps_vc hz0 len) hfl
              exact ⟨cs', hf, hr, by rw [hs]; simp⟩
            have hlen : len ≤ 16777216 := Nat.le_trans (Nat.le_mul_of_pos_right _ k1) k2
            have n1 : ¬ (len * n > 2 ^ 24) := by omega
            by_cases h0 : len * n = 0
            · obtain ⟨cs', hf, hr, hs⟩ := hfill #[] (fun _ => rfl) (fun h => absurd h0 h)
              refine row cs' e cells len len n hr (Nat.le_refl _) hs (by unfold maxLen; omega) ?_
              unfold execOp
              simp only [hop, Instr.buildSlice, Sem.run_bind, run_under hu, run_size ht, Result.andThen_ok]
              rw [if_neg n1, if_pos h0]
              simp only [Sem.run_bind, Sem.run_pure, Result.andThen_ok]
              rw [hf]
              simp only [Sem.run_bind, newRow, run_newObj, Result.andThen_ok, Sem.run_pure]
              rfl
            · obtain ⟨cs', hf, hr, hs⟩ := hfill z.cells (fun h => absurd h h0) (fun _ => rfl)
              refine row cs' e cells len len n hr (Nat.le_refl _) hs (by unfold maxLen; omega) ?_
              unfold execOp
              simp only [hop, Instr.buildSlice, Sem.run_bind, run_under hu, run_size ht, Result.andThen_ok]
              rw [if_neg n1, if_neg h0]
              simp only [Sem.run_bind, Sem.run_pure, run_zero hz, Result.andThen_ok]
              rw [hf]
              simp only [Sem.run_bind, newRow, run_newObj, Result.andThen_ok, Sem.run_pure]
              rfl
          · cases ho
        · cases ho
      · cases ho
    · cases ho
  case h_8 t l cp =>
    unfold makeSliceE at ho
    split at ho
    · rename_i e li ci hu hl hcp
      split at ho
      · rename_i n b g z ht hz
        split at ho
        · rename_i hok
          simp only [Bool.and_eq_true, decide_eq_true_eq, beq_iff_eq] at hok
          obtain ⟨⟨⟨k1, k2⟩, k3⟩, k4⟩ := hok
          injection ho with h1 h2 h3; subst h1 h2 h3
          obtain ⟨c1, c2, c3⟩ := hc
          obtain ⟨kl, hvl⟩ := (hρ l).int hl
          obtain ⟨kc, hvc⟩ := (hρ cp).int hcp
          obtain ⟨i, hi, e1, e2, e3⟩ := zero_infoE ht hz
          subst e1 e2
          have hci : ci ≤ 140737488355328 := by
            have hb1 : (1 : Int) ≤ i.bytes := by omega
            have : ci * 1 ≤ ci * i.bytes := Int.mul_le_mul_of_nonneg_left hb1 (by omega)
            omega
          have hrun := run_make (P := P) w t e i z hu hi e3 kl kc li ci c1 c2 (by rw [Int.mul_comm]; omega) (by omega)
          have hcells : (madeCells z.cells (ci.toNat * i.size)).toList = (List.replicate ci.toNat z.cells.toList).flatten := by
            have := zero_repE z.cells ci.toNat
            rw [k3] at this
            unfold madeCells
            rw [k3]
            exact this
          have hsz : (madeCells z.cells (ci.toNat * i.size)).size = ci.toNat * i.size := size_madeCells _ _
          refine row _ e _ li.toNat ci.toNat i.size (by rw [hcells]; exact reps_vc (zero_cellsE k4) ci.toNat) (by omega) hsz (by unfold maxLen; omega) ?_
          unfold execOp
          simp only [hop, hvl, hvc, Sem.run_bind, hrun, Result.andThen_ok, Sem.run_pure]
        · cases ho
      · cases ho
    · cases ho
  case h_9 =>
    split at ho
    · exfalso
      unfold loadE at ho
      repeat' (first | split at ho | (cases ho; done))
    · exact absurd ho nodeleg
  case h_10 =>
    split at ho
    · exfalso
      unfold storeE at ho
      repeat' (first | split at ho | (cases ho; done))
    · cases ho
  case h_11 =>
    split at ho
    · cases ho
    · cases ho
    · cases ho
    · exact absurd ho nodeleg
  case h_12 =>
    unfold binE at ho
    split at ho
    · split at ho
      · cases ho
      · exact absurd ho nodeleg
    · split at ho
      · cases ho
      · exact absurd ho nodeleg
    · exact absurd ho nodeleg
  case h_13 =>
    split at ho
    · exfalso
      unfold sliceE at ho
      repeat' (first | split at ho | (cases ho; done))
    · exfalso
      unfold sliceNoneE at ho
      repeat' (first | split at ho | (cases ho; done))
    · exfalso
      split at ho
      · unfold sliceArrE at ho
        repeat' (first | split at ho | (cases ho; done))
      · cases ho
    · split at ho
      · exact absurd ho nodeleg
      · exfalso
        unfold sliceNoneE at ho
        repeat' (first | split at ho | (cases ho; done))
  case h_14 =>
    split at ho
    · exfalso
      unfold fieldAddrE at ho
      repeat' (first | split at ho | (cases ho; done))
    · exact absurd ho nodeleg
  case h_15 =>
    exfalso
    unfold fieldE at ho
    repeat' (first | split at ho | (cases ho; done))
  case h_16 =>
    split at ho
    · exact absurd ho nodeleg
    · exfalso
      unfold indexAddrE at ho
      repeat' (first | split at ho | (cases ho; done))
  case h_17 =>
    split at ho
    · exfalso
      unfold indexE at ho
      repeat' (first | split at ho | (cases ho; done))
    · exact absurd ho nodeleg
  case h_18 =>
    exfalso
    repeat' (first | split at ho | (cases ho; done))
  case h_19 =>
    unfold callE at ho
    split at ho
    · split at ho
      · unfold lenE at ho
        split at ho
        · split at ho <;> first | (cases ho; done) | exact absurd ho nodeleg
        · cases ho
      · cases ho
    · exfalso
      split at ho
      · unfold appendE at ho
        repeat' (first | split at ho | (cases ho; done) | unfold appZeroE at ho)
      · cases ho
    · exfalso
      split at ho
      · unfold mmE at ho
        repeat' (first | split at ho | (cases ho; done))
      · cases ho
    · exfalso
      split at ho
      · unfold mmE at ho
        repeat' (first | split at ho | (cases ho; done))
      · cases ho
    · exfalso
      split at ho
      · split at ho <;> cases ho
      · cases ho
      · cases ho
      · cases ho
    · rcases extC_form (P := P) _ ρE with ⟨_, _, e⟩ | ⟨_, e⟩ | ⟨_, _, e⟩ | e <;> (rw [e] at ho; cases ho)
  case h_20 =>
    injection ho with h1 h2 h3; subst h1 h2 h3
    obtain ⟨q1, q2⟩ := hW.add (w' := w.alloc (.map #[] 0)) k hk (.map [] 0) 0 rfl rfl rfl (by rw [size_alloc]; exact Nat.le_succ _) (fun b hb => heap_alloc_lt w _ hb) ⟨rfl, #[], heap_alloc_new w _, rfl, fun j e x he => by simp at he⟩ (upd h k (some (.map [] 0))) (upd_same ..) (fun k' o hne hk' => by rw [upd_ne _ _ hne] at hk'; exact hk')
    refine ⟨.map (some w.heap.size), _, _, ?_, q2, .leaf (VL.mp (G := G.put k ⟨w.heap.size, 0, 0⟩) (p := ⟨w.heap.size, 0, 0⟩) (Gg.put_at ..)), q1⟩
    unfold execOp
    simp only [hop, Option.map_none, Sem.run_bind, run_makeMap, Result.andThen_ok, Sem.run_pure]
  case h_21 =>
    exfalso
    unfold lookupE at ho
    repeat' (first | split at ho | (cases ho; done))
  case h_22 =>
    exfalso
    unfold updateE at ho
    repeat' (first | split at ho | (cases ho; done))
  case h_23 =>
    exfalso
    unfold entryE at ho
    repeat' (first | split at ho | (cases ho; done))
  case h_24 =>
    exfalso
    unfold entryStoreE at ho
    repeat' (first | split at ho | (cases ho; done))
  case h_25 =>
    exfalso
    unfold funcE at ho
    repeat' (first | split at ho | (cases ho; done))
  case h_27 =>
    exfalso
    split at ho
    · unfold bytesE at ho
      split at ho <;> cases ho
    · unfold bytesNoneE at ho
      split at ho <;> cases ho
    · unfold bytesNoneE at ho
      split at ho <;> cases ho
    · exact nodeleg ho
  case h_28 => rcases extE_form (P := P) o ρE with ⟨_, _, e⟩ | e <;> (rw [e] at ho; cases ho)
end
end Go.Proofs.YtdbaklnjemcfgaaGreatDoor.E
namespace Go.Proofs.YtdbaklnjemcfgaaGreatDoor.E
open Go.RowKit Go.Proofs.YtdbaklnjemcfgaaGreatDoor.Mem Go.Proofs.YtdbaklnjemcfgaaGreatDoor.D
set_option linter.unusedVariables false
set_option linter.unusedSimpArgs false

section
variable {P : Program} {G G' : Gg} {w w' w0 : World} {T R : Nat → Prop} {h : Hp}

theorem nodeleg {o : Oper} {ρ : Operand → EV} {x : OutE} (hd : delegD P o ρ = x) : x = .bad ∨ ∃ c d, x = .val c d := by
  unfold delegD at hd
  split at hd
  · exact .inr ⟨_, _, hd.symm⟩
  · exact .inl hd.symm

theorem look_sound (hW : WE T w0 R G h w) {o : Oper} {ρ : Operand → Value} {ρE : Operand → EV} {k : Nat} {r : EO → EV → Prop} (hρ : ∀ x, VV G (ρ x) (ρE x)) (ho : opE P o ρE = .look k r) {ob : EO} {d : EV} (hk : h k = some ob) (hr : r ob d) :
    ∃ v, (execOp ρ o).run P w = .ok (.value v) w ∧ VV G v d := by
  have nd : delegD P o ρE ≠ .look k r := fun hd => by rcases nodeleg hd with h | ⟨_, _, h⟩ <;> cases h
  unfold opE at ho
  split at ho <;> rename_i hop <;> (try (cases ho; done)) <;> (try (exact absurd ho nd))
  case h_3 => split at ho <;> cases ho
  case h_4 => split at ho <;> cases ho
  case h_5 =>
    exfalso
    repeat' (first | split at ho | (cases ho; done))
  case h_6 =>
    exfalso
    unfold buildE at ho
    repeat' (first | split at ho | (cases ho; done))
  case h_7 =>
    exfalso
    unfold buildSliceE at ho
    repeat' (first | split at ho | (cases ho; done))
  case h_8 =>
    exfalso
    unfold makeSliceE at ho
    repeat' (first | split at ho | (cases ho; done))
  case h_9 t a =>
    split at ho
    · rename_i k' off ha
      have hv := hρ a
      rw [ha] at hv
      obtain ⟨v, hr', hvv⟩ := load_runE (P := P) hW hv ho hk hr
      exact ⟨v, by unfold execOp; simp only [hop, Sem.run_bind, hr', Result.andThen_ok, Sem.run_pure], hvv⟩
    · exact absurd ho nd
  case h_10 =>
    split at ho
    · exfalso
      unfold storeE at ho
      repeat' (first | split at ho | (cases ho; done))
    · cases ho
  case h_11 =>
    split at ho
    · cases ho
    · cases ho
    · cases ho
    · exact absurd ho nd
  case h_12 =>
    unfold binE at ho
    split at ho
    · split at ho
      · cases ho
      · exact absurd ho nd
    · split at ho
      · cases ho
      · exact absurd ho nd
    · exact absurd ho nd
  case h_13 t x lo hi mx =>
    split at ho
    · exfalso
      unfold sliceE at ho
      repeat' (first | split at ho | (cases ho; done))
    · exfalso
      unfold sliceNoneE at ho
      repeat' (first | split at ho | (cases ho; done))
    · rename_i k' off' hx
      split at ho
      · have hv := hρ x
        rw [hx] at hv
        obtain ⟨v, hr', hvv⟩ := sliceArr_run (P := P) hW hv ho hk hr
        exact ⟨v, by unfold execOp; simp only [hop, Option.map_none, Sem.run_bind, hr', Result.andThen_ok, Sem.run_pure], hvv⟩
      · cases ho
    · split at ho
      · exact absurd ho nd
      · exfalso
        unfold sliceNoneE at ho
        repeat' (first | split at ho | (cases ho; done))
  case h_14 =>
    split at ho
    · exfalso
      unfold fieldAddrE at ho
      repeat' (first | split at ho | (cases ho; done))
    · exact absurd ho nd
  case h_15 =>
    exfalso
    unfold fieldE at ho
    repeat' (first | split at ho | (cases ho; done))
  case h_16 =>
    split at ho
    · exact absurd ho nd
    · exfalso
      unfold indexAddrE at ho
      repeat' (first | split at ho | (cases ho; done))
  case h_17 =>
    split at ho
    · exfalso
      unfold indexE at ho
      repeat' (first | split at ho | (cases ho; done))
    · exact absurd ho nd
  case h_18 =>
    exfalso
    repeat' (first | split at ho | (cases ho; done))
  case h_19 cl =>
    unfold callE at ho
    split at ho
    · rename_i hcal
      split at ho
      · rename_i x hargs
        have e1 : cl.args = #[x] := by rw [← Array.toArray_toList (xs := cl.args), hargs]
        unfold lenE at ho
        split at ho
        · rename_i t ht
          have e2 : cl.argTypes = #[t] := by rw [← Array.toArray_toList (xs := cl.argTypes), ht]
          split at ho <;> (try (cases ho; done)) <;> (try (exact absurd ho nd))
          rename_i e f k' hu hx
          injection ho with h1 h2
          subst h1 h2
          obtain ⟨es, clk, rfl, rfl⟩ := hr
          have hv := hρ x
          rw [hx] at hv
          generalize hvx : ρ x = vx at hv
          cases hv.leaf' rfl with
          | mp hp =>
            rename_i p
            obtain ⟨h0, ents, q1, q2, q3⟩ := (hW.at' hk hp).2
            refine ⟨.int .i64 es.length, ?_, VV.er rfl⟩
            unfold execOp
            simp only [hop, resolve, hcal, e1, e2, Sem.run_bind, Sem.run_pure, Result.andThen_ok, invoke, builtin, List.map_toArray, List.map_cons, List.map_nil, hvx]
            simp [Builtin.len_, run_under hu, Go.MapKept.run_getObj_map q1, hvx, goInt, q2]
        · cases ho
      · cases ho
    · exfalso
      split at ho
      · unfold appendE at ho
        repeat' (first | split at ho | (cases ho; done) | unfold appZeroE at ho)
      · cases ho
    · exfalso
      split at ho
      · unfold mmE at ho
        repeat' (first | split at ho | (cases ho; done))
      · cases ho
    · exfalso
      split at ho
      · unfold mmE at ho
        repeat' (first | split at ho | (cases ho; done))
      · cases ho
    · exfalso
      split at ho
      · split at ho <;> cases ho
      · cases ho
      · cases ho
      · cases ho
    · rcases extC_form (P := P) _ ρE with ⟨_, _, e⟩ | ⟨_, e⟩ | ⟨_, _, e⟩ | e <;> (rw [e] at ho; cases ho)
  case h_21 t m kk ok =>
    obtain ⟨v, hr', hvv⟩ := lookup_look (P := P) hW (hρ m) (hρ kk) ho hk hr
    exact ⟨v, by unfold execOp; simp only [hop, Sem.run_bind, hr', Result.andThen_ok, Sem.run_pure], hvv⟩
  case h_22 =>
    exfalso
    unfold updateE at ho
    repeat' (first | split at ho | (cases ho; done))
  case h_23 =>
    exfalso
    unfold entryE at ho
    repeat' (first | split at ho | (cases ho; done))
  case h_24 =>
    exfalso
    unfold entryStoreE at ho
    repeat' (first | split at ho | (cases ho; done))
  case h_25 =>
    exfalso
    unfold funcE at ho
    repeat' (first | split at ho | (cases ho; done))
  case h_27 src dst x =>
    split at ho
    · rename_i k' off len cap n ex hx
      have hv := hρ x
      rw [hx] at hv
      obtain ⟨v, hr', hvv⟩ := bytes_run (P := P) hW hv ho hk hr
      exact ⟨v, by unfold execOp; simp only [hop, Sem.run_bind, hr', Result.andThen_ok, Sem.run_pure], hvv⟩
    · unfold bytesNoneE at ho
      split at ho <;> cases ho
    · unfold bytesNoneE at ho
      split at ho <;> cases ho
    · exact absurd ho nd
  case h_28 => rcases extE_form (P := P) o ρE with ⟨_, _, e⟩ | e <;> (rw [e] at ho; cases ho)

theorem call_args {G : Gg} {args : Array Operand} {ρ : Operand → Value} {ρE : Operand → EV} (hρ : ∀ x, VV G (ρ x) (ρE x)) : ∀ (j : Nat) v d, (args.map ρ)[j]? = some v → (args.toList.map ρE)[j]? = some d → VV G v d := by
  intro j v d hv hd
  rw [Array.getElem?_map] at hv
  rw [List.getElem?_map, Array.getElem?_toList] at hd
  cases hq : args[j]? with
  | none => rw [hq] at hv; cases hv
  | some x =>
    rw [hq] at hv hd
    simp only [Option.map_some, Option.some.injEq] at hv hd
    subst hv hd
    exact hρ x

/-- A change of memory, in the model. -/
theorem eff_sound (hW : WE T w0 R G h w) {n n' : Nat} (hR : ∀ k, n ≤ k → R k) {o : Oper} {a : Act} {ρE : Operand → EV} (hρ : ∀ x, VV G (a.eval x) (ρE x)) {d : EV} {h' : Hp} (he : Eff P (opE P o ρE) h n d h' n') {next : Act → World → Prop} {Q : Exit → Act → World → Prop}
    (hK : ∀ v G' w', G.le (fun k => n ≤ k ∧ k < n') G' → VV G' v d → WE T w0 (fun k => R k ∧ ¬ (n ≤ k ∧ k < n')) G' h' w' → next (a.put o.dst v) w') : n ≤ n' ∧ o.wp P a w next Q := by
  unfold Oper.wp
  have skip : ∀ {w' : World}, (execOp a.eval o).run P w = .ok .skip w' → d = er undef → n' = n → WE T w0 R G h' w' → n ≤ n' ∧ o.upon P a next Q ((execOp a.eval o).run P w) := by
    intro w' hr hd hn hWE
    subst hd hn
    rw [hr]
    exact ⟨Nat.le_refl _, hK undef G w' (Gg.le_refl _ _) (VV.er rfl) (hWE.sub (fun _ _ h => h) (fun k hk => hk.1))⟩
  have call : ∀ (f : FuncId) (vs : Array Value) (args : List EV), CallE P f args h n d h' n' → (∀ (hf : ∃ fn, P.funcs[f]? = some fn ∧ (fn.name == "runtime.NumGoroutine") = false ∧ fn.body.isNone = false), (execOp a.eval o).run P w = .ok (.enter f vs) w) → vs.size = args.length → (∀ (j : Nat) x y, vs[j]? = some x → args[j]? = some y → VV G x y) → n ≤ n' ∧ o.upon P a next Q ((execOp a.eval o).run P w) := by
    intro f vs args hc hr hn hv
    refine ⟨hc.1, ?_⟩
    rw [hr hc.2.1]
    show Calls P f vs w _
    refine (hc.2.2 T w0 R G w vs hW hR hn hv).mono ?_
    rintro e w' ⟨v, G', rfl, h1, h2, h3⟩
    exact hK v G' w' h1 h2 h3
  have nd : ∀ {h1 h2 : Hp} {n1 n2 : Nat} {d : EV}, ¬ Eff P (delegD P o ρE) h1 n1 d h2 n2 := by
    intro h1 h2 n1 n2 d hd
    rcases nodeleg (x := delegD P o ρE) rfl with q | ⟨_, _, q⟩ <;> (rw [q] at hd; exact hd)
  unfold opE at he
  split at he <;> rename_i hop
  case h_1 => exact he.elim
  case h_2 => exact he.elim
  case h_3 => split at he <;> exact he.elim
  case h_4 => split at he <;> exact he.elim
  case h_5 => repeat' (first | split at he | exact he.elim)
  case h_6 => unfold buildE at he; repeat' (first | split at he | exact he.elim)
  case h_7 => unfold buildSliceE at he; repeat' (first | split at he | exact he.elim)
  case h_8 => unfold makeSliceE at he; repeat' (first | split at he | exact he.elim)
  case h_9 =>
    split at he
    · unfold loadE at he; repeat' (first | split at he | exact he.elim)
    · exact (nd he).elim
  case h_10 t x v =>
    split at he
    · rename_i k off ha
      have hv := hρ x
      rw [ha] at hv
      cases hs : storeE P t k off (ρE v) with
      | eff r =>
        rw [hs] at he
        obtain ⟨w', hr, q1, q2, q3, _⟩ := store_runE (P := P) hW hv (hρ v) hs he
        exact skip (by unfold execOp; simp only [hop, Sem.run_bind, hr, Result.andThen_ok, Sem.run_pure]) q1 q2 q3
      | _ => rw [hs] at he; first | exact he.elim | (exfalso; unfold storeE at hs; repeat' (first | split at hs | (cases hs; done)))
    · exact he.elim
  case h_11 =>
    split at he
    · exact he.elim
    · exact he.elim
    · exact he.elim
    · exact (nd he).elim
  case h_12 =>
    unfold binE at he
    split at he
    · split at he
      · exact he.elim
      · exact (nd he).elim
    · split at he
      · exact he.elim
      · exact (nd he).elim
    · exact (nd he).elim
  case h_13 =>
    split at he
    · unfold sliceE at he; repeat' (first | split at he | exact he.elim)
    · unfold sliceNoneE at he; repeat' (first | split at he | exact he.elim)
    · split at he
      · unfold sliceArrE at he; repeat' (first | split at he | exact he.elim)
      · exact he.elim
    · split at he
      · exact (nd he).elim
      · unfold sliceNoneE at he; repeat' (first | split at he | exact he.elim)
  case h_14 =>
    split at he
    · unfold fieldAddrE at he; repeat' (first | split at he | exact he.elim)
    · exact (nd he).elim
  case h_15 => unfold fieldE at he; repeat' (first | split at he | exact he.elim)
  case h_16 =>
    split at he
    · exact (nd he).elim
    · unfold indexAddrE at he; repeat' (first | split at he | exact he.elim)
  case h_17 =>
    split at he
    · unfold indexE at he; repeat' (first | split at he | exact he.elim)
    · exact (nd he).elim
  case h_18 => repeat' (first | split at he | exact he.elim)
  case h_19 cl =>
    unfold callE at he
    split at he
    · split at he
      · unfold lenE at he
        split at he
        · split at he <;> first | exact he.elim | exact (nd he).elim
        · exact he.elim
      · exact he.elim
    · rename_i hcal
      split at he
      · rename_i s x hargs
        have e1 : cl.args = #[s, x] := by rw [← Array.toArray_toList (xs := cl.args), hargs]
        cases hs : appendE P cl (ρE s) (ρE x) with
        | eff r =>
          rw [hs] at he
          obtain ⟨t, tx, e2, v, w', G', hr, hnn, hle, hvv, hWE⟩ := append_eff (P := P) (ty := o.type) hW hR hs he (hρ s) (hρ x)
          refine ⟨hnn, ?_⟩
          have : (execOp a.eval o).run P w = .ok (.value v) w' := by
            unfold execOp
            simp only [hop, resolve, hcal, e1, e2, Sem.run_bind, Sem.run_pure, Result.andThen_ok, invoke, builtin, List.map_toArray, List.map_cons, List.map_nil, hr]
          rw [this]
          exact hK v G' w' hle hvv hWE
        | _ => rw [hs] at he; first | exact he.elim | (exfalso; unfold appendE at hs; repeat' (first | split at hs | (cases hs; done) | unfold appZeroE at hs))
      · exact he.elim
    · split at he
      · unfold mmE at he
        repeat' (first | split at he | exact he.elim)
      · exact he.elim
    · split at he
      · unfold mmE at he
        repeat' (first | split at he | exact he.elim)
      · exact he.elim
    · rename_i fx hcal
      split at he
      · rename_i f' first captured hfx
        split at he
        · rename_i hok
          simp only [Bool.and_eq_true, Array.isEmpty_iff] at hok
          obtain ⟨rfl, rfl⟩ := hok
          have hfv := hρ fx
          rw [hfx] at hfv
          have hfv' := hfv.raw
          refine call f' (cl.args.map a.eval) _ he (fun hf => ?_) (by simp) (call_args hρ)
          obtain ⟨fn, q1, q2, q3⟩ := hf
          unfold execOp
          simp only [hop, resolve, hcal, hfv', Deferred.ofValue, Sem.run_bind, Sem.run_pure, Result.andThen_ok, invoke, callFunc, run_program, q1, q2, q3, Bool.false_eq_true, if_false, Array.append_empty, Array.empty_append]
        · exact he.elim
      · rename_i f' caps hfx
        have hfv := hρ fx
        rw [hfx] at hfv
        generalize hvx : a.eval fx = vx at hfv
        cases hfv.leaf' rfl with
        | clo _ hn hcap =>
          rename_i cs
          refine call f' (cl.args.map a.eval ++ cs) _ he (fun hf => ?_) (by simp [hn]) (fun j v d hv hd => ?_)
          · obtain ⟨fn, q1, q2, q3⟩ := hf
            unfold execOp
            simp only [hop, resolve, hcal, hvx, Deferred.ofValue, Sem.run_bind, Sem.run_pure, Result.andThen_ok, invoke, callFunc, run_program, q1, q2, q3, Bool.false_eq_true, if_false, Array.append_empty, Array.empty_append]
          · by_cases hj : j < cl.args.size
            · rw [Array.getElem?_append_left (by simpa using hj)] at hv
              rw [List.getElem?_append_left (by simpa using hj)] at hd
              exact call_args hρ j v d hv hd
            · rw [Array.getElem?_append_right (by simpa using hj)] at hv
              rw [List.getElem?_append_right (by simpa using hj)] at hd
              simp only [Array.size_map, List.length_map, Array.length_toList] at hv hd
              exact .leaf (hcap _ v d hv hd)
      · rename_i f' caps hfx
        have hfv := hρ fx
        rw [hfx] at hfv
        generalize hvx : a.eval fx = vx at hfv
        cases hfv.leaf' rfl with
        | bnd _ hn hcap =>
          rename_i cs
          refine call f' (cs ++ cl.args.map a.eval) _ he (fun hf => ?_) (by simp [hn]) (fun j v d hv hd => ?_)
          · obtain ⟨fn, q1, q2, q3⟩ := hf
            unfold execOp
            simp only [hop, resolve, hcal, hvx, Deferred.ofValue, Sem.run_bind, Sem.run_pure, Result.andThen_ok, invoke, callFunc, run_program, q1, q2, q3, Bool.false_eq_true, if_false, Array.append_empty, Array.empty_append]
          · by_cases hj : j < cs.size
            · rw [Array.getElem?_append_left hj] at hv
              rw [List.getElem?_append_left (by rw [← hn]; exact hj)] at hd
              exact .leaf (hcap _ v d hv hd)
            · rw [Array.getElem?_append_right (by omega)] at hv
              rw [List.getElem?_append_right (by rw [← hn]; omega), ← hn] at hd
              exact call_args hρ _ v d hv hd
      · exact he.elim
    · cases hs : extC P cl ρE with
      | eff r =>
        rw [hs] at he
        obtain ⟨v, w', hr, hvv, rfl, hWE⟩ := extC_eff (P := P) hW hρ hop hs he
        rw [hr]
        exact ⟨Nat.le_refl _, hK v G w' (Gg.le_refl _ _) hvv (hWE.sub (fun _ _ h => h) (fun k hk => hk.1))⟩
      | call f args =>
        rw [hs] at he
        obtain ⟨vs, q1, q2, q3⟩ := extC_call (P := P) (w := w) hρ hop hs
        exact call f vs args he q1 q2 q3
      | _ => rw [hs] at he; exact he.elim
  case h_20 => exact he.elim
  case h_21 => unfold lookupE at he; repeat' (first | split at he | exact he.elim)
  case h_22 t m k x =>
    cases hs : updateE P t (ρE m) (ρE k) (ρE x) with
    | eff r =>
      rw [hs] at he
      obtain ⟨w', hr, q1, q2, q3, _⟩ := update_run (P := P) hW (hρ m) (hρ k) (hρ x) hs he
      exact skip (by unfold execOp; simp only [hop, Sem.run_bind, hr, Result.andThen_ok, Sem.run_pure]) q1 q2 q3
    | _ => rw [hs] at he; first | exact he.elim | (exfalso; unfold updateE at hs; repeat' (first | split at hs | (cases hs; done)))
  case h_23 t m k =>
    cases hs : entryE P t (ρE m) (ρE k) with
    | eff r =>
      rw [hs] at he
      obtain ⟨v, w', hr, q1, q2, q3, _⟩ := entry_run (P := P) hW (hρ m) (hρ k) hs he
      subst q2
      have : (execOp a.eval o).run P w = .ok (.value v) w' := by
        unfold execOp
        simp only [hop, Sem.run_bind, hr, Result.andThen_ok, Sem.run_pure]
      rw [this]
      exact ⟨Nat.le_refl _, hK v G w' (Gg.le_refl _ _) q1 (q3.sub (fun _ _ h => h) (fun k hk => hk.1))⟩
    | _ => rw [hs] at he; first | exact he.elim | (exfalso; unfold entryE at hs; repeat' (first | split at hs | (cases hs; done)))
  case h_24 t m st x =>
    cases hs : entryStoreE (ρE m) (ρE st) (ρE x) with
    | eff r =>
      rw [hs] at he
      obtain ⟨w', hr, q1, q2, q3, _⟩ := entryStore_run (P := P) (t := t) hW (hρ m) (hρ st) (hρ x) hs he
      exact skip (by unfold execOp; simp only [hop, Sem.run_bind, hr, Result.andThen_ok, Sem.run_pure]) q1 q2 q3
    | _ => rw [hs] at he; first | exact he.elim | (exfalso; unfold entryStoreE at hs; repeat' (first | split at hs | (cases hs; done)))
  case h_25 => unfold funcE at he; repeat' (first | split at he | exact he.elim)
  case h_26 => exact (nd he).elim
  case h_27 =>
    split at he
    · unfold bytesE at he; repeat' (first | split at he | exact he.elim)
    · unfold bytesNoneE at he; repeat' (first | split at he | exact he.elim)
    · unfold bytesNoneE at he; repeat' (first | split at he | exact he.elim)
    · exact (nd he).elim
  case h_28 => rcases extE_form (P := P) o ρE with ⟨_, _, e⟩ | e <;> (rw [e] at he; exact he.elim)

/-- Memory of which a part has changed, all other standing. -/
def merge (h hf hf' : Hp) (n n' : Nat) : Hp := fun k => if (hf k).isSome || (decide (n ≤ k) && decide (k < n')) then hf' k else h k
theorem WE.merge (hW : WE T w0 R G h w) {hf hf' : Hp} {n n' : Nat} (hsub : ∀ k o, hf k = some o → h k = some o) (hR : ∀ k, n ≤ k → R k) {R' : Nat → Prop} (hle : G.le (fun k => n ≤ k ∧ k < n') G')
    (hW' : WE (fun b => ∃ k o p, hf k = some o ∧ G.pl k = some p ∧ p.b = b) w R' G' hf' w') : WE T w0 R' G' (E.merge h hf hf' n n') w' := by
  have hT : ∀ b, (∃ k o p, hf k = some o ∧ G.pl k = some p ∧ p.b = b) → T b ∨ w0.heap.size ≤ b := by
    rintro b ⟨k, o, p, h1, h2, rfl⟩
    exact (hW.at' (hsub k o h1) h2).1
  have hother : ∀ {k : Nat} {o : EO} {p : Pl}, h k = some o → hf k = none → G.pl k = some p → ¬ ∃ k' o' p', hf k' = some o' ∧ G.pl k' = some p' ∧ p'.b = p.b := by
    rintro k o p hk hn hp ⟨k', o', p', h1, h2, h3⟩
    refine hW.apart k' k o' o p' p (hsub k' o' h1) hk (fun e => ?_) h2 hp h3
    subst e
    rw [h1] at hn
    cases hn
  have hold : ∀ {k : Nat} {o : EO}, ¬ ((hf k).isSome || (decide (n ≤ k) && decide (k < n'))) = true → h k = some o → hf k = none ∧ ∃ p, G.pl k = some p ∧ G'.pl k = some p := by
    intro k o hm hk
    simp only [Bool.or_eq_true, Bool.and_eq_true, decide_eq_true_eq, not_or] at hm
    obtain ⟨p, hp, _, _⟩ := hW.obj k o hk
    exact ⟨by simpa using hm.1, p, hp, hle.pl k p hp⟩
  have hplace : ∀ {k : Nat} {o : EO} {p : Pl}, hf' k = some o → G'.pl k = some p → (∃ k' o' p', hf k' = some o' ∧ G.pl k' = some p' ∧ p'.b = p.b) ∨ w.heap.size ≤ p.b := fun hk hp => (hW'.at' hk hp).1
  refine ⟨hW.chg.trans hW'.chg hT, hW'.facts, ?_, ?_, ?_, hW'.fresh, hW'.base⟩
  · intro k o hk
    unfold E.merge at hk
    split at hk
    · obtain ⟨p, hp, h1, h2⟩ := hW'.obj k o hk
      refine ⟨p, hp, ?_, h2⟩
      rcases h1 with h1 | h1
      · exact hT _ h1
      · exact .inr (Nat.le_trans hW.chg.size h1)
    · rename_i hm
      obtain ⟨hn, p, hp, hp'⟩ := hold hm hk
      obtain ⟨q1, q2⟩ := hW.at' hk hp
      exact ⟨p, hp', q1, q2.mono hle (hW'.chg.block _ q2.lt (hother hk hn hp))⟩
  · intro k o p hk hp
    unfold E.merge at hk
    split at hk
    · exact hW'.noF k o p hk hp
    · rename_i hm
      obtain ⟨hn, p', hp0, hp'⟩ := hold hm hk
      rw [hp] at hp'
      injection hp' with hp'
      subst hp'
      rw [hle.F]
      exact hW.noF k o p hk hp0
  · intro k k' o o' p p' hk hk' hne hp hp'
    unfold E.merge at hk hk'
    split at hk <;> split at hk'
    · exact hW'.apart k k' o o' p p' hk hk' hne hp hp'
    · rename_i hm'
      obtain ⟨hn, q, hq0, hq'⟩ := hold hm' hk'
      rw [hp'] at hq'
      injection hq' with hq'
      subst hq'
      intro e
      rcases hplace hk hp with h1 | h1
      · rw [e] at h1; exact hother hk' hn hq0 h1
      · have := hW.lt hk' hq0; omega
    · rename_i hm _
      obtain ⟨hn, q, hq0, hq'⟩ := hold hm hk
      rw [hp] at hq'
      injection hq' with hq'
      subst hq'
      intro e
      rcases hplace hk' hp' with h1 | h1
      · rw [← e] at h1; exact hother hk hn hq0 h1
      · have := hW.lt hk hq0; omega
    · rename_i hm hm'
      obtain ⟨_, q, hq0, hq'⟩ := hold hm hk
      obtain ⟨_, q2, hq2, hq3⟩ := hold hm' hk'
      rw [hp] at hq'
      rw [hp'] at hq3
      injection hq' with hq'
      injection hq3 with hq3
      subst hq' hq3
      exact hW.apart k k' o o' p p' hk hk' hne hq0 hq2
/-- A part of memory, in a world of its own. -/
theorem WE.part (hW : WE T w0 R G h w) {hf : Hp} (hsub : ∀ k o, hf k = some o → h k = some o) : WE (fun b => ∃ k o p, hf k = some o ∧ G.pl k = some p ∧ p.b = b) w R G hf w where
  chg := Chg.refl _ w
  facts := hW.facts
  obj := fun k o hk => by
    obtain ⟨p, hp, _, h2⟩ := hW.obj k o (hsub k o hk)
    exact ⟨p, hp, .inl ⟨k, o, p, hk, hp, rfl⟩, h2⟩
  noF := fun k o p hk => hW.noF k o p (hsub k o hk)
  apart := fun k k' o o' p p' hk hk' => hW.apart k k' o o' p p' (hsub k o hk) (hsub k' o' hk')
  fresh := hW.fresh
  base := hW.base
end
end Go.Proofs.YtdbaklnjemcfgaaGreatDoor.E
