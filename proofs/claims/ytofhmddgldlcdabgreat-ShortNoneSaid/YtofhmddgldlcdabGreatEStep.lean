/- What one operation does in the model, by its kind: what only yields, what makes memory, what reads it, what changes it. Conditions: none. -/
import Derived.Test.YtofhmddgldlcdabGreatEMap
import Derived.Orders
namespace Go.Proofs.YtofhmddgldlcdabGreat.E
open Go.RowKit Go.Proofs.YtofhmddgldlcdabGreat.Mem Go.Proofs.YtofhmddgldlcdabGreat.D
set_option linter.unusedVariables false
set_option linter.unusedSimpArgs false

section
variable {P : Program} {G G' : Gg} {w w' w0 : World} {T R : Nat → Prop} {h : Hp}

theorem deleg_val {o : Oper} {ρ : Operand → EV} {x : OutE} (h : delegD P o ρ = x) (hx : ∀ c d, x ≠ .val c d) : x = .bad := by
  unfold delegD at h
  split at h
  · exact absurd h.symm (hx _ _)
  · exact h.symm

theorem lenE_val {o : Oper} {cl : Call} {x : Operand} {ρ : Operand → Value} {ρE : Operand → EV} (hF : G.F.ok w) (hρ : ∀ x, VV G (ρ x) (ρE x)) (hop : o.op = .call cl) (hcal : cl.callee = .builtin .len) (hargs : cl.args.toList = [x]) {c : Prop} {d : EV} (h : lenE P o ρE cl (ρE x) = .val c d) (hc : c) :
    ∃ v, (execOp ρ o).run P w = .ok (.value v) w ∧ VV G v d := by
  unfold lenE at h
  have e1 : cl.args = #[x] := by rw [← Array.toArray_toList (xs := cl.args), hargs]
  split at h
  · rename_i t ht
    have e2 : cl.argTypes = #[t] := by rw [← Array.toArray_toList (xs := cl.argTypes), ht]
    have fin : ∀ (n : Nat) (v : Value), ρ x = v → (Builtin.len_ #[t] o.type #[v]).run P w = .ok (.int .i64 n) w → ∃ v, (execOp ρ o).run P w = .ok (.value v) w ∧ VV G v (er (.int .i64 n)) := fun n v hv hr => by
      refine ⟨.int .i64 n, ?_, VV.er rfl⟩
      unfold execOp
      simp only [hop, resolve, hcal, e1, e2, Sem.run_bind, Sem.run_pure, Result.andThen_ok, invoke, builtin, List.map_toArray, List.map_cons, List.map_nil, hv, hr]
    split at h
    · rename_i e k off len cap n ex hu hx
      injection h with h1 h2; subst h1 h2
      have hv := hρ x
      rw [hx] at hv
      generalize hvx : ρ x = vx at hv
      cases hv.leaf' rfl with
      | sl => exact fin len _ hvx (by simp [Builtin.len_, run_under hu, goInt])
    · rename_i e hu hx
      injection h with h1 h2; subst h1 h2
      have hv := hρ x
      rw [hx] at hv
      generalize hvx : ρ x = vx at hv
      cases hv.leaf' rfl with
      | emp A => exact fin 0 _ hvx (by simp [Builtin.len_, run_under hu, goInt])
    · rename_i e hu hx
      injection h with h1 h2; subst h1 h2
      have hv := hρ x
      rw [hx] at hv
      exact fin 0 _ hv.raw (by simp [Builtin.len_, run_under hu, goInt])
    · rename_i e f hu hx
      injection h with h1 h2; subst h1 h2
      have hv := hρ x
      rw [hx] at hv
      exact fin 0 _ hv.raw (by simp [Builtin.len_, run_under hu, goInt])
    · cases h
    · exact deleg_sound hF hρ h hc
  · cases h

theorem val_soundE {o : Oper} {ρ : Operand → Value} {ρE : Operand → EV} {c : Prop} {d : EV} (hF : G.F.ok w) (hρ : ∀ x, VV G (ρ x) (ρE x)) (h : opE P o ρE = .val c d) (hc : c) :
    ∃ v, (execOp ρ o).run P w = .ok (.value v) w ∧ VV G v d := by
  have dg : ∀ {c : Prop} {d : EV}, delegD P o ρE = .val c d → c → ∃ v, (execOp ρ o).run P w = .ok (.value v) w ∧ VV G v d := fun h hc => deleg_sound hF hρ h hc
  unfold opE at h
  split at h <;> rename_i hop
  case h_1 => injection h with h1 h2; subst h1 h2; exact ⟨_, by unfold execOp; simp only [hop]; rfl, hρ _⟩
  case h_2 => injection h with h1 h2; subst h1 h2; exact ⟨_, by unfold execOp; simp only [hop]; rfl, hρ _⟩
  case h_3 c0 a0 b0 =>
    split at h
    · rename_i t ht
      injection h with h1 h2; subst h1 h2
      have hb := hρ c0
      rw [ht] at hb
      have hb' := hb.raw
      refine ⟨if t then ρ a0 else ρ b0, ?_, ?_⟩
      · unfold execOp; simp only [hop, hb', Sem.run_bind, asBool, Sem.run_pure, Result.andThen_ok]
      · cases t
        · exact hρ b0
        · exact hρ a0
    · cases h
  case h_4 => split at h <;> cases h
  case h_5 =>
    split at h
    · split at h <;> cases h
    · cases h
  case h_6 =>
    obtain ⟨v, hv, hr⟩ := buildE_sound (P := P) (w := w) hρ _ h hc
    exact ⟨v, by unfold execOp; simp only [hop, Sem.run_bind, hv, Result.andThen_ok, Sem.run_pure], hr⟩
  case h_7 =>
    exfalso
    unfold buildSliceE at h
    repeat' (first | split at h | (cases h; done))
  case h_8 =>
    exfalso
    unfold makeSliceE at h
    repeat' (first | split at h | (cases h; done))
  case h_9 =>
    split at h
    · exfalso
      unfold loadE at h
      repeat' (first | split at h | (cases h; done))
    · exact dg h hc
  case h_10 =>
    exfalso
    split at h
    · unfold storeE at h
      repeat' (first | split at h | (cases h; done))
    · cases h
  case h_11 x =>
    split at h
    · rename_i k off hx
      injection h with h1 h2; subst h1 h2
      have hv := hρ x
      rw [hx] at hv
      refine ⟨ρ x, ?_, hv⟩
      generalize hvx : ρ x = v at hv
      cases hv.leaf' rfl with
      | ptr => unfold execOp; simp only [hop, hvx]; rfl
    · rename_i f caps hx
      injection h with h1 h2; subst h1 h2
      have hv := hρ x
      rw [hx] at hv
      refine ⟨ρ x, ?_, hv⟩
      generalize hvx : ρ x = v at hv ⊢
      cases hv.leaf' rfl with
      | clo => unfold execOp; simp only [hop, hvx]; rfl
    · exact dg h hc
  case h_12 op t x y yt =>
    unfold binE at h
    split at h
    · split at h
      · rename_i b hb
        injection h with h1 h2; subst h1 h2
        obtain ⟨p, q, hp, hq, hor, rfl⟩ := eqNil_cases hb
        have hx := nilK_v (hρ x) hp
        have hy := nilK_v (hρ y) hq
        refine ⟨.bool (p == q), ?_, VV.er rfl⟩
        unfold execOp
        simp only [hop, Sem.run_bind, guard_leaf _ _ _ _ _ _ (nilV_op hx).1 (nilV_op hx).2, Result.andThen_ok, nilV_eql hx, nilV_eq hx hy hor, Sem.run_pure]
      · exact dg h hc
    · split at h
      · rename_i b hb
        injection h with h1 h2; subst h1 h2
        obtain ⟨p, q, hp, hq, hor, rfl⟩ := eqNil_cases hb
        have hx := nilK_v (hρ x) hp
        have hy := nilK_v (hρ y) hq
        refine ⟨.bool (!(p == q)), ?_, VV.er rfl⟩
        unfold execOp
        simp only [hop, Sem.run_bind, guard_leaf _ _ _ _ _ _ (nilV_op hx).1 (nilV_op hx).2, Result.andThen_ok, nilV_neq hx, nilV_eq hx hy hor, Sem.run_pure]
      · exact dg h hc
    · exact dg h hc
  case h_13 t x lo hi mx =>
    split at h
    · rename_i k off len cap n ex hx
      have hv := hρ x
      rw [hx] at hv
      obtain ⟨v, hr, hvv⟩ := sliceE_sound (P := P) (w := w) hρ hv h hc
      exact ⟨v, by unfold execOp; simp only [hop, Sem.run_bind, hr, Result.andThen_ok, Sem.run_pure], hvv⟩
    · rename_i hx
      have hv := hρ x
      rw [hx] at hv
      obtain ⟨v, hr, hvv⟩ := sliceNoneE_sound (P := P) (w := w) hρ hv h hc
      exact ⟨v, by unfold execOp; simp only [hop, Sem.run_bind, hr, Result.andThen_ok, Sem.run_pure], hvv⟩
    · split at h
      · exact dg h hc
      · obtain ⟨v, hr, hvv⟩ := sliceNoneE_sound (P := P) (w := w) hρ (hρ x) h hc
        exact ⟨v, by unfold execOp; simp only [hop, Sem.run_bind, hr, Result.andThen_ok, Sem.run_pure], hvv⟩
  case h_14 t x f =>
    split at h
    · rename_i k off hx
      have hv := hρ x
      rw [hx] at hv
      obtain ⟨v, hr, hvv⟩ := fieldAddrE_sound (P := P) (w := w) hv h hc
      exact ⟨v, by unfold execOp; simp only [hop, Sem.run_bind, hr, Result.andThen_ok, Sem.run_pure], hvv⟩
    · exact dg h hc
  case h_15 t x f =>
    obtain ⟨v, hr, hvv⟩ := fieldE_sound (P := P) (w := w) (hρ x) h hc
    exact ⟨v, by unfold execOp; simp only [hop, Sem.run_bind, hr, Result.andThen_ok, Sem.run_pure], hvv⟩
  case h_16 t x i =>
    split at h
    · exact dg h hc
    · obtain ⟨v, hr, hvv⟩ := indexAddrE_sound (P := P) (w := w) (hρ x) (hρ i) h hc
      exact ⟨v, by unfold execOp; simp only [hop, Sem.run_bind, hr, Result.andThen_ok, Sem.run_pure], hvv⟩
  case h_17 t x i =>
    split at h
    · rename_i cells hx
      have hv := hρ x
      rw [hx] at hv
      obtain ⟨v, hr, hvv⟩ := indexE_sound (P := P) (w := w) hv (hρ i) h hc
      exact ⟨v, by unfold execOp; simp only [hop, Sem.run_bind, hr, Result.andThen_ok, Sem.run_pure], hvv⟩
    · exact dg h hc
  case h_18 x i =>
    split at h
    · rename_i ds hx
      split at h
      · rename_i dd hd
        injection h with h1 h2; subst h1 h2
        have hl := hρ x
        rw [hx] at hl
        generalize hvx : ρ x = v at hl
        cases hl with
        | leaf h => cases h
        | tup hn ht =>
          rename_i vs
          have hlt : i < vs.size := by rw [hn]; exact (List.getElem?_eq_some_iff.1 hd).1
          refine ⟨vs[i], ?_, ht i _ _ (Array.getElem?_eq_getElem hlt) hd⟩
          unfold execOp
          simp only [hop, hvx, Instr.extract, Array.getElem?_eq_getElem hlt, Sem.run_bind, Sem.run_pure, Result.andThen_ok]
      · cases h
    · cases h
  case h_19 cl =>
    unfold callE at h
    split at h
    · rename_i hcal
      split at h
      · rename_i x hx
        exact lenE_val hF hρ hop hcal hx h hc
      · cases h
    · exfalso
      split at h
      · unfold appendE at h
        repeat' (first | split at h | (cases h; done))
      · cases h
    · rename_i hcal
      split at h
      · rename_i x y hx
        have e1 : cl.args = #[x, y] := by rw [← Array.toArray_toList (xs := cl.args), hx]
        unfold mmE at h
        split at h
        · rename_i hx' hy'
          injection h with h1 h2; subst h2
          have hvx := (hx' ▸ hρ x : VV G (ρ x) _).raw
          have hvy := (hy' ▸ hρ y : VV G (ρ y) _).raw
          refine ⟨_, ?_, VV.er rfl⟩
          unfold execOp
          simp only [hop, resolve, hcal, e1, Sem.run_bind, Sem.run_pure, Result.andThen_ok, invoke, builtin, List.map_toArray, List.map_cons, List.map_nil, hvx, hvy, Builtin.min_, Builtin.min2, List.foldlM_cons, List.foldlM_nil, Bool.false_eq_true, if_false]
        · cases h
      · cases h
    · rename_i hcal
      split at h
      · rename_i x y hx
        have e1 : cl.args = #[x, y] := by rw [← Array.toArray_toList (xs := cl.args), hx]
        unfold mmE at h
        split at h
        · rename_i hx' hy'
          injection h with h1 h2; subst h2
          have hvx := (hx' ▸ hρ x : VV G (ρ x) _).raw
          have hvy := (hy' ▸ hρ y : VV G (ρ y) _).raw
          refine ⟨_, ?_, VV.er rfl⟩
          unfold execOp
          simp only [hop, resolve, hcal, e1, Sem.run_bind, Sem.run_pure, Result.andThen_ok, invoke, builtin, List.map_toArray, List.map_cons, List.map_nil, hvx, hvy, Builtin.max_, Builtin.max2, List.foldlM_cons, List.foldlM_nil, if_true]
        · cases h
      · cases h
    · exfalso
      split at h
      · split at h <;> cases h
      · cases h
      · cases h
    · cases h
  case h_20 => cases h
  case h_21 t m k ok =>
    obtain ⟨v, hr, hvv⟩ := lookup_val (P := P) (w := w) (hρ m) (hρ k) h
    exact ⟨v, by unfold execOp; simp only [hop, Sem.run_bind, hr, Result.andThen_ok, Sem.run_pure], hvv⟩
  case h_22 =>
    exfalso
    unfold updateE at h
    repeat' (first | split at h | (cases h; done))
  case h_23 =>
    exfalso
    unfold entryE at h
    repeat' (first | split at h | (cases h; done))
  case h_24 =>
    exfalso
    unfold entryStoreE at h
    repeat' (first | split at h | (cases h; done))
  case h_25 fn first caps =>
    unfold funcE at h
    split at h
    · rename_i f hf
      split at h
      · rename_i hl
        injection h with h1 h2; subst h1 h2
        obtain rfl : first = #[] := by
          rw [List.map_eq_nil_iff] at hf
          exact Array.toList_eq_nil_iff.1 hf
        refine ⟨.func (.func f) #[] (caps.map ρ), by unfold execOp; simp only [hop, Array.map_empty, Instr.makeFunc, Sem.run_bind, Sem.run_pure, Result.andThen_ok], .leaf ?_⟩
        have hsz : (caps.map ρ).size = (caps.toList.map ρE).length := by simp
        refine .clo f hsz fun j x d hx hd => ?_
        rw [Array.getElem?_map] at hx
        rw [List.getElem?_map, Array.getElem?_toList] at hd
        cases hq : caps[j]? with
        | none => rw [hq] at hx; cases hx
        | some y =>
          rw [hq] at hx hd
          simp only [Option.map_some, Option.some.injEq] at hx hd
          subst hx hd
          exact (hρ y).leaf' (List.all_eq_true.1 hl (ρE y) (List.mem_map_of_mem (List.mem_of_getElem? (i := j) (by rw [Array.getElem?_toList]; exact hq))))
      · cases h
    · cases h
  case h_26 => exact dg h hc
  case h_27 => exact dg h hc
  case h_28 => cases h

theorem zero_repE (z : Array Value) (k : Nat) : ((Array.range (k * z.size)).map (z[· % z.size]!)).toList = (List.replicate k z.toList).flatten := by
  apply List.ext_getElem?
  intro i
  have hlen : ∀ k, ((List.replicate k z.toList).flatten).length = k * z.size := by intro k; simp
  by_cases hi : i < k * z.size
  · have e1 : ((Array.range (k * z.size)).map (z[· % z.size]!)).toList[i]? = some (z[i % z.size]!) := by simp [hi]
    rw [e1]
    have key : ∀ (k i : Nat), i < k * z.size → ((List.replicate k z.toList).flatten)[i]? = some (z[i % z.size]!) := by
      intro k
      induction k with
      | zero => intro i hi; simp at hi
      | succ k ih =>
        intro i hi
        rw [List.replicate_succ, List.flatten_cons]
        by_cases hlt : i < z.size
        · rw [List.getElem?_append_left (by simpa using hlt), Nat.mod_eq_of_lt hlt]
          simp [hlt]
        · rw [List.getElem?_append_right (by simpa using hlt)]
          simp only [Array.length_toList]
          rw [ih (i - z.size) (by rw [Nat.add_mul] at hi; omega), Nat.mod_eq_sub_mod (Nat.le_of_not_lt hlt)]
    exact (key k i hi).symm
  · rw [List.getElem?_eq_none (by simpa using hi), List.getElem?_eq_none (by rw [hlen]; omega)]
theorem reps_vc {cs : List Value} {ds : List EV} (h : VC G cs ds) : ∀ k, VC G ((List.replicate k cs).flatten) (reps ds k) := by
  intro k
  unfold reps
  induction k with
  | zero => exact VC.nil G
  | succ k ih => rw [List.replicate_succ, List.flatten_cons, List.replicate_succ, List.flatten_cons]; exact h.append ih
theorem reps_len (ds : List EV) (k : Nat) : (reps ds k).length = k * ds.length := by simp [reps]

/-- New cells in a new block. -/
theorem add_cells (hW : WE T w0 R G h w) (k : Nat) (hk : R k) (cs : Array Value) (t : TypeId) (ds : List EV) (hc : VC G cs.toList ds) :
    WE T w0 (fun i => R i ∧ i ≠ k) (G.put k ⟨w.heap.size, 0, cs.size⟩) (upd h k (some (.cells ds))) (w.alloc (.cells cs t)) ∧ G.le (fun i => i = k) (G.put k ⟨w.heap.size, 0, cs.size⟩) := by
  have hle := Gg.put_le (hW.fresh k hk) ⟨w.heap.size, 0, cs.size⟩
  refine hW.add (w' := w.alloc (.cells cs t)) k hk (.cells ds) cs.size rfl rfl rfl (by rw [size_alloc]; exact Nat.le_succ _) (fun b hb => heap_alloc_lt w _ hb) ⟨cs, t, heap_alloc_new w _, rfl, by have := hc.1; rw [Array.length_toList] at this; show 0 + ds.length ≤ cs.size; omega, fun j d hd => ?_⟩ _ (upd_same ..) (fun k' o hne hk' => by rw [upd_ne _ _ hne] at hk'; exact hk')
  have hj : j < cs.size := by have := (List.getElem?_eq_some_iff.1 hd).1; rw [← hc.1, Array.length_toList] at this; exact this
  exact ⟨cs[j], by show cs[0 + j]? = _; rw [Nat.zero_add]; exact Array.getElem?_eq_getElem hj, (hc.2 j _ d (by rw [Array.getElem?_toList]; exact Array.getElem?_eq_getElem hj) hd).mono hle⟩

theorem new_sound (hW : WE T w0 R G h w) {o : Oper} {ρ : Operand → Value} {ρE : Operand → EV} {c : Prop} {ob : EO} {mk : Nat → EV} (hρ : ∀ x, VV G (ρ x) (ρE x)) (ho : opE P o ρE = .new c ob mk) (hc : c) (k : Nat) (hk : R k) :
    ∃ v w' G', (execOp ρ o).run P w = .ok (.value v) w' ∧ G.le (fun i => i = k) G' ∧ VV G' v (mk k) ∧ WE T w0 (fun i => R i ∧ i ≠ k) G' (upd h k (some ob)) w' := by
  have box : ∀ (cs : Array Value) (t : TypeId) (ds : List EV), VC G cs.toList ds → (execOp ρ o).run P w = .ok (.value (.pointer (some ⟨w.heap.size, 0, none⟩))) (w.alloc (.cells cs t)) →
      ∃ v w' G', (execOp ρ o).run P w = .ok (.value v) w' ∧ G.le (fun i => i = k) G' ∧ VV G' v (.ptr k 0) ∧ WE T w0 (fun i => R i ∧ i ≠ k) G' (upd h k (some (.cells ds))) w' := by
    intro cs t ds hcs hrun
    obtain ⟨q1, q2⟩ := add_cells hW k hk cs t ds hcs
    exact ⟨_, _, _, hrun, q2, .leaf (VL.ptr (G := G.put k ⟨w.heap.size, 0, cs.size⟩) (p := ⟨w.heap.size, 0, cs.size⟩) 0 (Gg.put_at ..)), q1⟩
  have row : ∀ (cs : Array Value) (t : TypeId) (ds : List EV) (l c n : Nat), VC G cs.toList ds → l ≤ c → cs.size = c * n → c ≤ maxLen → (execOp ρ o).run P w = .ok (.value (.slice (some ⟨w.heap.size, 0, none⟩) l c)) (w.alloc (.cells cs t)) →
      ∃ v w' G', (execOp ρ o).run P w = .ok (.value v) w' ∧ G.le (fun i => i = k) G' ∧ VV G' v (.sl k 0 l c n true) ∧ WE T w0 (fun i => R i ∧ i ≠ k) G' (upd h k (some (.cells ds))) w' := by
    intro cs t ds l c n hcs hlc hsz hm hrun
    obtain ⟨q1, q2⟩ := add_cells hW k hk cs t ds hcs
    have := VL.sl (G := G.put k ⟨w.heap.size, 0, cs.size⟩) (a := 0) 0 l c n true c (k := k) (p := ⟨w.heap.size, 0, cs.size⟩) (Gg.put_at ..) hlc (Nat.le_refl _) (fun _ => rfl) (.inl rfl) hm (.inr (by show 0 + 0 + c * n ≤ cs.size; omega))
    exact ⟨_, _, _, hrun, q2, .leaf this, q1⟩
  have nodeleg : delegD P o ρE ≠ .new c ob mk := by
    unfold delegD
    split <;> simp
  unfold opE at ho
  split at ho <;> rename_i hop <;> (try (cases ho; done)) <;> (try (exact absurd ho nodeleg))
  case h_3 => split at ho <;> cases ho
  case h_4 t x =>
    split at ho
    · rename_i hx
      injection ho with h1 h2 h3; subst h1 h2 h3
      exact box (ρ x).cells t _ ((hρ x).cells hx) (by unfold execOp; simp only [hop]; rfl)
    · cases ho
  case h_5 t =>
    split at ho
    · rename_i z hz
      split at ho
      · rename_i hx
        injection ho with h1 h2 h3; subst h1 h2 h3
        exact box z.cells t _ (zero_cellsE hx) (by unfold execOp; simp only [hop, Instr.alloc, Sem.run_bind, run_zero hz, Result.andThen_ok]; rfl)
      · cases ho
    · cases ho
  case h_6 =>
    exfalso
    unfold buildE at ho
    repeat' (first | split at ho | (cases ho; done))
  case h_7 t len parts =>
    unfold buildSliceE at ho
    split at ho
    · rename_i e hu
      split at ho
      · rename_i n b g z ht hz
        split at ho
        · rename_i hok
          simp only [Bool.and_eq_true, decide_eq_true_eq, beq_iff_eq] at hok
          obtain ⟨⟨⟨k1, k2⟩, k3⟩, k4⟩ := hok
          split at ho
          · rename_i cells hfl
            injection ho with h1 h2 h3; subst h1 h2 h3
            have hp := parts_evE hρ parts
            have hz0 := zero_cellsE (G := G) k4
            have hlz : ∀ zero : Array Value, (len * n = 0 → zero = #[]) → (len * n ≠ 0 → zero = z.cells) → ((Array.range (len * n)).map (zero[· % zero.size]!)).toList = (List.replicate len z.cells.toList).flatten := by
              intro zero h0 h1
              by_cases hl0 : len * n = 0
              · have : len = 0 := by rcases Nat.mul_eq_zero.1 hl0 with e | e; exact e; omega
                subst this
                simp
              · rw [h1 hl0]
                have := zero_repE z.cells len
                rw [k3] at this
                rw [k3]
                exact this
            have hfill : ∀ zero : Array Value, (len * n = 0 → zero = #[]) → (len * n ≠ 0 → zero = z.cells) → ∃ cs', Instr.fill (fun i => some (i * n, n)) ((Array.range (len * n)).map (zero[· % zero.size]!)) (parts.map fun (i, x) => (i, ρ x)).toList = some cs' ∧ VC G cs'.toList cells ∧ cs'.size = len * n := by
              intro zero h0 h1
              obtain ⟨cs', hf, hr, hs⟩ := fill_soundE (G := G) (fun i => some (i * n, n)) _ _ ((Array.range (len * n)).map (zero[· % zero.size]!)) _ _ hp.1 hp.2 (by rw [hlz zero h0 h1]; exact reps_vc hz0 len) hfl
              exact ⟨cs', hf, hr, by rw [hs]; simp⟩
            have hlen : len ≤ 16777216 := Nat.le_trans (Nat.le_mul_of_pos_right _ k1) k2
            have n1 : ¬ (len * n > 2 ^ 24) := by omega
            by_cases h0 : len * n = 0
            · obtain ⟨cs', hf, hr, hs⟩ := hfill #[] (fun _ => rfl) (fun h => absurd h0 h)
              refine row cs' e cells len len n hr (Nat.le_refl _) hs (by unfold maxLen; omega) ?_
              unfold execOp
              simp only [hop, Instr.buildSlice, Sem.run_bind, run_under hu, run_size ht, Result.andThen_ok]
              rw [if_neg n1, if_pos h0]
              simp only [Sem.run_bind, Sem.run_pure, Result.andThen_ok]
              rw [hf]
              simp only [Sem.run_bind, newRow, run_newObj, Result.andThen_ok, Sem.run_pure]
              rfl
            · obtain ⟨cs', hf, hr, hs⟩ := hfill z.cells (fun h => absurd h h0) (fun _ => rfl)
              refine row cs' e cells len len n hr (Nat.le_refl _) hs (by unfold maxLen; omega) ?_
              unfold execOp
              simp only [hop, Instr.buildSlice, Sem.run_bind, run_under hu, run_size ht, Result.andThen_ok]
              rw [if_neg n1, if_neg h0]
              simp only [Sem.run_bind, Sem.run_pure, run_zero hz, Result.andThen_ok]
              rw [hf]
              simp only [Sem.run_bind, newRow, run_newObj, Result.andThen_ok, Sem.run_pure]
              rfl
          · cases ho
        · cases ho
      · cases ho
    · cases ho
  case h_8 t l cp =>
    unfold makeSliceE at ho
    split at ho
    · rename_i e li ci hu hl hcp
      split at ho
      · rename_i n b g z ht hz
        split at ho
        · rename_i hok
          simp only [Bool.and_eq_true, decide_eq_true_eq, beq_iff_eq] at hok
          obtain ⟨⟨⟨k1, k2⟩, k3⟩, k4⟩ := hok
          injection ho with h1 h2 h3; subst h1 h2 h3
          obtain ⟨c1, c2, c3⟩ := hc
          obtain ⟨kl, hvl⟩ := (hρ l).int hl
          obtain ⟨kc, hvc⟩ := (hρ cp).int hcp
          obtain ⟨i, hi, e1, e2, e3⟩ := zero_infoE ht hz
          subst e1 e2
          have hci : ci ≤ 140737488355328 := by
            have hb1 : (1 : Int) ≤ i.bytes := by omega
            have : ci * 1 ≤ ci * i.bytes := Int.mul_le_mul_of_nonneg_left hb1 (by omega)
            omega
          have hrun := run_make (P := P) w t e i z hu hi e3 kl kc li ci c1 c2 (by rw [Int.mul_comm]; omega) (by omega)
          have hcells : (madeCells z.cells (ci.toNat * i.size)).toList = (List.replicate ci.toNat z.cells.toList).flatten := by
            have := zero_repE z.cells ci.toNat
            rw [k3] at this
            unfold madeCells
            rw [k3]
            exact this
          have hsz : (madeCells z.cells (ci.toNat * i.size)).size = ci.toNat * i.size := size_madeCells _ _
          refine row _ e _ li.toNat ci.toNat i.size (by rw [hcells]; exact reps_vc (zero_cellsE k4) ci.toNat) (by omega) hsz (by unfold maxLen; omega) ?_
          unfold execOp
          simp only [hop, hvl, hvc, Sem.run_bind, hrun, Result.andThen_ok, Sem.run_pure]
        · cases ho
      · cases ho
    · cases ho
  case h_9 =>
    split at ho
    · exfalso
      unfold loadE at ho
      repeat' (first | split at ho | (cases ho; done))
    · exact absurd ho nodeleg
  case h_10 =>
    split at ho
    · exfalso
      unfold storeE at ho
      repeat' (first | split at ho | (cases ho; done))
    · cases ho
  case h_11 =>
    split at ho
    · cases ho
    · cases ho
    · exact absurd ho nodeleg
  case h_12 =>
    unfold binE at ho
    split at ho
    · split at ho
      · cases ho
      · exact absurd ho nodeleg
    · split at ho
      · cases ho
      · exact absurd ho nodeleg
    · exact absurd ho nodeleg
  case h_13 =>
    split at ho
    · exfalso
      unfold sliceE at ho
      repeat' (first | split at ho | (cases ho; done))
    · exfalso
      unfold sliceNoneE at ho
      repeat' (first | split at ho | (cases ho; done))
    · split at ho
      · exact absurd ho nodeleg
      · exfalso
        unfold sliceNoneE at ho
        repeat' (first | split at ho | (cases ho; done))
  case h_14 =>
    split at ho
    · exfalso
      unfold fieldAddrE at ho
      repeat' (first | split at ho | (cases ho; done))
    · exact absurd ho nodeleg
  case h_15 =>
    exfalso
    unfold fieldE at ho
    repeat' (first | split at ho | (cases ho; done))
  case h_16 =>
    split at ho
    · exact absurd ho nodeleg
    · exfalso
      unfold indexAddrE at ho
      repeat' (first | split at ho | (cases ho; done))
  case h_17 =>
    split at ho
    · exfalso
      unfold indexE at ho
      repeat' (first | split at ho | (cases ho; done))
    · exact absurd ho nodeleg
  case h_18 =>
    exfalso
    repeat' (first | split at ho | (cases ho; done))
  case h_19 =>
    unfold callE at ho
    split at ho
    · split at ho
      · unfold lenE at ho
        split at ho
        · split at ho <;> first | (cases ho; done) | exact absurd ho nodeleg
        · cases ho
      · cases ho
    · exfalso
      split at ho
      · unfold appendE at ho
        repeat' (first | split at ho | (cases ho; done))
      · cases ho
    · exfalso
      split at ho
      · unfold mmE at ho
        repeat' (first | split at ho | (cases ho; done))
      · cases ho
    · exfalso
      split at ho
      · unfold mmE at ho
        repeat' (first | split at ho | (cases ho; done))
      · cases ho
    · exfalso
      split at ho
      · split at ho <;> cases ho
      · cases ho
      · cases ho
    · cases ho
  case h_20 =>
    injection ho with h1 h2 h3; subst h1 h2 h3
    obtain ⟨q1, q2⟩ := hW.add (w' := w.alloc (.map #[] 0)) k hk (.map [] 0) 0 rfl rfl rfl (by rw [size_alloc]; exact Nat.le_succ _) (fun b hb => heap_alloc_lt w _ hb) ⟨rfl, #[], heap_alloc_new w _, rfl, fun j e x he => by simp at he⟩ (upd h k (some (.map [] 0))) (upd_same ..) (fun k' o hne hk' => by rw [upd_ne _ _ hne] at hk'; exact hk')
    refine ⟨.map (some w.heap.size), _, _, ?_, q2, .leaf (VL.mp (G := G.put k ⟨w.heap.size, 0, 0⟩) (p := ⟨w.heap.size, 0, 0⟩) (Gg.put_at ..)), q1⟩
    unfold execOp
    simp only [hop, Option.map_none, Sem.run_bind, run_makeMap, Result.andThen_ok, Sem.run_pure]
  case h_21 =>
    exfalso
    unfold lookupE at ho
    repeat' (first | split at ho | (cases ho; done))
  case h_22 =>
    exfalso
    unfold updateE at ho
    repeat' (first | split at ho | (cases ho; done))
  case h_23 =>
    exfalso
    unfold entryE at ho
    repeat' (first | split at ho | (cases ho; done))
  case h_24 =>
    exfalso
    unfold entryStoreE at ho
    repeat' (first | split at ho | (cases ho; done))
  case h_25 =>
    exfalso
    unfold funcE at ho
    repeat' (first | split at ho | (cases ho; done))
end
end Go.Proofs.YtofhmddgldlcdabGreat.E
