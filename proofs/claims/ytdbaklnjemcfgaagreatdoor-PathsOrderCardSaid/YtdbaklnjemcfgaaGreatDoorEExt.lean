/- Interfaces, copy, clear, cap, a slice of an array in memory, append of a slice just made. Conditions: none. -/
import Derived.Test.YtdbaklnjemcfgaaGreatDoorEMap
import Derived.Laws.BytesString
namespace Go.Proofs.YtdbaklnjemcfgaaGreatDoor.E
open Go.RowKit Go.Proofs.YtdbaklnjemcfgaaGreatDoor.Mem Go.Proofs.YtdbaklnjemcfgaaGreatDoor.D
set_option linter.unusedVariables false
set_option linter.unusedSimpArgs false

section
variable {P : Program} {G G' : Gg} {w w' w0 : World} {T R : Nat → Prop} {h : Hp}

theorem zero_repE (z : Array Value) (k : Nat) : ((Array.range (k * z.size)).map (z[· % z.size]!)).toList = (List.replicate k z.toList).flatten := by
  apply List.ext_getElem?
  intro i
  have hlen : ∀ k, ((List.replicate k z.toList).flatten).length = k * z.size := by intro k; simp
  by_cases hi : i < k * z.size
  · have e1 : ((Array.range (k * z.size)).map (z[· % z.size]!)).toList[i]? = some (z[i % z.size]!) := by simp [hi]
    rw [e1]
    have key : ∀ (k i : Nat), i < k * z.size → ((List.replicate k z.toList).flatten)[i]? = some (z[i % z.size]!) := by
      intro k
      induction k with
      | zero => intro i hi; simp at hi
      | succ k ih =>
        intro i hi
        rw [List.replicate_succ, List.flatten_cons]
        by_cases hlt : i < z.size
        · rw [List.getElem?_append_left (by simpa using hlt), Nat.mod_eq_of_lt hlt]
          simp [hlt]
        · rw [List.getElem?_append_right (by simpa using hlt)]
          simp only [Array.length_toList]
          rw [ih (i - z.size) (by rw [Nat.add_mul] at hi; omega), Nat.mod_eq_sub_mod (Nat.le_of_not_lt hlt)]
    exact (key k i hi).symm
  · rw [List.getElem?_eq_none (by simpa using hi), List.getElem?_eq_none (by rw [hlen]; omega)]
theorem reps_vc {cs : List Value} {ds : List EV} (h : VC G cs ds) : ∀ k, VC G ((List.replicate k cs).flatten) (reps ds k) := by
  intro k
  unfold reps
  induction k with
  | zero => exact VC.nil G
  | succ k ih => rw [List.replicate_succ, List.flatten_cons, List.replicate_succ, List.flatten_cons]; exact h.append ih
theorem reps_len (ds : List EV) (k : Nat) : (reps ds k).length = k * ds.length := by simp [reps]


theorem extC_form (c : Call) (ρ : Operand → EV) : (∃ p d, extC P c ρ = .val p d) ∨ (∃ r, extC P c ρ = .eff r) ∨ (∃ f a, extC P c ρ = .call f a) ∨ extC P c ρ = .bad := by
  unfold extC invokeE copyE clearE capE
  repeat' (first | exact .inl ⟨_, _, rfl⟩ | exact .inr (.inl ⟨_, rfl⟩) | exact .inr (.inr (.inl ⟨_, _, rfl⟩)) | exact .inr (.inr (.inr rfl)) | split)
theorem extE_form (o : Oper) (ρ : Operand → EV) : (∃ p d, extE P o ρ = .val p d) ∨ extE P o ρ = .bad := by
  unfold extE ifaceE
  repeat' (first | exact .inl ⟨_, _, rfl⟩ | exact .inr rfl | split)

theorem extE_val {o : Oper} {ρ : Operand → Value} {ρE : Operand → EV} {c : Prop} {d : EV} (hρ : ∀ x, VV G (ρ x) (ρE x)) (h : extE P o ρE = .val c d) (hc : c) :
    ∃ v, (execOp ρ o).run P w = .ok (.value v) w ∧ VV G v d := by
  unfold extE at h
  split at h
  · rename_i t x hop
    unfold ifaceE at h
    split at h
    · cases h
    · rename_i td hu hni
      split at h
      · rename_i hl
        injection h with h1 h2; subst h1 h2
        refine ⟨.iface t (ρ x), ?_, .leaf (.ifc t ((hρ x).leaf' hl))⟩
        unfold execOp
        simp only [hop, Instr.makeInterface, Sem.run_bind, run_under hni, Result.andThen_ok]
        rfl
      · cases h
    · cases h
  · cases h
theorem extC_val {o : Oper} {cl : Call} {ρ : Operand → Value} {ρE : Operand → EV} {c : Prop} {d : EV} (hρ : ∀ x, VV G (ρ x) (ρE x)) (hop : o.op = .call cl) (h : extC P cl ρE = .val c d) (hc : c) :
    ∃ v, (execOp ρ o).run P w = .ok (.value v) w ∧ VV G v d := by
  unfold extC at h
  split at h
  · unfold invokeE at h
    repeat' (first | split at h | (cases h; done))
  · split at h
    · unfold copyE at h
      repeat' (first | split at h | (cases h; done))
    · cases h
  · split at h
    · unfold clearE at h
      repeat' (first | split at h | (cases h; done))
    · cases h
  · rename_i hcal
    split at h
    · rename_i x hargs
      have e1 : cl.args = #[x] := by rw [← Array.toArray_toList (xs := cl.args), hargs]
      unfold capE at h
      split at h
      · rename_i t ht
        have e2 : cl.argTypes = #[t] := by rw [← Array.toArray_toList (xs := cl.argTypes), ht]
        have fin : ∀ (n : Nat) (v : Value), ρ x = v → (Builtin.cap_ #[t] o.type #[v]).run P w = .ok (.int .i64 n) w → ∃ v, (execOp ρ o).run P w = .ok (.value v) w ∧ VV G v (er (.int .i64 n)) := fun n v hv hr => by
          refine ⟨.int .i64 n, ?_, VV.er rfl⟩
          unfold execOp
          simp only [hop, resolve, hcal, e1, e2, Sem.run_bind, Sem.run_pure, Result.andThen_ok, invoke, builtin, List.map_toArray, List.map_cons, List.map_nil, hv, hr]
        split at h
        · rename_i e k off len cap n hu hx
          injection h with h1 h2; subst h1 h2
          have hv := hρ x
          rw [hx] at hv
          generalize hvx : ρ x = vx at hv
          cases hv.leaf' rfl with
          | sl _ _ _ _ _ cc hp hle hcc hxx ha hm hs =>
            have := hxx rfl
            subst this
            exact fin _ _ hvx (by simp [Builtin.cap_, run_under hu, goInt])
        · rename_i e hu hx
          injection h with h1 h2; subst h1 h2
          have hv := hρ x
          rw [hx] at hv
          exact fin 0 _ hv.raw (by simp [Builtin.cap_, run_under hu, goInt])
        · rename_i e hu hx
          injection h with h1 h2; subst h1 h2
          have hv := hρ x
          rw [hx] at hv
          generalize hvx : ρ x = vx at hv
          cases hv.leaf' rfl with
          | emp A => exact fin 0 _ hvx (by simp [Builtin.cap_, run_under hu, goInt])
        · cases h
      · cases h
    · cases h
  · cases h

theorem sliceArr_run (hW : WE T w0 R G h w) {t k off kk : Nat} {va : Value} {r : EO → EV → Prop} (ha : VV G va (.ptr k off)) (hl : sliceArrE P t k off = .look kk r) {o : EO} {d : EV} (hk : h kk = some o) (hr : r o d) :
    ∃ v, (Instr.sliceAt t va none none none).run P w = .ok v w ∧ VV G v d := by
  unfold sliceArrE at hl
  split at hl
  · rename_i m e hu
    split at hl
    · rename_i n b g ht
      injection hl with e1 e2
      subst e1 e2
      obtain ⟨cs, rfl, hlen, hmx, rfl⟩ := hr
      cases ha.leaf' rfl with
      | ptr _ hp =>
        rename_i p
        obtain ⟨c, tt, h1, h2, h3, h4⟩ := (hW.at' hk hp).2
        have hb : (Instr.sliceBounds false m m none none none).run P w = .ok (0, m, m) w := by simp [Instr.sliceBounds]
        refine ⟨_, ?_, .leaf (VL.sl (a := p.o + off) off m m n true m hp (Nat.le_refl _) (Nat.le_refl _) (fun _ => rfl) (.inl rfl) hmx (.inr (by omega)))⟩
        simp only [Instr.sliceAt, Sem.run_bind, run_under hu, Result.andThen_ok, sureAddr_run, hb, run_size ht, Sem.run_pure, Nat.zero_mul, Nat.sub_zero]
        by_cases hm0 : m = 0
        · rw [if_pos hm0]
        · rw [if_neg hm0, add_lit, Nat.add_zero]
    · cases hl
  · cases hl

theorem toText_of {src dst : TypeId} (h : toText P src dst = true) : ∃ e, P.underlying src = some (.slice e) ∧ P.underlying e = some (.int .u8) ∧ P.underlying dst = some .string := by
  unfold toText at h
  split at h
  · rename_i e h1 h2
    split at h
    · rename_i h3; exact ⟨e, h1, h3, h2⟩
    · cases h
  · cases h
theorem push_bytes : ∀ (ns : List Int) (s : ByteArray), ns.foldl (fun r n => r.push (UInt8.ofNat n.toNat)) s = ⟨⟨s.data.toList ++ ns.map fun n => UInt8.ofNat n.toNat⟩⟩ := by
  intro ns
  induction ns with
  | nil => intro s; simp
  | cons n ns ih =>
    intro s
    rw [List.foldl_cons, ih]
    simp [ByteArray.push]
theorem bytesL_ints : ∀ (ds : List EV) (l : List UInt8), bytesL ds = some l → ∃ ns : List Int, ds = ns.map (fun n => er (.int .u8 n)) ∧ l = ns.map fun n => UInt8.ofNat n.toNat := by
  intro ds
  induction ds with
  | nil => intro l h; simp [bytesL] at h; subst h; exact ⟨[], rfl, rfl⟩
  | cons d ds ih =>
    intro l h
    unfold bytesL at h
    split at h
    · rename_i e; cases e
    · rename_i n l' e
      injection e with e1 e2
      subst e1 e2
      simp only [Option.map_eq_some_iff] at h
      obtain ⟨l2, h1, rfl⟩ := h
      obtain ⟨ns, h2, h3⟩ := ih l2 h1
      exact ⟨n :: ns, by rw [h2]; rfl, by rw [h3]; rfl⟩
    · cases h
theorem bytes_run (hW : WE T w0 R G h w) {src dst k off len cap n kk : Nat} {ex : Bool} {va : Value} {r : EO → EV → Prop} (ha : VV G va (.sl k off len cap n ex)) (hl : bytesE P src dst k off len n = .look kk r) {o : EO} {d : EV} (hk : h kk = some o) (hr : r o d) :
    ∃ v, (convert src dst va).run P w = .ok v w ∧ VV G v d := by
  unfold bytesE at hl
  split at hl
  · rename_i hok
    injection hl with e1 e2
    subst e1 e2
    simp only [Bool.and_eq_true, beq_iff_eq] at hok
    obtain ⟨hok, rfl⟩ := hok
    obtain ⟨e, hs, he, hd⟩ := toText_of hok
    obtain ⟨cs, l, rfl, hlen, hb, rfl⟩ := hr
    cases ha.leaf' rfl with
    | sl _ _ _ _ _ c hp hle hcc hxx haa hm hsz =>
      rename_i p a
      refine ⟨_, ?_, VV.er rfl⟩
      rw [run_convert_bytes_string w src dst e _ _ _ hs he hd]
      obtain ⟨vs, hvn, hvc, hcell⟩ := (hW.at' hk hp).2.read off len hlen
      obtain ⟨ns, h1, h2⟩ := bytesL_ints _ _ hb
      have hvs : vs = ns.map (Value.int .u8) := by
        apply List.ext_getElem?
        intro j
        have hl1 : vs.length = ns.length := by rw [hvc.1, h1, List.length_map]
        by_cases hj : j < vs.length
        · have e1 : ((cs.drop off).take len)[j]? = some (er (.int .u8 (ns[j]'(by omega)))) := by rw [h1, List.getElem?_map, List.getElem?_eq_getElem (by omega)]; rfl
          rw [List.getElem?_eq_getElem hj, (hvc.2 j _ _ (List.getElem?_eq_getElem hj) e1).raw, List.getElem?_map, List.getElem?_eq_getElem (by omega)]
          rfl
        · rw [List.getElem?_eq_none (by omega), List.getElem?_eq_none (by rw [List.length_map]; omega)]
      have hload : (loadCells ⟨p.b, a, none⟩ len).run P w = .ok (ns.map (Value.int .u8)).toArray w := by
        rw [← hvs]
        rw [← hvn]
        refine run_loadCells_list w ⟨p.b, a, none⟩ vs (fun j v hj => ?_)
        have hj' := (List.getElem?_eq_some_iff.1 hj).1
        have ha' : a = p.o + off := haa.resolve_right (by omega)
        subst ha'
        rw [add_lit]
        exact hcell j v hj
      rw [run_bytesToString w _ len c ns hload, push_bytes, h2]
      simp
  · cases hl
theorem bytesNone_run {src dst : Nat} {A : Option Addr} {c : Prop} {d : EV} (hl : bytesNoneE P src dst = .val c d) : ∃ v, (convert src dst (.slice A 0 0)).run P w = .ok v w ∧ VV G v d := by
  unfold bytesNoneE at hl
  split at hl
  · rename_i hok
    injection hl with e1 e2
    subst e1 e2
    obtain ⟨e, hs, he, hd⟩ := toText_of hok
    refine ⟨_, ?_, VV.er rfl⟩
    rw [run_convert_bytes_string w src dst e _ _ _ hs he hd]
    cases A with
    | none => simp [Conv.bytesToString]; rfl
    | some a => exact run_bytesToString w a 0 0 [] (by simp [loadCells, loadCellsFrom])
  · cases hl
theorem appE_bound {nx n b : Nat} {s : EV} {m : Nat} {add : List EV} {d : EV} {h' : Hp} {nx' : Nat} (ha : appE h nx n b s m add d h' nx') : m * b ≤ 140737488355328 := by
  unfold appE at ha
  split at ha
  · obtain ⟨_, cs, _, _, hb, _⟩ := ha
    rw [Nat.add_mul] at hb
    omega
  · exact ha.2.1
theorem all_reps {z : List EV} (hz : z.all oneE = true) (k : Nat) : ∀ u ∈ reps z k, oneE u = true := by
  intro u hu
  unfold reps at hu
  obtain ⟨l, hl, hul⟩ := List.mem_flatten.1 hu
  obtain rfl := List.eq_of_mem_replicate hl
  exact List.all_eq_true.1 hz u hul
theorem zero_one {z : Value} (hz : solid (lite z) = true) (h1 : (lite z).cells.all oneE = true) : ∀ u ∈ z.cells, u.oneCell' = true := by
  intro u hu
  have hc := zero_cellsE (G := ⟨fun _ _ _ => False, fun _ => none⟩) hz
  obtain ⟨j, hj⟩ := List.getElem?_of_mem (show u ∈ z.cells.toList by simpa using hu)
  have hlt : j < (lite z).cells.length := by rw [← hc.1]; exact (List.getElem?_eq_some_iff.1 hj).1
  exact one_soundE (hc.2 j u _ hj (List.getElem?_eq_getElem hlt)) (List.all_eq_true.1 h1 _ (List.getElem_mem hlt))
theorem append_eff (hW : WE T w0 R G h w) {nx nx' : Nat} (hR : ∀ k, nx ≤ k → R k) {ty : TypeId} {c : Call} {s x d : EV} {vs vx : Value} {r : Hp → Nat → EV → Hp → Nat → Prop} {h' : Hp} (hs : appendE P c s x = .eff r) (hr : r h nx d h' nx') (hsv : VV G vs s) (hx : VV G vx x) :
    ∃ t tx, c.argTypes = #[t, tx] ∧ ∃ v w' G', (Builtin.append_ #[t, tx] ty #[vs, vx]).run P w = .ok v w' ∧ nx ≤ nx' ∧ G.le (fun k => nx ≤ k ∧ k < nx') G' ∧ VV G' v d ∧ WE T w0 (fun k => R k ∧ ¬ (nx ≤ k ∧ k < nx')) G' h' w' := by
  unfold appendE at hs
  split at hs
  · rename_i t t' hat
    have e2 : c.argTypes = #[t, t'] := by rw [← Array.toArray_toList (xs := c.argTypes), hat]
    refine ⟨t, t', e2, ?_⟩
    split at hs
    · rename_i e hu
      split at hs
      · rename_i nn b g ht
        split at hs
        · rename_i hok
          injection hs with hs
          subst hs
          simp only [Bool.and_eq_true, decide_eq_true_eq, beq_iff_eq] at hok
          obtain ⟨⟨⟨rfl, k2⟩, k3⟩, k4⟩ := hok
          cases hz : zeroT P e with
          | none => rw [hz] at k4; cases k4
          | some z =>
            rw [hz] at k4
            simp only [Option.any_some, beq_iff_eq] at k4
            obtain ⟨m, add, q1, q2, q3⟩ := hr
            obtain ⟨i, hi, rfl, rfl, hi3⟩ := zero_infoE ht hz
            obtain ⟨news, hnv, hsr, _⟩ := src_run (P := P) hW hx q1 q2 hu
            obtain ⟨v, w', G', p1, p2, p3, p4, p5, _⟩ := app_run (P := P) (ty := ty) hW hR hi k2 k3 hi3 k4 hsv hnv (SrcA.of hu hi hi3 hsr) q2 q3
            exact ⟨v, w', G', p1, p2, p3, p4, p5⟩
        · unfold appZeroE at hs
          split at hs
          · rename_i kn z l htx hz hl
            split at hs
            · rename_i hok
              injection hs with hs
              subst hs
              simp only [Bool.and_eq_true, decide_eq_true_eq, beq_iff_eq] at hok
              obtain ⟨⟨⟨⟨k2, k3⟩, k4⟩, k5⟩, k6⟩ := hok
              obtain ⟨l0, lm, q3⟩ := hr
              obtain ⟨kq, rfl⟩ := hx.int hl
              obtain ⟨i, hi, rfl, rfl, hi3⟩ := zero_infoE ht hz
              have hbd := appE_bound q3
              obtain ⟨n, rfl⟩ := Int.eq_ofNat_of_zero_le l0
              simp only [Int.ofNat_eq_natCast, Int.toNat_natCast] at q3 hbd lm ⊢
              have hnv : VC G (Builtin.zeroCells z.cells n).toList (reps (lite z).cells n) := by
                rw [show (Builtin.zeroCells z.cells n).toList = (List.replicate n z.cells.toList).flatten from zero_repE z.cells n]
                exact reps_vc (zero_cellsE k5) n
              obtain ⟨v, w', G', p1, p2, p3, p4, p5, _⟩ := app_run (P := P) (ty := ty) hW hR hi k2 k3 hi3 k4 hsv hnv (SrcA.ofCount hu hi hi3 htx k4 (zero_one k5 k6) k2 n (by omega) (by omega)) (all_reps k6 n) q3
              exact ⟨v, w', G', p1, p2, p3, p4, p5⟩
            · cases hs
          · cases hs
      · cases hs
    · cases hs
  · cases hs

theorem copy_eff (hW : WE T w0 R G h w) {nx nx' : Nat} {ty : TypeId} {c : Call} {x y d : EV} {vx vy : Value} {r : Hp → Nat → EV → Hp → Nat → Prop} {h' : Hp} (hs : copyE P c x y = .eff r) (hr : r h nx d h' nx') (hx : VV G vx x) (hy : VV G vy y) :
    ∃ v w', (Builtin.copy_ c.argTypes ty #[vx, vy]).run P w = .ok v w' ∧ VV G v d ∧ nx' = nx ∧ WE T w0 R G h' w' := by
  unfold copyE at hs
  split at hs
  · rename_i t rest hat
    have e2 : c.argTypes[0]? = some t := by rw [← Array.getElem?_toList, hat]; rfl
    split at hs
    · rename_i e hu
      split at hs
      · rename_i n b g ht
        split at hs
        · rename_i k off len cap n' ex
          injection hs with hs
          subst hs
          obtain ⟨m, add, cs, rfl, q1, q2, hk, hlen, rfl, rfl, rfl⟩ := hr
          obtain ⟨news, hnv, hsr, hpre⟩ := src_run (P := P) hW hy q1 q2 hu
          have hcells := hpre (min m len) (Nat.min_le_left _ _)
          cases hx.leaf' rfl with
          | sl _ _ _ _ _ cc hp hle hcc hxx ha hm hsz =>
            rename_i p a
            have hq : (add.take (min m len * n')).length ≤ len * n' := by
              rw [List.length_take]
              exact Nat.le_trans (Nat.min_le_left _ _) (Nat.mul_le_mul_right _ (Nat.min_le_right _ _))
            have hrun : ∀ w2, (storeCells ⟨p.b, a, none⟩ (news.take (min m len * n'))).run P w = .ok () w2 → (Builtin.copy_ c.argTypes ty #[.slice (some ⟨p.b, a, none⟩) len cc, vy]).run P w = .ok (.int .i64 (min m len : Nat)) w2 := by
              intro w2 hst
              have hmin : Nat.min m len = min m len := rfl
              simp [Builtin.copy_, e2, run_under hu, hsr.len, run_size ht, hmin, hcells, hst, goInt]
            by_cases hc0 : cc = 0
            · have hl0 : len = 0 := by omega
              subst hl0
              have hz : min m 0 * n' = 0 := by simp
              refine ⟨_, w, hrun w (by rw [hz]; simp [storeCells]), VV.er rfl, rfl, ?_⟩
              rw [hz, List.take_zero, splice_nil, upd_id h k _ hk]
              exact hW
            · have ha' : a = p.o + off := ha.resolve_right hc0
              subst ha'
              obtain ⟨w', hst, hWE, _, _⟩ := write_run (P := P) hW hk hp off _ _ (hnv.take (min m len * n')) (fun u hu => q2 u (List.mem_of_mem_take hu)) (by omega)
              exact ⟨_, w', hrun w' hst, VV.er rfl, rfl, hWE⟩
        · cases hs
      · cases hs
    · cases hs
  · cases hs
theorem clear_eff (hW : WE T w0 R G h w) {nx nx' : Nat} {ty : TypeId} {c : Call} {x d : EV} {vx : Value} {r : Hp → Nat → EV → Hp → Nat → Prop} {h' : Hp} (hs : clearE P c x = .eff r) (hr : r h nx d h' nx') (hx : VV G vx x) :
    ∃ v w', (Builtin.clear_ c.argTypes ty #[vx]).run P w = .ok v w' ∧ VV G v d ∧ nx' = nx ∧ WE T w0 R G h' w' := by
  have unit : VV G (.tuple #[]) (.tup []) := .tup rfl (by simp)
  unfold clearE at hs
  split at hs
  · rename_i t hat
    have e2 : c.argTypes = #[t] := by rw [← Array.toArray_toList (xs := c.argTypes), hat]
    split at hs
    · rename_i kt et k hu
      injection hs with hs
      subst hs
      obtain ⟨es, clk, hk, rfl, rfl, rfl⟩ := hr
      cases hx.leaf' rfl with
      | mp hp =>
        rename_i p
        obtain ⟨h0, ents, h1, hE⟩ := (hW.at' hk hp).2.ents
        refine ⟨.tuple #[], { w with heap := w.heap.setIfInBounds p.b (.map #[] clk) }, ?_, unit, rfl, hW.setMap hk hp h0 _ _ _ ⟨rfl, by simp⟩⟩
        simp [Builtin.clear_, e2, run_under hu, Go.MapKept.run_getObj_map h1]
        rw [Go.MapKept.run_setObj_map _ h1]
        rfl
    · rename_i e k off len cap n ex hu
      split at hs
      · rename_i n' b g z ht hz
        split at hs
        · rename_i hok
          injection hs with hs
          subst hs
          simp only [Bool.and_eq_true, beq_iff_eq] at hok
          obtain ⟨⟨⟨k1, k2⟩, rfl⟩, k4⟩ := hok
          obtain ⟨cs, hk, hlen, rfl, rfl, rfl⟩ := hr
          cases hx.leaf' rfl with
          | sl _ _ _ _ _ cc hp hle hcc hxx ha hm hsz =>
            rename_i p a
            cases len with
            | zero =>
              refine ⟨.tuple #[], w, by simp [Builtin.clear_, e2, run_under hu], unit, rfl, ?_⟩
              rw [show reps (lite z).cells 0 = [] from rfl, splice_nil, upd_id h k _ hk]
              exact hW
            | succ l =>
              have hc0 : cc ≠ 0 := by omega
              have ha' : a = p.o + off := ha.resolve_right hc0
              subst ha'
              have hz0 := zero_cellsE (G := G) k1
              have hll : (lite z).cells.length = n' := by rw [← hz0.1, Array.length_toList]; exact k2
              obtain ⟨w', hst, hWE, _, _⟩ := write_run (P := P) hW hk hp off _ _ (reps_vc hz0 (l + 1)) (all_reps k4 (l + 1)) (by rw [reps_len, hll]; exact hlen)
              refine ⟨.tuple #[], w', ?_, unit, rfl, hWE⟩
              have hzc : (Builtin.zeroCells z.cells (l + 1)).toList = (List.replicate (l + 1) z.cells.toList).flatten := zero_repE z.cells (l + 1)
              simp [Builtin.clear_, e2, run_under hu, run_zero hz, hzc]
              rw [hst]
              rfl
        · cases hs
      · cases hs
    · cases hs
  · cases hs
theorem extC_eff (hW : WE T w0 R G h w) {n n' : Nat} {o : Oper} {cl : Call} {ρ : Operand → Value} {ρE : Operand → EV} (hρ : ∀ x, VV G (ρ x) (ρE x)) (hop : o.op = .call cl) {d : EV} {h' : Hp} {r : Hp → Nat → EV → Hp → Nat → Prop} (hs : extC P cl ρE = .eff r) (hr : r h n d h' n') :
    ∃ v w', (execOp ρ o).run P w = .ok (.value v) w' ∧ VV G v d ∧ n' = n ∧ WE T w0 R G h' w' := by
  unfold extC at hs
  split at hs
  · unfold invokeE at hs
    repeat' (first | split at hs | (cases hs; done))
  · rename_i hcal
    split at hs
    · rename_i x y hargs
      have e1 : cl.args = #[x, y] := by rw [← Array.toArray_toList (xs := cl.args), hargs]
      obtain ⟨v, w', q1, q2, q3, q4⟩ := copy_eff (P := P) (ty := o.type) hW hs hr (hρ x) (hρ y)
      refine ⟨v, w', ?_, q2, q3, q4⟩
      unfold execOp
      simp only [hop, resolve, hcal, e1, Sem.run_bind, Sem.run_pure, Result.andThen_ok, invoke, builtin, List.map_toArray, List.map_cons, List.map_nil, q1]
    · cases hs
  · rename_i hcal
    split at hs
    · rename_i x hargs
      have e1 : cl.args = #[x] := by rw [← Array.toArray_toList (xs := cl.args), hargs]
      obtain ⟨v, w', q1, q2, q3, q4⟩ := clear_eff (P := P) (ty := o.type) hW hs hr (hρ x)
      refine ⟨v, w', ?_, q2, q3, q4⟩
      unfold execOp
      simp only [hop, resolve, hcal, e1, Sem.run_bind, Sem.run_pure, Result.andThen_ok, invoke, builtin, List.map_toArray, List.map_cons, List.map_nil, q1]
    · cases hs
  · split at hs
    · unfold capE at hs
      repeat' (first | split at hs | (cases hs; done))
    · cases hs
  · cases hs
theorem method_run {t : TypeId} {name : String} {f : FuncId} (hm : methE P t name = some f) (v : Value) (fuel : Nat) : (method (fuel + 1) t v name).run P w = .ok (f, v) w := by
  unfold methE at hm
  split at hm
  · rename_i i hi
    split at hm
    · rename_i m hfind
      split at hm
      · rename_i f' e hp hf hu
        injection hm with hm
        subst hm
        simp [method, typeInfo, hi, hfind, hp, hf, follow, receiverAt, run_under hu, Place.get]
      · cases hm
    · cases hm
  · cases hm
theorem extC_call {o : Oper} {cl : Call} {ρ : Operand → Value} {ρE : Operand → EV} (hρ : ∀ x, VV G (ρ x) (ρE x)) (hop : o.op = .call cl) {f : FuncId} {args : List EV} (hs : extC P cl ρE = .call f args) :
    ∃ vs : Array Value, (∀ (hf : ∃ fn, P.funcs[f]? = some fn ∧ (fn.name == "runtime.NumGoroutine") = false ∧ fn.body.isNone = false), (execOp ρ o).run P w = .ok (.enter f vs) w) ∧ vs.size = args.length ∧ ∀ (j : Nat) x y, vs[j]? = some x → args[j]? = some y → VV G x y := by
  unfold extC at hs
  split at hs
  · rename_i x name hcal
    unfold invokeE at hs
    split at hs
    · rename_i t dd hx
      split at hs
      · rename_i f' hm
        injection hs with h1 h2
        subst h1 h2
        have hv := hρ x
        rw [hx] at hv
        generalize hvx : ρ x = vx at hv
        cases hv.leaf' rfl with
        | ifc _ hd =>
          rename_i v
          refine ⟨#[v] ++ cl.args.map ρ, fun hf => ?_, by simp; omega, fun j a b ha hb => ?_⟩
          · obtain ⟨fn, q1, q2, q3⟩ := hf
            have hmr := method_run (P := P) (w := w) hm v (P.types.size + Made.depth - 1)
            rw [show P.types.size + Made.depth - 1 + 1 = P.types.size + Made.depth by unfold Made.depth; omega] at hmr
            unfold execOp
            simp only [hop, resolve, hcal, hvx, Sem.run_bind, Sem.run_pure, Result.andThen_ok, invoke, callMethod, callFunc, run_program]
            have h0 : (#[Value.iface t v] ++ cl.args.map ρ)[0]? = some (Value.iface t v) := by rw [Array.getElem?_append_left (by simp)]; rfl
            have h1 : (#[Value.iface t v] ++ cl.args.map ρ).extract 1 (#[Value.iface t v] ++ cl.args.map ρ).size = cl.args.map ρ := by
              apply Array.ext'
              simp [Array.toList_extract, List.extract_eq_take_drop]
              exact List.take_of_length_le (by simp)
            rw [h0]
            simp only [h1, Sem.run_bind, run_program, Result.andThen_ok, hmr, q1, q2, q3, Bool.false_eq_true, if_false, Sem.run_pure]
          · cases j with
            | zero =>
              rw [Array.getElem?_append_left (by simp)] at ha
              simp at ha hb
              subst ha hb
              exact .leaf hd
            | succ j =>
              rw [Array.getElem?_append_right (by simp)] at ha
              simp only [List.getElem?_cons_succ] at hb
              simp only [List.size_toArray, List.length_cons, List.length_nil, Nat.zero_add, Nat.add_sub_cancel] at ha
              rw [Array.getElem?_map] at ha
              rw [List.getElem?_map, Array.getElem?_toList] at hb
              cases hq : cl.args[j]? with
              | none => rw [hq] at ha; cases ha
              | some z =>
                rw [hq] at ha hb
                simp only [Option.map_some, Option.some.injEq] at ha hb
                subst ha hb
                exact hρ z
      · cases hs
    · cases hs
  · split at hs
    · unfold copyE at hs
      repeat' (first | split at hs | (cases hs; done))
    · cases hs
  · split at hs
    · unfold clearE at hs
      repeat' (first | split at hs | (cases hs; done))
    · cases hs
  · split at hs
    · unfold capE at hs
      repeat' (first | split at hs | (cases hs; done))
    · cases hs
  · cases hs
end
end Go.Proofs.YtdbaklnjemcfgaaGreatDoor.E
