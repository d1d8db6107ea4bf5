/- What an operation that makes memory, reads or writes a box, or lets a slice grow does in the model. Conditions: none. -/
import Derived.Test.YtdbaklnjemcfgaaGreatDoorDMem
import Derived.IntWalk
namespace Go.Proofs.YtdbaklnjemcfgaaGreatDoor.D
open Go.RowKit Go.Proofs.YtdbaklnjemcfgaaGreatDoor.Mem
set_option linter.unusedVariables false
set_option linter.unusedSimpArgs false

section
variable {P : Program} {w0 w w' : World} {F0 : Facts} {G : Gh} {s : St}

theorem box_run {o : Oper} {ρ : Operand → Value} {ρD : Operand → DV} {t : TypeId} {cells : List DV} (hρ : ∀ x, RV G (ρ x) (ρD x)) (h : opD P o ρD = .box t cells) :
    ∃ cs : Array Value, (execOp ρ o).run P w = .ok (.value (.pointer (some ⟨w.heap.size, 0, none⟩))) (w.alloc (.cells cs t)) ∧ RC G cs.toList cells := by
  unfold opD at h
  unfold execOp
  split at h <;> rename_i hop <;> simp only [hop] <;> (try (first | (cases h; done)))
  case h_4 =>
    rename_i t0 x
    split at h
    · rename_i hx
      injection h with h1 h2; subst h1 h2
      exact ⟨(ρ x).cells, rfl, (hρ x).cells hx⟩
    · cases h
  case h_5 =>
    split at h
    · rename_i z hz
      split at h
      · rename_i hx
        injection h with h1 h2; subst h1 h2
        refine ⟨z.cells, ?_, zero_cells hx⟩
        simp only [Instr.alloc, Sem.run_bind, run_zero hz, Result.andThen_ok]
        rfl
      · cases h
    · cases h
  all_goals
    exfalso
    clear hop
    first
      | (cases h; done)
      | (split at h <;> cases h; done)
      | (unfold loadD at h; repeat' (first | split at h | (cases h; done)))
      | (unfold storeD at h; repeat' (first | split at h | (cases h; done)))
      | (unfold buildD at h; repeat' (first | split at h | (cases h; done)))
      | (unfold buildSliceD at h; repeat' (first | split at h | (cases h; done)))
      | (unfold makeSliceD at h; repeat' (first | split at h | (cases h; done)))
      | (unfold binD intD strD at h; repeat' (first | split at h | (cases h; done)))
      | (unfold unD at h; repeat' (first | split at h | (cases h; done)))
      | (unfold convD at h; repeat' (first | split at h | (cases h; done)))
      | (unfold sliceD sliceS sliceR at h; repeat' (first | split at h | (cases h; done)))
      | (unfold fieldAddrD at h; repeat' (first | split at h | (cases h; done)))
      | (unfold fieldD at h; repeat' (first | split at h | (cases h; done)))
      | (unfold indexAddrD at h; repeat' (first | split at h | (cases h; done)))
      | (unfold indexD at h; repeat' (first | split at h | (cases h; done)))
      | (unfold callD lenD appendD at h; repeat' (first | split at h | (cases h; done)))
      | (unfold lookupD at h; repeat' (first | split at h | (cases h; done)))
      | (unfold updateD at h; repeat' (first | split at h | (cases h; done)))
      | (unfold funcD at h; repeat' (first | split at h | (cases h; done)))
      | (repeat' (first | split at h | (cases h; done)))

theorem zero_info {e n b : Nat} {g : Bool} (ht : tI P e = some (n, b, g)) {z : Value} (hz : zeroT P e = some z) : ∃ i, P.info? e = some i ∧ i.size = n ∧ i.bytes = b ∧ i.zero = some z := by
  obtain ⟨i, d, hi, h1, h2, _, _⟩ := tI_spec ht
  unfold zeroT at hz
  rw [hi] at hz
  exact ⟨i, hi, h1, h2, hz⟩

/-- Cells at their places in a new row. -/
theorem fill_rows (n : Nat) : ∀ (parts : List (Nat × Value)) (dp : List (Nat × DV)) (k : Nat) (cs : Array Value) (rows : List (List DV)), parts.length = dp.length → (∀ (j : Nat) x y, parts[j]? = some x → dp[j]? = some y → x.1 = y.1 ∧ RV G x.2 y.2) →
    rowsD n k dp = some rows → (∀ r ∈ rows, ∀ d ∈ r, pure0 d = true) → cs.size = (k + parts.length) * n → ∃ cs' news, Instr.fill (fun i => some (i * n, n)) cs parts = some cs' ∧ cs'.toList = cs.toList.take (k * n) ++ news ∧ Lies G.F n rows news := by
  intro parts
  induction parts with
  | nil =>
    intro dp k cs rows hl hp hr _ hsz
    obtain rfl : dp = [] := List.eq_nil_of_length_eq_zero hl.symm
    simp [rowsD] at hr
    subst hr
    refine ⟨cs, [], rfl, ?_, Lies.nil _ _⟩
    simp at hsz
    rw [List.append_nil, List.take_of_length_le (by simp [hsz])]
  | cons x parts ih =>
    intro dp k cs rows hl hp hr hpu hsz
    cases dp with
    | nil => simp at hl
    | cons y dp =>
      obtain ⟨i, v⟩ := x
      obtain ⟨i', d⟩ := y
      obtain ⟨h1, hv⟩ := hp 0 _ _ rfl rfl
      simp at h1 hv
      subst h1
      simp only [rowsD] at hr
      split at hr
      · rename_i hok
        simp only [Bool.and_eq_true, beq_iff_eq] at hok
        obtain ⟨⟨rfl, k1⟩, k2⟩ := hok
        cases hrest : rowsD n (k + 1) dp with
        | none => rw [hrest] at hr; cases hr
        | some rest =>
          rw [hrest] at hr
          simp only [Option.map_some, Option.some.injEq] at hr
          subst hr
          have hc := hv.cells k1
          have hvs : v.cells.size = n := by rw [← k2, ← hc.1]; simp
          have hA : cs.size = k * n + n + parts.length * n := by rw [hsz, List.length_cons, Nat.add_mul, Nat.add_mul, Nat.one_mul]; omega
          have hvl : v.cells.toList.length = n := by simpa using hvs
          have hB : (k + 1) * n = k * n + n := by rw [Nat.add_mul, Nat.one_mul]
          have hC : (k + 1 + parts.length) * n = k * n + n + parts.length * n := by rw [Nat.add_mul, hB]
          have hfold : (v.cells.zipIdx.foldl (fun cs (x : Value × Nat) => cs.setIfInBounds (k * n + x.2) x.1) cs).toList = cs.toList.take (k * n) ++ v.cells.toList ++ cs.toList.drop (k * n + v.cells.toList.length) := by
            rw [← Array.foldl_toList, Array.toList_zipIdx]
            have := fold_splice (k * n) v.cells.toList 0 cs (by rw [hvl]; omega)
            simpa using this
          have hkn : (cs.toList.take (k * n)).length = k * n := by rw [List.length_take, Array.length_toList]; omega
          have hsize : (v.cells.zipIdx.foldl (fun cs (x : Value × Nat) => cs.setIfInBounds (k * n + x.2) x.1) cs).size = (k + 1 + parts.length) * n := by
            rw [← Array.length_toList, hfold, List.length_append, List.length_append, List.length_drop, hkn, hvl, Array.length_toList, hC]
            omega
          obtain ⟨cs', news, hf, he, hli⟩ := ih dp (k + 1) _ rest (by simpa using hl) (fun j x y a b => hp (j + 1) x y (by simpa using a) (by simpa using b)) hrest (fun r hr => hpu r (by simp [hr])) hsize
          refine ⟨cs', v.cells.toList ++ news, ?_, ?_, ?_⟩
          · simp only [Instr.fill]
            have hno : ¬ ((decide (v.cells.size ≠ n) || decide (k * n + v.cells.size > cs.size)) = true) := by rw [hvs]; simp; omega
            rw [if_neg hno]
            exact hf
          · rw [he, hfold, ← List.append_assoc]
            congr 1
            rw [List.take_append_of_le_length (by rw [List.length_append, hkn, hvl]; omega), List.take_of_length_le (by rw [List.length_append, hkn, hvl]; omega)]
          · have : Lies G.F n [d.cells.map imm0] v.cells.toList := by
              refine ⟨by simp [hvs], fun r hr => by simp at hr; subst hr; simp [k2], fun i r hi j dd hj => ?_⟩
              cases i with
              | zero =>
                simp at hi
                subst hi
                rw [List.getElem?_map] at hj
                cases hd : d.cells[j]? with
                | none => rw [hd] at hj; simp at hj
                | some dd' =>
                  rw [hd] at hj
                  simp at hj
                  subst hj
                  have hjl : j < v.cells.toList.length := by rw [hc.1]; exact (List.getElem?_eq_some_iff.1 hd).1
                  refine ⟨v.cells.toList[j], by simp only [Nat.zero_mul, Nat.zero_add]; exact List.getElem?_eq_getElem hjl, ?_⟩
                  exact (hc.2 j _ dd' (List.getElem?_eq_getElem hjl) hd).imm0.pure (hpu (d.cells.map imm0) (by simp) _ (List.mem_map.2 ⟨dd', List.mem_of_getElem? hd, rfl⟩))
              | succ i => simp at hi
            exact this.append hli
      · cases hr

theorem zero_rep (z : Array Value) (k : Nat) : ((Array.range (k * z.size)).map (z[· % z.size]!)).toList = (List.replicate k z.toList).flatten := by
  apply List.ext_getElem?
  intro i
  have hlen : ∀ k, ((List.replicate k z.toList).flatten).length = k * z.size := by intro k; simp
  by_cases hi : i < k * z.size
  · have hz : 0 < z.size := by
      rcases Nat.eq_zero_or_pos z.size with h | h
      · rw [h] at hi; simp at hi
      · exact h
    have e1 : ((Array.range (k * z.size)).map (z[· % z.size]!)).toList[i]? = some (z[i % z.size]!) := by simp [hi]
    rw [e1]
    have key : ∀ (k i : Nat), i < k * z.size → ((List.replicate k z.toList).flatten)[i]? = some (z[i % z.size]!) := by
      intro k
      induction k with
      | zero => intro i hi; simp at hi
      | succ k ih =>
        intro i hi
        rw [List.replicate_succ, List.flatten_cons]
        by_cases hlt : i < z.size
        · rw [List.getElem?_append_left (by simpa using hlt), Nat.mod_eq_of_lt hlt]
          simp [hlt]
        · rw [List.getElem?_append_right (by simpa using hlt)]
          simp only [Array.length_toList]
          rw [ih (i - z.size) (by rw [Nat.add_mul] at hi; omega), Nat.mod_eq_sub_mod (Nat.le_of_not_lt hlt)]
    exact (key k i hi).symm
  · rw [List.getElem?_eq_none (by simpa using hi), List.getElem?_eq_none (by rw [hlen]; omega)]

/-- What lets a new slice lie in memory. -/
structure Fresh (P : Program) (w0 : World) (G : Gh) (e : TypeId) (rows : List (List DV)) (w : World) (v : Value) (w' : World) : Prop where
  ex : ∃ F' : Facts, Below w.heap.size w w' ∧ G.F.sub F' ∧ F'.ok w' ∧ (∀ b o x, F' b o x → G.F b o x ∨ w.heap.size ≤ b) ∧ TipOk w0.heap.size F' w' e (P.cellsOf e) v ∧ (∀ b, v.ownBlock = some b → w.heap.size ≤ b) ∧ RI F' v (.sl rows)

theorem fresh_new (hW : WI P w0 F0 G s w) (hw : Below w.heap.size w w') (e : TypeId) (rows : List (List DV)) (news : List Value) (cur : Array Value) (c : Nat) (hl : Lies G.F (P.cellsOf e) rows news) (hh : w'.heap[w.heap.size]? = some (.cells cur e (0, 0)))
    (hcur : cur.toList.take news.length = news) (hc : rows.length ≤ c) (hc2 : c ≤ maxLen) (hcs : cur.size = c * P.cellsOf e) : Fresh P w0 G e rows w (.slice (some ⟨w.heap.size, 0, none⟩) rows.length c) w' := by
  have hF' : ∀ b o x, (G.F.or (factsOf w.heap.size news)) b o x → G.F b o x ∨ w.heap.size ≤ b := fun b o x hx => hx.imp id (fun h => by rw [h.1]; exact Nat.le_refl _)
  refine ⟨G.F.or (factsOf w.heap.size news), hw, Facts.sub_or _ _, fun b o x hx => ?_, hF', .inr ⟨w.heap.size, rows.length, c, cur, rfl, hW.below.size, hh, hc, hc2, hcs, fun o x ho hx => ?_⟩, fun b hb => by simp [Value.ownBlock] at hb; subst hb; exact Nat.le_refl _, (hl.mono (Facts.sub_or _ _)).ri _ _ _ (fun o y ho => .inr ⟨rfl, by simpa using ho⟩) (by have := hc2; unfold maxLen at this; omega) hc⟩
  · rcases hx with hx | ⟨rfl, hx⟩
    · exact Facts.ok_below hW.facts hw b o x hx
    · rw [← hcur, List.getElem?_take] at hx
      split at hx
      · simp only [World.cell?, hh]; simpa using hx
      · cases hx
  · rcases hx with hx | ⟨_, hx⟩
    · have := Facts.lt hW.facts hx; omega
    · rw [← hl.len] at ho
      rw [List.getElem?_eq_none ho] at hx
      cases hx

theorem src_slice {v : Value} {d : DV} {add : List (List DV)} {n : Nat} (hx : RV G v d) (hr : rowsOf d = some add) (hn : ∀ r ∈ add, r.length = n) (hF : G.F.ok w) :
    (add = [] ∧ ∃ A c, v = .slice A 0 c) ∨ ∃ b off c news, v = .slice (some ⟨b, off, none⟩) add.length c ∧ Lies G.F n add news ∧ ∀ (j : Nat) u, news[j]? = some u → w.cell? ((⟨b, off, none⟩ : Addr).add j) = some u := by
  have h := hx.rows hr
  by_cases h0 : add = []
  · subst h0
    obtain ⟨A, c, rfl, _⟩ := h.slice
    exact .inl ⟨rfl, A, c, rfl⟩
  · right
    cases h with
    | sl0 => exact absurd rfl h0
    | sl b off c sz rows x a1 a2 a3 a4 a5 a6 =>
      obtain ⟨_, news, hl, hf⟩ := RI.lies (RI.sl (F := G.F) b off c sz add x a1 a2 a3 a4 a5 a6) hn
      exact ⟨b, off, c, news, rfl, hl, fun j u hj => by rw [add_lit]; exact hF _ _ _ (hf j u hj)⟩
theorem lies_one {F : Facts} {n : Nat} {rows : List (List DV)} {news : List Value} (h : Lies F n rows news) (h1 : ∀ r ∈ rows, ∀ d ∈ r, one0 d = true) : ∀ u ∈ news, u.oneCell' = true := by
  intro u hu
  obtain ⟨o, ho⟩ := List.getElem?_of_mem hu
  obtain ⟨d, ⟨r, hr, hd⟩, hR⟩ := h.cell ho
  exact one_sound hR (h1 r hr d hd)

theorem append_nothing (t e ty : TypeId) (hu : P.underlying t = some (.slice e)) {n b : Nat} {g : Bool} (ht : tI P e = some (n, b, g)) (A B : Option Addr) (sl sc c : Nat) (hle : sl ≤ sc) (w : World) :
    (Builtin.append_ #[t, t] ty #[.slice A sl sc, .slice B 0 c]).run P w = .ok (.slice A sl sc) w := by
  obtain ⟨i, d, hi, h1, h2, _, _⟩ := tI_spec ht
  cases A <;> cases B <;> simp [Builtin.append_, run_under hu, sizeOf, typeInfo, hi, Builtin.lenOf, Builtin.firstCells, loadCells, loadCellsFrom, storeCells, hle]

/-- append to nothing. -/
theorem append_nil_sound (hW : WI P w0 F0 G s w) (t e ty : TypeId) (hu : P.underlying t = some (.slice e)) {n b : Nat} {g : Bool} (ht : tI P e = some (n, b, g)) (hn0 : 0 < n) (hb0 : 0 < b) {z : Value} (hz : zeroT P e = some z) (hzs : z.cells.size = n)
    {vx : Value} {dx : DV} {add : List (List DV)} (hx : RV G vx dx) (hr : rowsOf dx = some add) (hc : (∀ r ∈ add, r.length = n ∧ ∀ d ∈ r, one0 d = true) ∧ add.length * b ≤ 140737488355328) :
    ∃ v w', (Builtin.append_ #[t, t] ty #[.slice none 0 0, vx]).run P w = .ok v w' ∧ Fresh P w0 G e add w v w' := by
  obtain ⟨i, hi, h1, h2, h3⟩ := zero_info ht hz
  have hce := cellsOf_eq ht
  subst h1 h2
  rcases src_slice hx hr (fun r hr => (hc.1 r hr).1) hW.facts with ⟨rfl, A, c, rfl⟩ | ⟨bb, off, c, news, rfl, hl, hcell⟩
  · refine ⟨_, w, append_nothing t e ty hu ht none A 0 0 c (Nat.le_refl _) w, ⟨G.F, Below.refl _ _, Facts.sub_refl _, hW.facts, fun _ _ _ h => .inl h, .inl rfl, fun b hb => by simp [Value.ownBlock] at hb, .sl0 _ _⟩⟩
  · by_cases h0 : add = []
    · subst h0
      refine ⟨_, w, append_nothing t e ty hu ht none _ 0 0 c (Nat.le_refl _) w, ⟨G.F, Below.refl _ _, Facts.sub_refl _, hW.facts, fun _ _ _ h => .inl h, .inl rfl, fun b hb => by simp [Value.ownBlock] at hb, .sl0 _ _⟩⟩
    · have hpos : 0 < add.length := List.length_pos_iff.2 h0
      have hlen : add.length ≤ 140737488355328 := Nat.le_trans (Nat.le_mul_of_pos_right _ hb0) hc.2
      have hr := run_append_nil (P := P) w t ty e i z hu hi h3 ⟨bb, off, none⟩ add.length c news hl.len hcell hpos (by omega) (by omega)
      refine ⟨_, _, hr, ?_⟩
      refine fresh_new hW ((Below.refl _ _).drew.alloc (by exact Nat.le_refl _) _) e add news _ _ (by rw [hce]; exact hl) (heap_alloc_new w.drew _) ?_ (grownCap_ge w add.length 0 e) (grownCap_le_maxLen w add.length 0 e (by unfold maxLen; omega)) ?_
      · rw [Array.toList_append, List.take_append_of_le_length (by simp)]
        simp
      · have := grownCap_ge w add.length 0 e
        rw [Array.size_append, size_zeroCells, hzs, hce]
        simp only [List.size_toArray, hl.len, ← Nat.add_mul]
        congr 1
        omega

theorem fresh_run (hW : WI P w0 F0 G s w) {o : Oper} {ρ : Operand → Value} {ρD : Operand → DV} {e : TypeId} {c : Prop} {rows : List (List DV)} (hρ : ∀ x, RV G (ρ x) (ρD x)) (h : opD P o ρD = .fresh c e rows) (hc : c) :
    ∃ v w', (execOp ρ o).run P w = .ok (.value v) w' ∧ Fresh P w0 G e rows w v w' := by
  unfold opD at h
  unfold execOp
  split at h <;> rename_i hop <;> simp only [hop] <;> (try (first | (cases h; done)))
  case h_7 =>
    rename_i t len parts
    unfold buildSliceD at h
    split at h
    · rename_i e' hu
      split at h
      · rename_i n b g rows' ht hrows
        split at h
        · rename_i hok
          injection h with h1 h2 h3
          subst h1 h2 h3
          simp only [Bool.and_eq_true, decide_eq_true_eq, beq_iff_eq] at hok
          obtain ⟨⟨⟨⟨k1, k2⟩, k3⟩, k4⟩, k5⟩ := hok
          cases hz : zeroT P e' with
          | none => rw [hz] at k5; cases k5
          | some z =>
            have hp := parts_ev hρ parts
            replace hrows : rowsD n 0 (parts.toList.map fun (i, x) => (i, ρD x)) = some rows' := by rw [ht] at hrows; exact hrows
            have hrl : ∀ (dp : List (Nat × DV)) (k : Nat) (rr : List (List DV)), rowsD n k dp = some rr → rr.length = dp.length := by
              intro dp
              induction dp with
              | nil => intro k rr h; simp [rowsD] at h; subst h; rfl
              | cons y dp ih =>
                intro k rr h
                simp only [rowsD] at h
                split at h
                · cases hq : rowsD n (k + 1) dp with
                  | none => rw [hq] at h; cases h
                  | some q => rw [hq] at h; simp only [Option.map_some, Option.some.injEq] at h; subst h; simp [ih _ _ hq]
                · cases h
            have hpl : (parts.map fun (i, x) => (i, ρ x)).toList.length = len := by rw [hp.1, ← hrl _ _ _ hrows, k3]
            have hsz0 : ∀ (zz : Array Value), ((Array.range (len * n)).map (zz[· % zz.size]!)).size = len * n := by intro zz; simp
            have hcs0 : ∀ zz : Array Value, ∃ cs' news, Instr.fill (fun i => some (i * n, n)) ((Array.range (len * n)).map (zz[· % zz.size]!)) (parts.map fun (i, x) => (i, ρ x)).toList = some cs' ∧ cs'.toList = news ∧ Lies G.F n rows' news := by
              intro zz
              obtain ⟨cs', news, a1, a2, a3⟩ := fill_rows (G := G) n _ _ 0 ((Array.range (len * n)).map (zz[· % zz.size]!)) rows' hp.1 hp.2 hrows hc (by rw [hsz0, Nat.zero_add, hpl])
              exact ⟨cs', news, a1, by rw [a2]; simp, a3⟩
            have hce := cellsOf_eq ht
            have hnl : ¬ (len * n > 2 ^ 24) := by omega
            obtain ⟨zz, hzz⟩ : ∃ zz : Array Value, (len * n = 0 → zz = #[]) ∧ (len * n ≠ 0 → zz = z.cells) := by
              by_cases h0 : len * n = 0
              · exact ⟨#[], fun _ => rfl, fun h => absurd h0 h⟩
              · exact ⟨z.cells, fun h => absurd h h0, fun _ => rfl⟩
            obtain ⟨cs', news, a1, rfl, a3⟩ := hcs0 zz
            refine ⟨.slice (some ⟨w.heap.size, 0, none⟩) rows'.length len, w.alloc (.cells cs' e'), ?_, ?_⟩
            · simp only [Instr.buildSlice, Sem.run_bind, run_under hu, run_size ht, Result.andThen_ok]
              rw [if_neg hnl]
              by_cases h0 : len * n = 0
              · rw [hzz.1 h0] at a1
                rw [if_pos h0]
                simp only [Sem.run_bind, Sem.run_pure, Result.andThen_ok]
                rw [a1]
                simp only [Sem.run_bind, newRow, run_newObj, Result.andThen_ok, Sem.run_pure, k3]
                rfl
              · rw [hzz.2 h0] at a1
                rw [if_neg h0]
                simp only [Sem.run_bind, Sem.run_pure, run_zero hz, Result.andThen_ok]
                rw [a1]
                simp only [Sem.run_bind, newRow, run_newObj, Result.andThen_ok, Sem.run_pure, k3]
                rfl
            · have hml : len ≤ 16777216 := Nat.le_trans (Nat.le_mul_of_pos_right _ k1) k4
              exact fresh_new hW ((Below.refl _ _).alloc (Nat.le_refl _) _) e' rows' cs'.toList cs' len (by rw [hce]; exact a3) (heap_alloc_new w _) (List.take_length ..) (by omega) (by unfold maxLen; omega) (by rw [hce, ← Array.length_toList, a3.len, k3])
        · cases h
      · cases h
    · cases h
  case h_8 =>
    rename_i t lx cx
    unfold makeSliceD at h
    split at h
    · rename_i e' l c hu hl hc'
      split at h
      · rename_i n b g z ht hz
        split at h
        · rename_i hok
          injection h with h1 h2 h3
          subst h1 h2 h3
          simp only [Bool.and_eq_true, decide_eq_true_eq, beq_iff_eq] at hok
          obtain ⟨⟨⟨k1, k2⟩, k3⟩, k4⟩ := hok
          obtain ⟨c1, c2, c3, c4⟩ := hc
          obtain ⟨kl, hlv⟩ := (hρ lx).int hl
          obtain ⟨kc, hcv⟩ := (hρ cx).int hc'
          obtain ⟨i, hi, hi1, hi2, hi3⟩ := zero_info ht hz
          have hce := cellsOf_eq ht
          have hcl : c.toNat ≤ 140737488355328 := by
            have h1 : c * 1 ≤ c * b := Int.mul_le_mul_of_nonneg_left (by omega) (by omega)
            rw [Int.mul_one] at h1
            omega
          have hw1 : IntKind.i64.wrap l = l := IntWalk.i64_in _ (by omega)
          have hw2 : IntKind.i64.wrap c = c := IntWalk.i64_in _ (by omega)
          have hcb : (b : Int) * c ≤ 140737488355328 := by rw [Int.mul_comm]; exact c3
          have hnt : (decide (c < 0) || decide ((b : Int) * c > 2 ^ 48)) = false := by simp; omega
          have hz1 : z.cells.size = n := k3
          have hnews : Lies G.F n (List.replicate l.toNat ((lit z).cells.map imm0)) ((List.replicate l.toNat z.cells.toList).flatten) := by
            have hzc := zero_cells (G := G) k4
            have hzl : (lit z).cells.length = n := by rw [← hzc.1]; simpa using hz1
            have one : Lies G.F n [(lit z).cells.map imm0] z.cells.toList := by
              refine ⟨by simp [hz1], fun r hr => by simp at hr; subst hr; simp [hzl], fun i r hi j dd hj => ?_⟩
              cases i with
              | zero =>
                simp at hi
                subst hi
                have hdd := List.mem_of_getElem? hj
                rw [List.getElem?_map] at hj
                cases hd : (lit z).cells[j]? with
                | none => rw [hd] at hj; simp at hj
                | some dd' =>
                  rw [hd] at hj
                  simp at hj
                  subst hj
                  have hjl : j < z.cells.toList.length := by rw [hzc.1]; exact (List.getElem?_eq_some_iff.1 hd).1
                  exact ⟨z.cells.toList[j], by simp only [Nat.zero_mul, Nat.zero_add]; exact List.getElem?_eq_getElem hjl, (hzc.2 j _ dd' (List.getElem?_eq_getElem hjl) hd).imm0.pure (c4 _ hdd)⟩
              | succ i => simp at hi
            generalize l.toNat = m
            induction m with
            | zero => exact Lies.nil _ _
            | succ m ih =>
              rw [List.replicate_succ, List.replicate_succ, List.flatten_cons]
              exact one.append ih
          have hcur : ∀ k, ((Array.range (k * n)).map (z.cells[· % z.cells.size]!)).toList = (List.replicate k z.cells.toList).flatten := by
            intro k
            have := zero_rep z.cells k
            rw [hz1] at this
            rw [hz1]
            exact this
          have hwz : ∃ zz : Array Value, (c.toNat * n = 0 → zz = #[]) ∧ (c.toNat * n ≠ 0 → zz = z.cells) := by
            by_cases h0 : c.toNat * n = 0
            · exact ⟨#[], fun _ => rfl, fun h => absurd h0 h⟩
            · exact ⟨z.cells, fun h => absurd h h0, fun _ => rfl⟩
          refine ⟨.slice (some ⟨w.heap.size, 0, none⟩) (List.replicate l.toNat ((lit z).cells.map imm0)).length c.toNat, w.alloc (.cells ((Array.range (c.toNat * n)).map (z.cells[· % z.cells.size]!)) e'), ?_, ?_⟩
          · simp only [hlv, hcv, Instr.makeSlice, Sem.run_bind, run_under hu, Result.andThen_ok, asInt, asIntOf_run, Sem.run_pure, typeInfo, run_program, hi, hw1, hw2, hi2, hnt, Bool.false_or]
            rw [if_neg (by simp; omega)]
            simp only [Sem.run_bind, run_askRoom, Result.andThen_ok, run_size ht]
            by_cases h0 : c.toNat * n = 0
            · rw [if_pos h0]
              simp only [Sem.run_bind, Sem.run_pure, Result.andThen_ok, newRow, run_newObj, h0, List.length_replicate]
              have e0 : ∀ f : Nat → Value, (Array.range 0).map f = #[] := fun f => by simp
              rw [e0, e0]
              rfl
            · rw [if_neg h0]
              simp only [Sem.run_bind, Sem.run_pure, run_zero hz, Result.andThen_ok, newRow, run_newObj, List.length_replicate]
              rfl
          · refine fresh_new hW ((Below.refl _ _).alloc (Nat.le_refl _) _) e' _ _ _ c.toNat (by rw [hce]; exact hnews) (heap_alloc_new w _) ?_ (by rw [List.length_replicate]; omega) (by unfold maxLen; omega) (by rw [hce]; simp)
            rw [hcur]
            have hsplit : c.toNat = l.toNat + (c.toNat - l.toNat) := by omega
            rw [hsplit, ← List.replicate_append_replicate, List.flatten_append]
            exact List.take_left
        · cases h
      · cases h
    · cases h
  case h_21 =>
    rename_i cl
    unfold callD at h
    split at h
    · rename_i hcal
      split at h
      · unfold lenD at h
        repeat' (first | split at h | (cases h; done))
      · cases h
    · rename_i hcal
      split at h
      · rename_i sx x hargs
        unfold appendD at h
        split at h
        · rename_i t t' hat
          split at h
          · rename_i e' hu
            split at h
            · rename_i n b g add ht hr
              split at h
              · rename_i hok
                simp only [Bool.and_eq_true, decide_eq_true_eq, beq_iff_eq] at hok
                obtain ⟨⟨⟨rfl, k2⟩, k3⟩, k4⟩ := hok
                split at h
                · rename_i hs
                  injection h with h1 h2 h3
                  subst h1 h2 h3
                  cases hz : zeroT P e' with
                  | none => rw [hz] at k4; cases k4
                  | some z =>
                    rw [hz] at k4
                    simp only [Option.any_some, beq_iff_eq] at k4
                    have hsv := hρ sx
                    rw [hs] at hsv
                    have hsv' := hsv.raw
                    obtain ⟨v, w', hv, hf⟩ := append_nil_sound hW t e' o.type hu ht k2 k3 hz k4 (hρ x) hr hc
                    have e1 : cl.args = #[sx, x] := by rw [← Array.toArray_toList (xs := cl.args), hargs]
                    have e2 : cl.argTypes = #[t, t] := by rw [← Array.toArray_toList (xs := cl.argTypes), hat]
                    refine ⟨v, w', ?_, hf⟩
                    simp only [resolve, hcal, e1, e2, Sem.run_bind, Sem.run_pure, Result.andThen_ok, invoke, builtin, List.map_toArray, List.map_cons, List.map_nil, hsv', hv]
                · cases h
                · cases h
              · cases h
            · cases h
          · cases h
        · cases h
      · cases h
    · split at h
      · split at h <;> cases h
      · cases h
      · cases h
    · cases h
  all_goals
    exfalso
    clear hop
    first
      | (cases h; done)
      | (split at h <;> cases h; done)
      | (unfold loadD at h; repeat' (first | split at h | (cases h; done)))
      | (unfold storeD at h; repeat' (first | split at h | (cases h; done)))
      | (unfold buildD at h; repeat' (first | split at h | (cases h; done)))
      | (unfold buildSliceD at h; repeat' (first | split at h | (cases h; done)))
      | (unfold makeSliceD at h; repeat' (first | split at h | (cases h; done)))
      | (unfold binD intD strD at h; repeat' (first | split at h | (cases h; done)))
      | (unfold unD at h; repeat' (first | split at h | (cases h; done)))
      | (unfold convD at h; repeat' (first | split at h | (cases h; done)))
      | (unfold sliceD sliceS sliceR at h; repeat' (first | split at h | (cases h; done)))
      | (unfold fieldAddrD at h; repeat' (first | split at h | (cases h; done)))
      | (unfold fieldD at h; repeat' (first | split at h | (cases h; done)))
      | (unfold indexAddrD at h; repeat' (first | split at h | (cases h; done)))
      | (unfold indexD at h; repeat' (first | split at h | (cases h; done)))
      | (unfold callD lenD appendD at h; repeat' (first | split at h | (cases h; done)))
      | (unfold lookupD at h; repeat' (first | split at h | (cases h; done)))
      | (unfold updateD at h; repeat' (first | split at h | (cases h; done)))
      | (unfold funcD at h; repeat' (first | split at h | (cases h; done)))
      | (repeat' (first | split at h | (cases h; done)))
end
end Go.Proofs.YtdbaklnjemcfgaaGreatDoor.D
