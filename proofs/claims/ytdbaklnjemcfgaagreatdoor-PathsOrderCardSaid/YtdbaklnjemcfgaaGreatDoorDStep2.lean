/- What an operation that reads or writes a box, lets a slice grow or calls does in the model. Conditions: none. -/
import Derived.Test.YtdbaklnjemcfgaaGreatDoorDStep
namespace Go.Proofs.YtdbaklnjemcfgaaGreatDoor.D
open Go.RowKit Go.Proofs.YtdbaklnjemcfgaaGreatDoor.Mem
set_option linter.unusedVariables false
set_option linter.unusedSimpArgs false

section
variable {P : Program} {w0 w w' : World} {F0 : Facts} {G : Gh} {s : St}

theorem load_run (hW : WI P w0 F0 G s w) {o : Oper} {ρ : Operand → Value} {ρD : Operand → DV} {k : Key} {off n : Nat} {g : Bool} (hρ : ∀ x, RV G (ρ x) (ρD x)) (h : opD P o ρD = .load k off n g) {cells : List DV} (hc : s.heap k = some cells) (hl : off + n ≤ cells.length) :
    ∃ v, (execOp ρ o).run P w = .ok (.value v) w ∧ RV G v (mk g ((cells.drop off).take n)) := by
  unfold opD at h
  unfold execOp
  split at h <;> rename_i hop <;> simp only [hop] <;> (try (first | (cases h; done)))
  case h_9 =>
    rename_i t a
    unfold loadD at h
    split at h
    · cases h
    · rename_i k' off' n' b g' ha ht
      split at h
      · rename_i hg
        injection h with h1 h2 h3 h4
        subst h1 h2 h3 h4
        have hv := hρ a
        rw [ha] at hv
        generalize ρ a = va at hv ⊢
        cases hv.leaf' rfl with
        | imm h => cases h
        | ref _ hb =>
          rename_i blk
          obtain ⟨cells', cs, tt, h1, h2, h3, h4, h5⟩ := hW.box _ _ hb
          rw [hc] at h1
          injection h1 with h1
          subst h1
          have hg1 : g' = false → n' = 1 := by
            intro hg'; subst hg'; simpa using hg
          have hrc := (h4.drop off').take n'
          have hlen : ((cs.toList.drop off').take n').length = n' := by
            rw [List.length_take, List.length_drop, h4.1]; omega
          refine ⟨_, ?_, mk_of hrc hlen hg1⟩
          simp only [Instr.loadAt, Sem.run_bind, sureAddr_run, Result.andThen_ok]
          rw [run_loadVar_of ht blk off' _ hlen hg1 w (fun j x hj => ?_)]
          · rfl
          · rw [List.getElem?_take] at hj
            split at hj
            · rw [List.getElem?_drop] at hj
              simp only [World.cell?, h3]
              simpa using hj
            · cases hj
      · cases h
    · cases h
  all_goals
    exfalso
    clear hop
    first
      | (cases h; done)
      | (split at h <;> cases h; done)
      | (unfold loadD at h; repeat' (first | split at h | (cases h; done)))
      | (unfold storeD at h; repeat' (first | split at h | (cases h; done)))
      | (unfold buildD at h; repeat' (first | split at h | (cases h; done)))
      | (unfold buildSliceD at h; repeat' (first | split at h | (cases h; done)))
      | (unfold makeSliceD at h; repeat' (first | split at h | (cases h; done)))
      | (unfold binD intD strD at h; repeat' (first | split at h | (cases h; done)))
      | (unfold unD at h; repeat' (first | split at h | (cases h; done)))
      | (unfold convD at h; repeat' (first | split at h | (cases h; done)))
      | (unfold sliceD sliceS sliceR at h; repeat' (first | split at h | (cases h; done)))
      | (unfold fieldAddrD at h; repeat' (first | split at h | (cases h; done)))
      | (unfold fieldD at h; repeat' (first | split at h | (cases h; done)))
      | (unfold indexAddrD at h; repeat' (first | split at h | (cases h; done)))
      | (unfold indexD at h; repeat' (first | split at h | (cases h; done)))
      | (unfold callD lenD appendD at h; repeat' (first | split at h | (cases h; done)))
      | (unfold lookupD at h; repeat' (first | split at h | (cases h; done)))
      | (unfold updateD at h; repeat' (first | split at h | (cases h; done)))
      | (unfold funcD at h; repeat' (first | split at h | (cases h; done)))
      | (repeat' (first | split at h | (cases h; done)))

/-- A box with other cells. -/
theorem WI.setBox (h : WI P w0 F0 G s w) (k : Key) (b : Nat) (hk : G.box k = some b) (ev : Nat → DV) (old new : Array Value) (t : TypeId) (hh : w.heap[b]? = some (.cells old t (0, 0))) (cells : List DV) (hc : RC G new.toList cells) :
    WI P w0 F0 G { env := ev, heap := updK s.heap k (some cells), tip := s.tip, gen := s.gen } (w.setRow b new) := by
  have hother : ∀ b', b' ≠ b → (w.setRow b new).heap[b']? = w.heap[b']? := fun b' hb' => setRow_other w b b' new hb'
  have hsize : (w.setRow b new).heap.size = w.heap.size := by simp [World.setRow]
  obtain ⟨_, _, _, _, hbase, _, _, hnoF⟩ := h.box k b hk
  exact {
    base := h.base
    below := ⟨h.below.os, h.below.tape, h.below.output, by rw [hsize]; exact h.below.size, fun b' hb' => (hother b' (by omega)).trans (h.below.block b' hb')⟩
    facts := fun b' o x hx => by
      have hne : b' ≠ b := fun e => by subst e; exact hnoF o x hx
      have := h.facts b' o x hx
      unfold World.cell? at this ⊢
      simp only [hother b' hne]
      exact this
    f0 := h.f0
    fnew := h.fnew
    box := fun k' b' hk' => by
      by_cases hkk : k' = k
      · subst hkk
        rw [hk] at hk'
        injection hk' with hk'
        subst hk'
        exact ⟨cells, new, t, by simp [updK_same], hbase, setRow_heap w b old new t (0, 0) hh, hc, hnoF⟩
      · obtain ⟨cells', cs', t', h1, h2, h3, h4, h5⟩ := h.box k' b' hk'
        have hne : b' ≠ b := fun e => by subst e; exact hkk (h.box2 k' k b' hk' hk)
        exact ⟨cells', cs', t', by simp only [updK_ne _ _ hkk]; exact h1, h2, (hother b' hne).trans h3, h4, h5⟩
    mp := fun k' b' hk' => by
      obtain ⟨h0, h1, es, clk, h2, h3⟩ := h.mp k' b' hk'
      have hkk : k' ≠ k := fun e => by subst e; rw [hk] at h0; cases h0
      simp only [updK_ne _ _ hkk]
      exact ⟨h0, h1, es, clk, h2, (hother b' (h.map_box hk' hk)).trans h3⟩
    mp2 := h.mp2
    hbox := fun k' cells' hk' => by
      by_cases hkk : k' = k
      · subst hkk; exact .inl ⟨b, hk⟩
      · simp only [updK_ne _ _ hkk] at hk'
        exact h.hbox k' cells' hk'
    tip := fun k' v e u hk' => ⟨(h.tip k' v e u hk').1, (h.tip k' v e u hk').2.of_heap fun b' hb' => hother b' (fun e => by subst e; exact h.boxtip k k' b' _ _ _ hk hk' hb')⟩
    htip := h.htip
    box2 := h.box2
    tip2 := h.tip2
    boxtip := h.boxtip
    fresh := h.fresh }

theorem store_run (hW : WI P w0 F0 G s w) {o : Oper} {ρ : Operand → Value} {ρD : Operand → DV} {k : Key} {off n : Nat} {new : List DV} (hρ : ∀ x, RV G (ρ x) (ρD x)) (h : opD P o ρD = .store k off n new) {cells : List DV} (hc : s.heap k = some cells) (hn : new.length = n) (hl : off + n ≤ cells.length)
    (h1 : ∀ d ∈ new, one0 (imm0 d) = true ∨ ∃ k' o', d = .ref k' o') :
    ∃ w', (execOp ρ o).run P w = .ok .skip w' ∧ ∀ ev, WI P w0 F0 G { env := ev, heap := updK s.heap k (some (splice cells off new)), tip := s.tip, gen := s.gen } w' := by
  unfold opD at h
  unfold execOp
  split at h <;> rename_i hop <;> simp only [hop] <;> (try (first | (cases h; done)))
  case h_10 =>
    rename_i t a v
    unfold storeD at h
    split at h
    · rename_i k' off' n' b g' ha ht
      split at h
      · rename_i hnt
        injection h with e1 e2 e3 e4
        subst e1 e2 e3 e4
        have hva := hρ a
        rw [ha] at hva
        have hvv := (hρ v).cells hnt
        generalize ρ a = va at hva ⊢
        cases hva.leaf' rfl with
        | imm h => cases h
        | ref _ hb =>
          rename_i blk
          obtain ⟨cells', cs, tt, q1, q2, q3, q4, q5⟩ := hW.box _ _ hb
          rw [hc] at q1
          injection q1 with q1
          subst q1
          have hvs : (ρ v).cells.size = n' := by rw [← hn, ← hvv.1]; simp
          have hone : ∀ u ∈ (ρ v).cells.toList, u.oneCell' = true := by
            intro u hu
            obtain ⟨j, hj⟩ := List.getElem?_of_mem hu
            have hjl : j < (ρD v).cells.length := by rw [← hvv.1]; exact (List.getElem?_eq_some_iff.1 hj).1
            have hR := hvv.2 j u _ hj (List.getElem?_eq_getElem hjl)
            rcases h1 _ (List.getElem_mem hjl) with hd | ⟨k', o', hd⟩
            · have hR' := hR.imm0
              generalize imm0 (ρD v).cells[j] = d at hd hR'
              cases hR' with
              | imm h => exact one_sound h hd
              | own => simp [one0] at hd
              | ref => simp [one0] at hd
              | mref => simp [one0] at hd
              | clo => simp [one0] at hd
            · rw [hd] at hR
              cases hR with
              | imm h => cases h
              | ref => rfl
          have hcs : cs.size = cells.length := by rw [← q4.1]; simp
          have hst := run_storeCells_at P blk off' tt (ρ v).cells.toList 0 cs w q3 (by simp [hvs]; omega) hone
          refine ⟨w.setRow blk (cs.toList.take (off' + 0) ++ (ρ v).cells.toList ++ cs.toList.drop (off' + 0 + (ρ v).cells.toList.length)).toArray, ?_, fun ev => ?_⟩
          · simp only [Instr.storeAt, Sem.run_bind, sureAddr_run, Result.andThen_ok, storeVar, run_size ht]
            rw [if_neg (by rw [hvs]; simp)]
            rw [hst]
            rfl
          · refine hW.setBox k' blk hb ev cs _ tt q3 (splice cells off' (ρD v).cells) ?_
            have := q4.splice hvv off' (by rw [hvv.1, q4.1]; omega)
            simpa using this
      · cases h
    · cases h
  all_goals
    exfalso
    clear hop
    first
      | (cases h; done)
      | (split at h <;> cases h; done)
      | (unfold loadD at h; repeat' (first | split at h | (cases h; done)))
      | (unfold storeD at h; repeat' (first | split at h | (cases h; done)))
      | (unfold buildD at h; repeat' (first | split at h | (cases h; done)))
      | (unfold buildSliceD at h; repeat' (first | split at h | (cases h; done)))
      | (unfold makeSliceD at h; repeat' (first | split at h | (cases h; done)))
      | (unfold binD intD strD at h; repeat' (first | split at h | (cases h; done)))
      | (unfold unD at h; repeat' (first | split at h | (cases h; done)))
      | (unfold convD at h; repeat' (first | split at h | (cases h; done)))
      | (unfold sliceD sliceS sliceR at h; repeat' (first | split at h | (cases h; done)))
      | (unfold fieldAddrD at h; repeat' (first | split at h | (cases h; done)))
      | (unfold fieldD at h; repeat' (first | split at h | (cases h; done)))
      | (unfold indexAddrD at h; repeat' (first | split at h | (cases h; done)))
      | (unfold indexD at h; repeat' (first | split at h | (cases h; done)))
      | (unfold callD lenD appendD at h; repeat' (first | split at h | (cases h; done)))
      | (unfold lookupD at h; repeat' (first | split at h | (cases h; done)))
      | (unfold updateD at h; repeat' (first | split at h | (cases h; done)))
      | (unfold funcD at h; repeat' (first | split at h | (cases h; done)))
      | (repeat' (first | split at h | (cases h; done)))

/-- append(s, x): a slice of the call's own, and what grows of it. -/
theorem grow_sound (hW : WI P w0 F0 G s w) (k : Key) (ver : Nat) (t e ty : TypeId) (hu : P.underlying t = some (.slice e)) {n b : Nat} {g : Bool} (ht : tI P e = some (n, b, g)) (hn0 : 0 < n) (hb0 : 0 < b) {z : Value} (hz : zeroT P e = some z) (hzs : z.cells.size = n)
    {vs vx : Value} {dx : DV} {rows add : List (List DV)} (hsv : RL G vs (.own k ver rows)) (htip : s.tip k = some (ver, e)) (hx : RV G vx dx) (hr : rowsOf dx = some add)
    (hc : (∀ r ∈ rows, r.length = n) ∧ (∀ r ∈ add, r.length = n ∧ ∀ d ∈ r, one0 d = true) ∧ (rows.length + add.length) * b ≤ 140737488355328) (ev : Nat → DV) :
    ∃ v w' F', (Builtin.append_ #[t, t] ty #[vs, vx]).run P w = .ok v w' ∧
      WI P w0 F0 { F := F', box := G.box, mp := G.mp, tip := updK G.tip k (some (ver + 1, e, v)) } { env := ev, heap := s.heap, tip := updK s.tip k (some (ver + 1, e)), gen := s.gen } w' ∧
      Gh.le G { F := F', box := G.box, mp := G.mp, tip := updK G.tip k (some (ver + 1, e, v)) } ∧ RI F' v (.sl (rows ++ add)) := by
  obtain ⟨i, hi, hi1, hi2, hi3⟩ := zero_info ht hz
  have hce := cellsOf_eq ht
  obtain ⟨u, hk⟩ := hW.htip k ver e htip
  cases hsv with
  | imm h => cases h
  | own hri _ huu =>
  have huv := huu e u hk
  subst huv
  have htok := (hW.tip k ver e u hk).2
  rw [hce] at htok
  subst hi1 hi2
  have hlen : rows.length + add.length ≤ 140737488355328 := Nat.le_trans (Nat.le_mul_of_pos_right _ hb0) hc.2.2
  have hbase : ∀ bb, u.ownBlock = some bb → w0.heap.size ≤ bb := by
    intro bb hb
    rcases htok with rfl | ⟨b', n', c, cur, rfl, h1, _⟩
    · simp [Value.ownBlock] at hb
    · simp [Value.ownBlock] at hb; subst hb; exact h1
  have stay : ∀ (hadd : add = []), (Builtin.append_ #[t, t] ty #[u, vx]).run P w = .ok u w → ∃ v w' F', (Builtin.append_ #[t, t] ty #[u, vx]).run P w = .ok v w' ∧
      WI P w0 F0 { F := F', box := G.box, mp := G.mp, tip := updK G.tip k (some (ver + 1, e, v)) } { env := ev, heap := s.heap, tip := updK s.tip k (some (ver + 1, e)), gen := s.gen } w' ∧
      Gh.le G { F := F', box := G.box, mp := G.mp, tip := updK G.tip k (some (ver + 1, e, v)) } ∧ RI F' v (.sl (rows ++ add)) := by
    intro hadd hrun
    subst hadd
    have := hW.growTip k ver e u hk ev rfl rfl rfl (Nat.le_refl _) (fun _ _ _ => rfl) u G.F (Facts.sub_refl _) hW.facts (fun b o x hx => .inl hx) (by rw [hce]; exact htok) (fun b hb => .inr hb.symm)
    exact ⟨u, w, G.F, hrun, this.1, this.2, by rw [List.append_nil]; exact hri⟩
  rcases htok with rfl | ⟨bb, m, c, cur, rfl, h1, h2, h3, h4, h5, h6⟩
  · -- nothing there yet
    have hrows : rows = [] := by
      obtain ⟨A, cc, hq, _⟩ := hri.slice
      injection hq with _ hq _
      exact List.eq_nil_of_length_eq_zero hq.symm
    subst hrows
    obtain ⟨v, w', hv, hf⟩ := append_nil_sound hW t e ty hu ht hn0 hb0 hz hzs hx hr ⟨hc.2.1, by simpa using hc.2.2⟩
    obtain ⟨F', hb, hs, hok, hnew, htk, hub, hR⟩ := hf.ex
    have := hW.growTip k ver e _ hk ev hb.os hb.tape hb.output hb.size (fun b hb' _ => hb.block b hb') v F' hs hok (fun b o x hx => (hnew b o x hx).imp id .inl) htk (fun b hb => .inl (hub b hb))
    exact ⟨v, w', F', hv, this.1, this.2, by simpa using hR⟩
  · obtain ⟨hm, vals, hlies, hfacts⟩ := hri.lies hc.1
    subst hm
    rcases src_slice hx hr (fun r hr => (hc.2.1 r hr).1) hW.facts with ⟨rfl, A, cc, rfl⟩ | ⟨sb, off, cc, news, rfl, hl, hcell⟩
    · exact stay rfl (append_nothing t e ty hu ht _ A _ c cc h3 w)
    · by_cases h0 : add = []
      · subst h0
        exact stay rfl (append_nothing t e ty hu ht _ _ _ c cc h3 w)
      · have hone := lies_one hl (fun r hr => (hc.2.1 r hr).2)
        have hlv : vals.length = rows.length * i.size := hlies.len
        have hvcur : ∀ (o : Nat) y, vals[o]? = some y → cur[o]? = some y := by
          intro o y ho
          have := hW.facts _ _ _ (hfacts o y ho)
          simp only [Nat.zero_add, World.cell?, h2] at this
          simpa using this
        have htake : cur.toList.take (rows.length * i.size) = vals := by
          apply List.ext_getElem?
          intro o
          rw [List.getElem?_take]
          by_cases ho : o < rows.length * i.size
          · rw [if_pos ho]
            have hov : o < vals.length := by omega
            rw [List.getElem?_eq_getElem hov, Array.getElem?_toList]
            exact hvcur o _ (List.getElem?_eq_getElem hov)
          · rw [if_neg ho, List.getElem?_eq_none (by omega)]
        have hmono : rows.length * i.size + add.length * i.size = (rows.length + add.length) * i.size := (Nat.add_mul ..).symm
        by_cases hroom : rows.length + add.length ≤ c
        · -- in its place
          have hfit : rows.length * i.size + news.length ≤ cur.size := by rw [hl.len, h5, hmono]; exact Nat.mul_le_mul_right _ hroom
          have hrun := run_append_room (P := P) w t ty e i hu hi bb rows.length c cur h2 ⟨sb, off, none⟩ add.length cc news hl.len hcell hone hroom hfit
          let new := (cur.toList.take (rows.length * i.size) ++ news ++ cur.toList.drop (rows.length * i.size + news.length)).toArray
          have hnewat : (w.setRow bb new).heap[bb]? = some (.cells new e (0, 0)) := setRow_heap w bb cur new e (0, 0) h2
          have hother : ∀ b', b' ≠ bb → (w.setRow bb new).heap[b']? = w.heap[b']? := fun b' hb' => setRow_other w bb b' new hb'
          have hnl : new.toList = vals ++ news ++ cur.toList.drop (rows.length * i.size + news.length) := by simp only [new, htake]
          let F' : Facts := G.F.or (factsOf bb (vals ++ news))
          have hok : F'.ok (w.setRow bb new) := by
            intro b' o x hx
            have at_bb : (vals ++ news)[o]? = some x → (w.setRow bb new).cell? ⟨bb, o, none⟩ = some x := by
              intro ho
              simp only [World.cell?, hnewat, Option.isSome_none, Bool.false_eq_true, if_false]
              rw [← Array.getElem?_toList, hnl, List.getElem?_append_left (List.getElem?_eq_some_iff.1 ho).1]
              exact ho
            rcases hx with hx | ⟨rfl, hx⟩
            · by_cases hb' : b' = bb
              · subst hb'
                have ho : o < rows.length * i.size := Nat.lt_of_not_le (fun hle => h6 o x hle hx)
                have hov : o < vals.length := by omega
                have hcx := hW.facts _ _ _ hx
                simp only [World.cell?, h2, Option.isSome_none, Bool.false_eq_true, if_false] at hcx
                have := hvcur o _ (List.getElem?_eq_getElem hov)
                rw [hcx] at this
                refine at_bb ?_
                rw [List.getElem?_append_left hov, List.getElem?_eq_getElem hov]
                exact this.symm
              · have := hW.facts b' o x hx
                unfold World.cell? at this ⊢
                simp only [hother b' hb']
                exact this
            · exact at_bb hx
          have hnewF : ∀ b' o x, F' b' o x → G.F b' o x ∨ w.heap.size ≤ b' ∨ some b' = (Value.slice (some ⟨bb, 0, none⟩) rows.length c).ownBlock := by
            intro b' o x hx
            rcases hx with hx | ⟨rfl, _⟩
            · exact .inl hx
            · exact .inr (.inr rfl)
          have htk : TipOk w0.heap.size F' (w.setRow bb new) e (P.cellsOf e) (.slice (some ⟨bb, 0, none⟩) (rows.length + add.length) c) := by
            refine .inr ⟨bb, _, c, new, rfl, h1, hnewat, hroom, h4, ?_, fun o x ho hx => ?_⟩
            · have hns : new.size = cur.size := by
                rw [← Array.length_toList (xs := new), hnl, List.length_append, List.length_append, List.length_drop, hlv, hl.len, Array.length_toList (xs := cur)]
                rw [hl.len] at hfit
                omega
              rw [hce, hns, h5]
            · rw [hce, ← hmono] at ho
              rcases hx with hx | ⟨_, hx⟩
              · exact h6 o x (by omega) hx
              · rw [List.getElem?_eq_none (by rw [List.length_append, hlv, hl.len]; exact ho)] at hx
                cases hx
          have := hW.growTip k ver e _ hk ev (w' := w.setRow bb new) rfl rfl rfl (by simp [World.setRow]) (fun b' _ hb' => hother b' (fun e => hb' (by simp [Value.ownBlock, e]))) _ F' (Facts.sub_or _ _) hok hnewF htk (fun b' hb' => .inr hb'.symm)
          refine ⟨_, _, F', hrun, this.1, this.2, ?_⟩
          have hli := (hlies.append hl).mono (Facts.sub_or G.F (factsOf bb (vals ++ news)))
          have := hli.ri bb 0 c (fun o y ho => .inr ⟨rfl, by simpa using ho⟩) (by rw [List.length_append]; omega) (by rw [List.length_append]; exact hroom)
          rwa [List.length_append] at this
        · -- elsewhere
          have hrun := run_append_grow (P := P) w t ty e i z hu hi hi3 ⟨bb, 0, none⟩ rows.length c vals hlv (fun j v hj => by rw [add_lit]; exact hW.facts _ _ _ (hfacts j v hj)) ⟨sb, off, none⟩ add.length cc news hl.len hcell (by omega) (by omega) (growslice_fits (by omega) hc.2.2)
          have hge := grownCap_ge w (rows.length + add.length) c e
          have hmax := grownCap_le_maxLen w (rows.length + add.length) c e (by unfold maxLen; omega)
          have hbelow : Below w.heap.size w (w.drew.alloc (.cells (vals.toArray ++ news.toArray ++ Builtin.zeroCells z.cells (grownCap w (rows.length + add.length) c e - (rows.length + add.length))) e)) := (Below.refl _ _).drew.alloc (by exact Nat.le_refl _) _
          have hf := fresh_new hW hbelow e (rows ++ add) (vals ++ news) _ (grownCap w (rows.length + add.length) c e) (by rw [hce]; exact hlies.append hl) (heap_alloc_new w.drew _) (by
              have e3 : (vals.toArray ++ news.toArray ++ Builtin.zeroCells z.cells (grownCap w (rows.length + add.length) c e - (rows.length + add.length))).toList = (vals ++ news) ++ (Builtin.zeroCells z.cells (grownCap w (rows.length + add.length) c e - (rows.length + add.length))).toList := by simp
              rw [e3]
              exact List.take_left) (by rw [List.length_append]; exact hge) hmax (by
              rw [Array.size_append, Array.size_append, size_zeroCells, hzs, hce]
              simp only [List.size_toArray, hlv, hl.len, hmono, ← Nat.add_mul]
              congr 1
              omega)
          obtain ⟨F', hb, hs, hok, hnew, htk, hub, hR⟩ := hf.ex
          rw [List.length_append] at htk hub hR
          have := hW.growTip k ver e _ hk ev hb.os hb.tape hb.output hb.size (fun b hb' _ => hb.block b hb') _ F' hs hok (fun b o x hx => (hnew b o x hx).imp id .inl) htk (fun b hb => .inl (hub b hb))
          exact ⟨_, _, F', hrun, this.1, this.2, hR⟩

theorem grow_run (hW : WI P w0 F0 G s w) {o : Oper} {ρ : Operand → Value} {ρD : Operand → DV} {c : Prop} {k : Key} {ver : Nat} {e : TypeId} {rows add : List (List DV)} (hρ : ∀ x, RV G (ρ x) (ρD x)) (h : opD P o ρD = .grow c k ver e rows add) (hc : c) (htip : s.tip k = some (ver, e)) (ev : Nat → DV) :
    ∃ v w' F', (execOp ρ o).run P w = .ok (.value v) w' ∧
      WI P w0 F0 { F := F', box := G.box, mp := G.mp, tip := updK G.tip k (some (ver + 1, e, v)) } { env := ev, heap := s.heap, tip := updK s.tip k (some (ver + 1, e)), gen := s.gen } w' ∧
      Gh.le G { F := F', box := G.box, mp := G.mp, tip := updK G.tip k (some (ver + 1, e, v)) } ∧ RI F' v (.sl (rows ++ add)) := by
  unfold opD at h
  unfold execOp
  split at h <;> rename_i hop <;> simp only [hop] <;> (try (first | (cases h; done)))
  case h_21 =>
    rename_i cl
    unfold callD at h
    split at h
    · rename_i hcal
      split at h
      · unfold lenD at h
        repeat' (first | split at h | (cases h; done))
      · cases h
    · rename_i hcal
      split at h
      · rename_i sx x hargs
        unfold appendD at h
        split at h
        · rename_i t t' hat
          split at h
          · rename_i e' hu
            split at h
            · rename_i n b g add' ht hr
              split at h
              · rename_i hok
                simp only [Bool.and_eq_true, decide_eq_true_eq, beq_iff_eq] at hok
                obtain ⟨⟨⟨rfl, k2⟩, k3⟩, k4⟩ := hok
                split at h
                · cases h
                · rename_i kk vv rr hs
                  injection h with h1 h2 h3 h4 h5 h6
                  subst h1 h2 h3 h4 h5 h6
                  cases hz : zeroT P e' with
                  | none => rw [hz] at k4; cases k4
                  | some z =>
                    rw [hz] at k4
                    simp only [Option.any_some, beq_iff_eq] at k4
                    have hsv := hρ sx
                    rw [hs] at hsv
                    obtain ⟨v, w', F', hv, hw, hle, hR⟩ := grow_sound hW kk vv t e' o.type hu ht k2 k3 hz k4 (hsv.leaf' rfl) htip (hρ x) hr hc ev
                    have e1 : cl.args = #[sx, x] := by rw [← Array.toArray_toList (xs := cl.args), hargs]
                    have e2 : cl.argTypes = #[t, t] := by rw [← Array.toArray_toList (xs := cl.argTypes), hat]
                    refine ⟨v, w', F', ?_, hw, hle, hR⟩
                    simp only [resolve, hcal, e1, e2, Sem.run_bind, Sem.run_pure, Result.andThen_ok, invoke, builtin, List.map_toArray, List.map_cons, List.map_nil, hv]
                · cases h
              · cases h
            · cases h
          · cases h
        · cases h
      · cases h
    · split at h
      · split at h <;> cases h
      · cases h
      · cases h
    · cases h
  all_goals
    exfalso
    clear hop
    first
      | (cases h; done)
      | (split at h <;> cases h; done)
      | (unfold loadD at h; repeat' (first | split at h | (cases h; done)))
      | (unfold storeD at h; repeat' (first | split at h | (cases h; done)))
      | (unfold buildD at h; repeat' (first | split at h | (cases h; done)))
      | (unfold buildSliceD at h; repeat' (first | split at h | (cases h; done)))
      | (unfold makeSliceD at h; repeat' (first | split at h | (cases h; done)))
      | (unfold binD intD strD at h; repeat' (first | split at h | (cases h; done)))
      | (unfold unD at h; repeat' (first | split at h | (cases h; done)))
      | (unfold convD at h; repeat' (first | split at h | (cases h; done)))
      | (unfold sliceD sliceS sliceR at h; repeat' (first | split at h | (cases h; done)))
      | (unfold fieldAddrD at h; repeat' (first | split at h | (cases h; done)))
      | (unfold fieldD at h; repeat' (first | split at h | (cases h; done)))
      | (unfold indexAddrD at h; repeat' (first | split at h | (cases h; done)))
      | (unfold indexD at h; repeat' (first | split at h | (cases h; done)))
      | (unfold callD lenD appendD at h; repeat' (first | split at h | (cases h; done)))
      | (unfold lookupD at h; repeat' (first | split at h | (cases h; done)))
      | (unfold updateD at h; repeat' (first | split at h | (cases h; done)))
      | (unfold funcD at h; repeat' (first | split at h | (cases h; done)))
      | (repeat' (first | split at h | (cases h; done)))
/-! ### maps -/
/-- A new map. -/
theorem WI.addMap (h : WI P w0 F0 G s w) (d : Nat) (ev : Nat → DV) :
    WI P w0 F0 { F := G.F, box := G.box, mp := updK G.mp (d, s.gen d) (some w.heap.size), tip := G.tip } { env := ev, heap := updK s.heap (d, s.gen d) (some [.tup []]), tip := s.tip, gen := upd s.gen d (s.gen d + 1) } (w.alloc (.map #[] 0)) ∧
    Gh.le G { F := G.F, box := G.box, mp := updK G.mp (d, s.gen d) (some w.heap.size), tip := G.tip } := by
  have hb : Below w.heap.size w (w.alloc (.map #[] 0)) := (Below.refl _ _).alloc (Nat.le_refl _) _
  have h' := h.old hb
  have hf := h.fresh (d, s.gen d) (Nat.le_refl _)
  have hle : Gh.le G { F := G.F, box := G.box, mp := updK G.mp (d, s.gen d) (some w.heap.size), tip := G.tip } :=
    ⟨Facts.sub_refl _, fun _ _ hk => hk, fun k b hk => by
      have : k ≠ (d, s.gen d) := fun e => by have := hf.2.2; rw [← e, hk] at this; cases this
      simp only [updK_ne _ _ this]; exact hk, fun k v e u hk => ⟨v, e, u, hk, .inr ⟨rfl, rfl, rfl⟩⟩⟩
  refine ⟨{
    below := h'.below
    base := h'.base
    facts := h'.facts
    f0 := h.f0
    fnew := h.fnew
    box := fun k b hk => by
      have hkk : k ≠ (d, s.gen d) := fun e => by have := hf.1; rw [← e, hk] at this; cases this
      obtain ⟨cells', cs', t', h1, h2, h3, h4, h5⟩ := h'.box k b hk
      exact ⟨cells', cs', t', by simp only [updK_ne _ _ hkk]; exact h1, h2, h3, h4.mono hle, h5⟩
    mp := fun k b hk => by
      by_cases hkk : k = (d, s.gen d)
      · subst hkk
        simp only [updK_same, Option.some.injEq] at hk
        subst hk
        exact ⟨hf.1, h.below.size, #[], 0, by simp [updK_same], heap_alloc_new w _⟩
      · simp only [updK_ne _ _ hkk] at hk ⊢
        exact h'.mp k b hk
    mp2 := fun k k' b hk hk' => by
      by_cases hkk : k = (d, s.gen d) <;> by_cases hkk' : k' = (d, s.gen d)
      · rw [hkk, hkk']
      · subst hkk
        simp only [updK_same, updK_ne _ _ hkk', Option.some.injEq] at hk hk'
        subst hk
        have := h.map_lt hk'; omega
      · subst hkk'
        simp only [updK_same, updK_ne _ _ hkk, Option.some.injEq] at hk hk'
        subst hk'
        have := h.map_lt hk; omega
      · simp only [updK_ne _ _ hkk, updK_ne _ _ hkk'] at hk hk'
        exact h.mp2 k k' b hk hk'
    hbox := fun k cells' hk => by
      by_cases hkk : k = (d, s.gen d)
      · subst hkk; exact .inr ⟨_, updK_same ..⟩
      · simp only [updK_ne _ _ hkk] at hk ⊢
        exact h.hbox k cells' hk
    tip := h'.tip
    htip := h.htip
    box2 := h.box2
    tip2 := h.tip2
    boxtip := h.boxtip
    fresh := fun k hk => by
      have hkk : k ≠ (d, s.gen d) := fun e => by subst e; simp [upd_same] at hk; omega
      have hk' : s.gen k.1 ≤ k.2 := by
        by_cases hd : k.1 = d
        · subst hd; simp only [upd_same] at hk; omega
        · simp only [upd_ne _ _ hd] at hk; exact hk
      simp only [updK_ne _ _ hkk]
      exact h.fresh k hk' }, hle⟩

/-- A map with other entries. -/
theorem WI.setMap (h : WI P w0 F0 G s w) (k : Key) (b : Nat) (hk : G.mp k = some b) (ev : Nat → DV) (es : Array MapEntry) (clk : Nat) (hw' : w'.heap[b]? = some (.map es clk))
    (hos : w'.os = w.os) (htape : w'.tape = w.tape) (hout : w'.output = w.output) (hsize : w'.heap.size = w.heap.size) (hother : ∀ b', b' ≠ b → w'.heap[b']? = w.heap[b']?) :
    WI P w0 F0 G { env := ev, heap := updK s.heap k (some [.tup (es.toList.map ent)]), tip := s.tip, gen := s.gen } w' := by
  obtain ⟨hbx, hbase, es0, clk0, _, hh0⟩ := h.mp k b hk
  exact {
    base := h.base
    below := ⟨hos.trans h.below.os, htape.trans h.below.tape, hout.trans h.below.output, by rw [hsize]; exact h.below.size, fun b' hb' => (hother b' (by omega)).trans (h.below.block b' hb')⟩
    facts := fun b' o x hx => by
      have := h.facts b' o x hx
      have hne : b' ≠ b := fun e => by
        subst e
        unfold World.cell? at this
        rw [hh0] at this
        cases this
      unfold World.cell? at this ⊢
      simp only [hother b' hne]
      exact this
    f0 := h.f0
    fnew := h.fnew
    box := fun k' b' hk' => by
      obtain ⟨cells', cs', t', h1, h2, h3, h4, h5⟩ := h.box k' b' hk'
      have hkk : k' ≠ k := fun e => by subst e; rw [hk'] at hbx; cases hbx
      exact ⟨cells', cs', t', by simp only [updK_ne _ _ hkk]; exact h1, h2, (hother b' (Ne.symm (h.map_box hk hk'))).trans h3, h4, h5⟩
    mp := fun k' b' hk' => by
      by_cases hkk : k' = k
      · subst hkk
        rw [hk] at hk'
        injection hk' with hk'
        subst hk'
        exact ⟨hbx, hbase, es, clk, by simp [updK_same], hw'⟩
      · obtain ⟨h0, h1, es1, clk1, h2, h3⟩ := h.mp k' b' hk'
        have hne : b' ≠ b := fun e => by subst e; exact hkk (h.mp2 k' k b' hk' hk)
        exact ⟨h0, h1, es1, clk1, by simp only [updK_ne _ _ hkk]; exact h2, (hother b' hne).trans h3⟩
    mp2 := h.mp2
    hbox := fun k' cells' hk' => by
      by_cases hkk : k' = k
      · subst hkk; exact .inr ⟨b, hk⟩
      · simp only [updK_ne _ _ hkk] at hk'
        exact h.hbox k' cells' hk'
    tip := fun k' v e u hk' => ⟨(h.tip k' v e u hk').1, (h.tip k' v e u hk').2.of_heap fun b' hb' => hother b' (fun e => by subst e; exact h.map_tip hk hk' hb')⟩
    htip := h.htip
    box2 := h.box2
    tip2 := h.tip2
    boxtip := h.boxtip
    fresh := h.fresh }
end
end Go.Proofs.YtdbaklnjemcfgaaGreatDoor.D
