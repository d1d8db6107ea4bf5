/- What the operations that make memory, write a box or let a slice grow leave of what lies in memory. Conditions: none. -/
import Derived.Test.YtdbaklnjemcfgaaGreatDoorDSounds
namespace Go.Proofs.YtdbaklnjemcfgaaGreatDoor.D
open Go.RowKit Go.Proofs.YtdbaklnjemcfgaaGreatDoor.Mem
set_option linter.unusedVariables false
set_option linter.unusedSimpArgs false

/-- Rows written out, cell behind cell. -/
structure Lies (F : Facts) (sz : Nat) (rows : List (List DV)) (vals : List Value) : Prop where
  len : vals.length = rows.length * sz
  szs : ∀ r ∈ rows, r.length = sz
  at_ : ∀ (i : Nat) r, rows[i]? = some r → ∀ (j : Nat) d, r[j]? = some d → ∃ y, vals[i * sz + j]? = some y ∧ RI F y d
theorem Lies.nil (F : Facts) (sz : Nat) : Lies F sz [] [] := ⟨by simp, by simp, by simp⟩
theorem Lies.mono {F F' : Facts} (hs : F.sub F') {sz rows vals} (h : Lies F sz rows vals) : Lies F' sz rows vals :=
  ⟨h.len, h.szs, fun i r hi j d hj => by obtain ⟨y, h1, h2⟩ := h.at_ i r hi j d hj; exact ⟨y, h1, h2.mono hs⟩⟩
theorem Lies.append {F : Facts} {sz rows vals rows' vals'} (h : Lies F sz rows vals) (h' : Lies F sz rows' vals') : Lies F sz (rows ++ rows') (vals ++ vals') := by
  refine ⟨by rw [List.length_append, List.length_append, h.len, h'.len, Nat.add_mul], fun r hr => ?_, fun i r hi j d hj => ?_⟩
  · rcases List.mem_append.1 hr with hr | hr
    · exact h.szs r hr
    · exact h'.szs r hr
  · by_cases hlt : i < rows.length
    · rw [List.getElem?_append_left hlt] at hi
      obtain ⟨y, h1, h2⟩ := h.at_ i r hi j d hj
      exact ⟨y, by rw [List.getElem?_append_left (List.getElem?_eq_some_iff.1 h1).1]; exact h1, h2⟩
    · rw [List.getElem?_append_right (by omega)] at hi
      obtain ⟨y, h1, h2⟩ := h'.at_ _ r hi j d hj
      refine ⟨y, ?_, h2⟩
      have e : i * sz + j = vals.length + ((i - rows.length) * sz + j) := by
        rw [h.len, Nat.sub_mul]
        have := Nat.mul_le_mul_right sz (Nat.le_of_not_lt hlt)
        omega
      rw [e, List.getElem?_append_right (by omega), Nat.add_sub_cancel_left]
      exact h1
theorem div_at {i j sz : Nat} (h : j < sz) : (i * sz + j) / sz = i ∧ (i * sz + j) % sz = j := by
  have h0 : 0 < sz := by omega
  refine ⟨?_, ?_⟩
  · rw [Nat.mul_comm, Nat.mul_add_div h0, Nat.div_eq_of_lt h, Nat.add_zero]
  · rw [Nat.mul_comm, Nat.mul_add_mod, Nat.mod_eq_of_lt h]
/-- Each cell is a row's. -/
theorem Lies.cell {F : Facts} {sz rows vals} (h : Lies F sz rows vals) {o : Nat} {y : Value} (ho : vals[o]? = some y) : ∃ d, (∃ r ∈ rows, d ∈ r) ∧ RI F y d := by
  have hlt : o < rows.length * sz := by rw [← h.len]; exact (List.getElem?_eq_some_iff.1 ho).1
  have hsz : 0 < sz := by
    rcases Nat.eq_zero_or_pos sz with h0 | h0
    · subst h0; simp at hlt
    · exact h0
  have hi : o / sz < rows.length := by rw [Nat.div_lt_iff_lt_mul hsz]; exact hlt
  have hr : rows[o / sz]? = some (rows[o / sz]) := by simp [hi]
  have hj : o % sz < (rows[o / sz]).length := by rw [h.szs _ (List.getElem_mem hi)]; exact Nat.mod_lt _ hsz
  obtain ⟨y', h1, h2⟩ := h.at_ _ _ hr (o % sz) _ (List.getElem?_eq_getElem hj)
  have e : o / sz * sz + o % sz = o := by rw [Nat.mul_comm]; exact Nat.div_add_mod o sz
  rw [e, ho] at h1
  injection h1 with h1
  subst h1
  exact ⟨_, ⟨_, List.getElem_mem hi, List.getElem_mem hj⟩, h2⟩

/-- Out of a slice that reads as rows: its cells. -/
theorem RI.lies {F : Facts} {b off n c sz : Nat} {rows : List (List DV)} (h : RI F (.slice (some ⟨b, off, none⟩) n c) (.sl rows)) (hsz : ∀ r ∈ rows, r.length = sz) :
    n = rows.length ∧ ∃ vals, Lies F sz rows vals ∧ ∀ o y, vals[o]? = some y → F b (off + o) y := by
  cases h with
  | sl0 => exact ⟨rfl, [], Lies.nil F sz, by simp⟩
  | sl _ _ _ sz' _ x h0 hm hc hs hF hR =>
    refine ⟨rfl, (List.range (rows.length * sz)).map fun o => x (o / sz) (o % sz), ⟨by simp, hsz, fun i r hi j d hj => ?_⟩, fun o y ho => ?_⟩
    · have hj' : j < sz := by rw [← hsz r (List.mem_of_getElem? hi)]; exact (List.getElem?_eq_some_iff.1 hj).1
      have hi' := (List.getElem?_eq_some_iff.1 hi).1
      obtain ⟨e1, e2⟩ := div_at (i := i) hj'
      have hlt : i * sz + j < rows.length * sz := by
        have := Nat.mul_le_mul_right sz (Nat.succ_le_of_lt hi')
        rw [Nat.succ_mul] at this
        omega
      refine ⟨x i j, ?_, hR i r hi j d hj⟩
      rw [List.getElem?_map, List.getElem?_range hlt, Option.map_some, e1, e2]
    · rw [List.getElem?_map] at ho
      by_cases hlt : o < rows.length * sz
      · rw [List.getElem?_range hlt] at ho
        simp at ho
        subst ho
        have hz : 0 < sz := by
          rcases Nat.eq_zero_or_pos sz with h0 | h0
          · subst h0; simp at hlt
          · exact h0
        have hi : o / sz < rows.length := by rw [Nat.div_lt_iff_lt_mul hz]; exact hlt
        have hj : o % sz < (rows[o / sz]).length := by rw [hsz _ (List.getElem_mem hi)]; exact Nat.mod_lt _ hz
        have := hF (o / sz) _ (List.getElem?_eq_getElem hi) (o % sz) _ (List.getElem?_eq_getElem hj)
        have hss : sz' = sz := by
          have h1 := hs _ (List.getElem_mem hi)
          have h2 := hsz _ (List.getElem_mem hi)
          omega
        subst hss
        have e : off + o / sz' * sz' + o % sz' = off + o := by
          have := Nat.div_add_mod o sz'
          rw [Nat.mul_comm] at this
          omega
        rwa [e] at this
      · rw [List.getElem?_eq_none (by simp; omega)] at ho
        simp at ho
/-- A slice whose cells are rows written out. -/
theorem Lies.ri {F : Facts} {sz : Nat} {rows : List (List DV)} {vals : List Value} (h : Lies F sz rows vals) (b off c : Nat) (hF : ∀ o y, vals[o]? = some y → F b (off + o) y) (hm : rows.length ≤ 9223372036854775807) (hc : rows.length ≤ c) :
    RI F (.slice (some ⟨b, off, none⟩) rows.length c) (.sl rows) := by
  by_cases h0 : rows = []
  · subst h0; exact .sl0 _ _
  · have key : ∀ (i j : Nat), ∃ y, ∀ r, rows[i]? = some r → ∀ d, r[j]? = some d → vals[i * sz + j]? = some y ∧ RI F y d := by
      intro i j
      cases hi : rows[i]? with
      | none => exact ⟨undef, fun r hr => by cases hr⟩
      | some r =>
        cases hj : r[j]? with
        | none => exact ⟨undef, fun r' hr d hd => by injection hr with hr; subst hr; rw [hj] at hd; cases hd⟩
        | some d =>
          obtain ⟨y, h1, h2⟩ := h.at_ i r hi j d hj
          exact ⟨y, fun r' hr d' hd => by injection hr with hr; subst hr; rw [hj] at hd; injection hd with hd; subst hd; exact ⟨h1, h2⟩⟩
    refine .sl b off c sz rows (fun i j => (key i j).choose) h0 hm hc h.szs (fun i r hi j d hj => ?_) (fun i r hi j d hj => ((key i j).choose_spec r hi d hj).2)
    have := hF _ _ ((key i j).choose_spec r hi d hj).1
    rwa [← Nat.add_assoc] at this

theorem one_sound {F : Facts} {v : Value} {d : DV} (h : RI F v d) (h1 : one0 d = true) : v.oneCell' = true := by
  cases h with
  | raw v hv => exact h1
  | _ => rfl

/-- The facts of a block. -/
def factsOf (b : Nat) (vals : List Value) : Facts := fun b' o x => b' = b ∧ vals[o]? = some x
def Facts.or (F F' : Facts) : Facts := fun b o x => F b o x ∨ F' b o x
theorem Facts.sub_or (F F' : Facts) : F.sub (F.or F') := fun _ _ _ h => .inl h

section
variable {P : Program} {w0 w w' : World} {F0 : Facts} {G : Gh} {s : St}

theorem WI.addBox (h : WI P w0 F0 G s w) (d : Nat) (e : Nat → DV) (cs : Array Value) (t : TypeId) (cells : List DV) (hc : RC G cs.toList cells) :
    WI P w0 F0 { F := G.F, box := updK G.box (d, s.gen d) (some w.heap.size), mp := G.mp, tip := G.tip } { env := e, heap := updK s.heap (d, s.gen d) (some cells), tip := s.tip, gen := upd s.gen d (s.gen d + 1) } (w.alloc (.cells cs t)) := by
  have hb : Below w.heap.size w (w.alloc (.cells cs t)) := (Below.refl _ _).alloc (Nat.le_refl _) _
  have h' := h.old hb
  have hle : Gh.le G { F := G.F, box := updK G.box (d, s.gen d) (some w.heap.size), mp := G.mp, tip := G.tip } :=
    ⟨Facts.sub_refl _, fun k b hk => by
      have : k ≠ (d, s.gen d) := fun e => by have := (h.fresh (d, s.gen d) (Nat.le_refl _)).1; rw [← e, hk] at this; cases this
      simp only [updK_ne _ _ this]; exact hk, fun _ _ hk => hk, fun k v e u hk => ⟨v, e, u, hk, .inr ⟨rfl, rfl, rfl⟩⟩⟩
  exact {
    below := h'.below
    base := h'.base
    facts := h'.facts
    f0 := h.f0
    fnew := h.fnew
    box := fun k b hk => by
      by_cases hkk : k = (d, s.gen d)
      · subst hkk
        simp only [updK_same, Option.some.injEq] at hk
        subst hk
        exact ⟨cells, cs, t, by simp [updK_same], h.below.size, heap_alloc_new w _, hc.mono hle, fun o x hx => by have := Facts.lt h.facts hx; omega⟩
      · simp only [updK_ne _ _ hkk] at hk
        obtain ⟨cells', cs', t', h1, h2, h3, h4, h5⟩ := h'.box k b hk
        exact ⟨cells', cs', t', by simp only [updK_ne _ _ hkk]; exact h1, h2, h3, h4.mono hle, h5⟩
    mp := fun k b hk => by
      obtain ⟨h0, h1, es, clk, h2, h3⟩ := h'.mp k b hk
      have hkk : k ≠ (d, s.gen d) := fun e => by have := (h.fresh (d, s.gen d) (Nat.le_refl _)).2.2; rw [← e, hk] at this; cases this
      simp only [updK_ne _ _ hkk]
      exact ⟨h0, h1, es, clk, h2, h3⟩
    mp2 := h.mp2
    hbox := fun k cells' hk => by
      by_cases hkk : k = (d, s.gen d)
      · subst hkk; exact .inl ⟨_, updK_same ..⟩
      · simp only [updK_ne _ _ hkk] at hk ⊢
        exact h.hbox k cells' hk
    tip := h'.tip
    htip := h.htip
    box2 := fun k k' b hk hk' => by
      by_cases hkk : k = (d, s.gen d) <;> by_cases hkk' : k' = (d, s.gen d)
      · rw [hkk, hkk']
      · subst hkk
        simp only [updK_same, updK_ne _ _ hkk', Option.some.injEq] at hk hk'
        subst hk
        have := h.box_lt hk'; omega
      · subst hkk'
        simp only [updK_same, updK_ne _ _ hkk, Option.some.injEq] at hk hk'
        subst hk'
        have := h.box_lt hk; omega
      · simp only [updK_ne _ _ hkk, updK_ne _ _ hkk'] at hk hk'
        exact h.box2 k k' b hk hk'
    tip2 := h.tip2
    boxtip := fun k k' b v e u hk hk' => by
      by_cases hkk : k = (d, s.gen d)
      · subst hkk
        simp only [updK_same, Option.some.injEq] at hk
        subst hk
        intro hu; have := h.tip_lt hk' hu; omega
      · simp only [updK_ne _ _ hkk] at hk
        exact h.boxtip k k' b v e u hk hk'
    fresh := fun k hk => by
      have hkk : k ≠ (d, s.gen d) := fun e => by subst e; simp [upd_same] at hk; omega
      have hk' : s.gen k.1 ≤ k.2 := by
        by_cases hd : k.1 = d
        · subst hd; simp only [upd_same] at hk; omega
        · simp only [upd_ne _ _ hd] at hk; exact hk
      simp only [updK_ne _ _ hkk]
      exact h.fresh k hk' }
theorem le_addBox (h : WI P w0 F0 G s w) (d : Nat) (b : Nat) : Gh.le G { F := G.F, box := updK G.box (d, s.gen d) (some b), mp := G.mp, tip := G.tip } :=
  ⟨Facts.sub_refl _, fun k b hk => by
      have : k ≠ (d, s.gen d) := fun e => by have := (h.fresh (d, s.gen d) (Nat.le_refl _)).1; rw [← e, hk] at this; cases this
      simp only [updK_ne _ _ this]; exact hk, fun _ _ hk => hk, fun k v e u hk => ⟨v, e, u, hk, .inr ⟨rfl, rfl, rfl⟩⟩⟩

theorem TipOk.facts {base : Nat} {F F' : Facts} {e : TypeId} {sz : Nat} {u : Value} (h : TipOk base F w e sz u) (hn : ∀ b o x, u.ownBlock = some b → F' b o x → F b o x) : TipOk base F' w e sz u := by
  rcases h with rfl | ⟨b, n, c, cur, rfl, h1, h2, h3, h4, h5, h6⟩
  · exact .inl rfl
  · exact .inr ⟨b, n, c, cur, rfl, h1, h2, h3, h4, h5, fun o x ho hx => h6 o x ho (hn b o x rfl hx)⟩

theorem WI.map_lt (h : WI P w0 F0 G s w) {k b} (hk : G.mp k = some b) : b < w.heap.size := by
  obtain ⟨_, _, es, clk, _, h3⟩ := h.mp k b hk
  exact lt_of_heap h3
theorem WI.map_tip (h : WI P w0 F0 G s w) {k b k' v e u} (hk : G.mp k = some b) (ht : G.tip k' = some (v, e, u)) : u.ownBlock ≠ some b := by
  intro hb
  obtain ⟨_, _, es, clk, _, h3⟩ := h.mp k b hk
  rcases (h.tip k' v e u ht).2 with rfl | ⟨b', n, c, cur, rfl, _, hh, _⟩
  · simp [Value.ownBlock] at hb
  · simp [Value.ownBlock] at hb; subst hb; rw [hh] at h3; cases h3
theorem WI.map_box (h : WI P w0 F0 G s w) {k b k' b'} (hk : G.mp k = some b) (hb : G.box k' = some b') : b ≠ b' := by
  rintro rfl
  obtain ⟨_, _, es, clk, _, h3⟩ := h.mp k b hk
  obtain ⟨_, _, _, _, _, hh, _⟩ := h.box k' b hb
  rw [hh] at h3; cases h3

/-- A new slice that may grow. -/
theorem WI.addTip (h : WI P w0 F0 G s w) (hb : Below w.heap.size w w') (d : Nat) (ev : Nat → DV) (e : TypeId) (u : Value) (F' : Facts) (hs : G.F.sub F') (hok : F'.ok w') (hnew : ∀ b o x, F' b o x → G.F b o x ∨ w.heap.size ≤ b)
    (ht : TipOk w0.heap.size F' w' e (P.cellsOf e) u) (hu : ∀ b, u.ownBlock = some b → w.heap.size ≤ b) :
    WI P w0 F0 { F := F', box := G.box, mp := G.mp, tip := updK G.tip (d, s.gen d) (some (0, e, u)) } { env := ev, heap := s.heap, tip := updK s.tip (d, s.gen d) (some (0, e)), gen := upd s.gen d (s.gen d + 1) } w' ∧
    Gh.le G { F := F', box := G.box, mp := G.mp, tip := updK G.tip (d, s.gen d) (some (0, e, u)) } := by
  have h' := h.old hb
  have hle : Gh.le G { F := F', box := G.box, mp := G.mp, tip := updK G.tip (d, s.gen d) (some (0, e, u)) } :=
    ⟨hs, fun k b hk => hk, fun _ _ hk => hk, fun k v e u hk => by
      have : k ≠ (d, s.gen d) := fun e => by have := (h.fresh (d, s.gen d) (Nat.le_refl _)).2.1; rw [← e, hk] at this; cases this
      exact ⟨v, e, u, by simp only [updK_ne _ _ this]; exact hk, .inr ⟨rfl, rfl, rfl⟩⟩⟩
  refine ⟨{
    below := h'.below
    base := h'.base
    facts := hok
    f0 := Facts.sub_trans h.f0 hs
    fnew := fun b o x hx => by
      rcases hnew b o x hx with hx | hx
      · exact h.fnew b o x hx
      · exact .inr (Nat.le_trans h.below.size hx)
    box := fun k b hk => by
      obtain ⟨cells', cs', t', h1, h2, h3, h4, h5⟩ := h'.box k b hk
      refine ⟨cells', cs', t', h1, h2, h3, h4.mono hle, fun o x hx => ?_⟩
      rcases hnew b o x hx with hx | hx
      · exact h5 o x hx
      · have := h.box_lt hk; omega
    mp := h'.mp
    mp2 := h.mp2
    hbox := h.hbox
    tip := fun k v e' u' hk => by
      by_cases hkk : k = (d, s.gen d)
      · subst hkk
        simp only [updK_same, Option.some.injEq, Prod.mk.injEq] at hk
        obtain ⟨rfl, rfl, rfl⟩ := hk
        exact ⟨updK_same .., ht⟩
      · simp only [updK_ne _ _ hkk] at hk ⊢
        refine ⟨(h'.tip k v e' u' hk).1, (h'.tip k v e' u' hk).2.facts fun b o x hb' hx => ?_⟩
        rcases hnew b o x hx with hx | hx
        · exact hx
        · have := h.tip_lt hk hb'; omega
    htip := fun k v e' hk => by
      by_cases hkk : k = (d, s.gen d)
      · subst hkk
        simp only [updK_same, Option.some.injEq, Prod.mk.injEq] at hk
        obtain ⟨rfl, rfl⟩ := hk
        exact ⟨u, updK_same ..⟩
      · simp only [updK_ne _ _ hkk] at hk ⊢
        exact h.htip k v e' hk
    box2 := h.box2
    tip2 := fun k k' v e1 u1 v' e2 u2 b hk hk' hb1 hb2 => by
      by_cases hkk : k = (d, s.gen d) <;> by_cases hkk' : k' = (d, s.gen d)
      · rw [hkk, hkk']
      · subst hkk
        simp only [updK_same, updK_ne _ _ hkk', Option.some.injEq, Prod.mk.injEq] at hk hk'
        obtain ⟨rfl, rfl, rfl⟩ := hk
        have := h.tip_lt hk' hb2
        have := hu b hb1
        omega
      · subst hkk'
        simp only [updK_same, updK_ne _ _ hkk, Option.some.injEq, Prod.mk.injEq] at hk hk'
        obtain ⟨rfl, rfl, rfl⟩ := hk'
        have := h.tip_lt hk hb1
        have := hu b hb2
        omega
      · simp only [updK_ne _ _ hkk, updK_ne _ _ hkk'] at hk hk'
        exact h.tip2 k k' v e1 u1 v' e2 u2 b hk hk' hb1 hb2
    boxtip := fun k k' b v e' u' hk hk' hb' => by
      by_cases hkk : k' = (d, s.gen d)
      · subst hkk
        simp only [updK_same, Option.some.injEq, Prod.mk.injEq] at hk'
        obtain ⟨rfl, rfl, rfl⟩ := hk'
        have := h.box_lt hk
        have := hu b hb'
        omega
      · simp only [updK_ne _ _ hkk] at hk'
        exact h.boxtip k k' b v e' u' hk hk' hb'
    fresh := fun k hk => by
      have hkk : k ≠ (d, s.gen d) := fun e => by subst e; simp [upd_same] at hk; omega
      have hk' : s.gen k.1 ≤ k.2 := by
        by_cases hd : k.1 = d
        · subst hd; simp only [upd_same] at hk; omega
        · simp only [upd_ne _ _ hd] at hk; exact hk
      simp only [updK_ne _ _ hkk]
      exact h.fresh k hk' }, hle⟩

/-- A slice that grows, where it lies or elsewhere. -/
theorem WI.growTip (h : WI P w0 F0 G s w) (k : Key) (ver : Nat) (e : TypeId) (u : Value) (hk : G.tip k = some (ver, e, u)) (ev : Nat → DV)
    (hos : w'.os = w.os) (htape : w'.tape = w.tape) (hout : w'.output = w.output) (hsize : w.heap.size ≤ w'.heap.size) (hsame : ∀ b, b < w.heap.size → some b ≠ u.ownBlock → w'.heap[b]? = w.heap[b]?)
    (u' : Value) (F' : Facts) (hs : G.F.sub F') (hok : F'.ok w') (hnew : ∀ b o x, F' b o x → G.F b o x ∨ w.heap.size ≤ b ∨ some b = u.ownBlock)
    (ht : TipOk w0.heap.size F' w' e (P.cellsOf e) u') (hu : ∀ b, u'.ownBlock = some b → w.heap.size ≤ b ∨ some b = u.ownBlock) :
    WI P w0 F0 { F := F', box := G.box, mp := G.mp, tip := updK G.tip k (some (ver + 1, e, u')) } { env := ev, heap := s.heap, tip := updK s.tip k (some (ver + 1, e)), gen := s.gen } w' ∧
    Gh.le G { F := F', box := G.box, mp := G.mp, tip := updK G.tip k (some (ver + 1, e, u')) } := by
  have hbase : ∀ b, u.ownBlock = some b → w0.heap.size ≤ b := by
    intro b hb
    rcases (h.tip k ver e u hk).2 with rfl | ⟨b', n, c, cur, rfl, h1, _⟩
    · simp [Value.ownBlock] at hb
    · simp [Value.ownBlock] at hb; subst hb; exact h1
  have hle : Gh.le G { F := F', box := G.box, mp := G.mp, tip := updK G.tip k (some (ver + 1, e, u')) } := by
    refine ⟨hs, fun k b hk => hk, fun _ _ hk => hk, fun k2 v e2 u2 hk2 => ?_⟩
    by_cases hkk : k2 = k
    · subst hkk
      rw [hk] at hk2
      simp only [Option.some.injEq, Prod.mk.injEq] at hk2
      obtain ⟨rfl, rfl, rfl⟩ := hk2
      exact ⟨_, _, _, updK_same .., .inl (Nat.lt_succ_self _)⟩
    · exact ⟨v, e2, u2, by simp only [updK_ne _ _ hkk]; exact hk2, .inr ⟨rfl, rfl, rfl⟩⟩
  refine ⟨{
    base := h.base
    below := ⟨hos.trans h.below.os, htape.trans h.below.tape, hout.trans h.below.output, Nat.le_trans h.below.size hsize, fun b hb => (hsame b (Nat.lt_of_lt_of_le hb h.below.size) (fun hbb => by have := hbase b hbb.symm; omega)).trans (h.below.block b hb)⟩
    facts := hok
    f0 := Facts.sub_trans h.f0 hs
    fnew := fun b o x hx => by
      rcases hnew b o x hx with hx | hx | hx
      · exact h.fnew b o x hx
      · exact .inr (Nat.le_trans h.below.size hx)
      · exact .inr (hbase b hx.symm)
    box := fun k2 b hk2 => by
      obtain ⟨cells', cs', t', h1, h2, h3, h4, h5⟩ := h.box k2 b hk2
      have hbb : some b ≠ u.ownBlock := fun hbb => h.boxtip k2 k b ver e u hk2 hk hbb.symm
      refine ⟨cells', cs', t', h1, h2, (hsame b (h.box_lt hk2) hbb).trans h3, h4.mono hle, fun o x hx => ?_⟩
      rcases hnew b o x hx with hx | hx | hx
      · exact h5 o x hx
      · have := h.box_lt hk2; omega
      · exact hbb hx
    mp := fun k2 b hk2 => by
      obtain ⟨h0, h1, es, clk, h2, h3⟩ := h.mp k2 b hk2
      exact ⟨h0, h1, es, clk, h2, (hsame b (lt_of_heap h3) (fun hbb => h.map_tip hk2 hk hbb.symm)).trans h3⟩
    mp2 := h.mp2
    hbox := h.hbox
    tip := fun k2 v e' u2 hk2 => by
      by_cases hkk : k2 = k
      · subst hkk
        simp only [updK_same, Option.some.injEq, Prod.mk.injEq] at hk2
        obtain ⟨rfl, rfl, rfl⟩ := hk2
        exact ⟨updK_same .., ht⟩
      · simp only [updK_ne _ _ hkk] at hk2 ⊢
        have hne : ∀ b, u2.ownBlock = some b → some b ≠ u.ownBlock := fun b hb hbb => hkk (h.tip2 k2 k v e' u2 ver e u b hk2 hk hb hbb.symm)
        refine ⟨(h.tip k2 v e' u2 hk2).1, ((h.tip k2 v e' u2 hk2).2.of_heap fun b hb => hsame b (h.tip_lt hk2 hb) (hne b hb)).facts fun b o x hb hx => ?_⟩
        rcases hnew b o x hx with hx | hx | hx
        · exact hx
        · have := h.tip_lt hk2 hb; omega
        · exact absurd hx (hne b hb)
    htip := fun k2 v e' hk2 => by
      by_cases hkk : k2 = k
      · subst hkk
        simp only [updK_same, Option.some.injEq, Prod.mk.injEq] at hk2
        obtain ⟨rfl, rfl⟩ := hk2
        exact ⟨u', updK_same ..⟩
      · simp only [updK_ne _ _ hkk] at hk2 ⊢
        exact h.htip k2 v e' hk2
    box2 := h.box2
    tip2 := fun k1 k2 v e1 u1 v' e2 u2 b hk1 hk2 hb1 hb2 => by
      by_cases hkk : k1 = k <;> by_cases hkk' : k2 = k
      · rw [hkk, hkk']
      · subst hkk
        simp only [updK_same, updK_ne _ _ hkk', Option.some.injEq, Prod.mk.injEq] at hk1 hk2
        obtain ⟨rfl, rfl, rfl⟩ := hk1
        rcases hu b hb1 with hh | hh
        · have := h.tip_lt hk2 hb2; omega
        · exact h.tip2 k1 k2 ver e u v' e2 u2 b hk hk2 hh.symm hb2
      · subst hkk'
        simp only [updK_same, updK_ne _ _ hkk, Option.some.injEq, Prod.mk.injEq] at hk1 hk2
        obtain ⟨rfl, rfl, rfl⟩ := hk2
        rcases hu b hb2 with hh | hh
        · have := h.tip_lt hk1 hb1; omega
        · exact h.tip2 k1 k2 v e1 u1 ver e u b hk1 hk hb1 hh.symm
      · simp only [updK_ne _ _ hkk, updK_ne _ _ hkk'] at hk1 hk2
        exact h.tip2 k1 k2 v e1 u1 v' e2 u2 b hk1 hk2 hb1 hb2
    boxtip := fun k1 k2 b v e' u2 hk1 hk2 hb' => by
      by_cases hkk : k2 = k
      · subst hkk
        simp only [updK_same, Option.some.injEq, Prod.mk.injEq] at hk2
        obtain ⟨rfl, rfl, rfl⟩ := hk2
        rcases hu b hb' with hh | hh
        · have := h.box_lt hk1; omega
        · exact h.boxtip k1 k2 b ver e u hk1 hk hh.symm
      · simp only [updK_ne _ _ hkk] at hk2
        exact h.boxtip k1 k2 b v e' u2 hk1 hk2 hb'
    fresh := fun k2 hk2 => by
      have hkk : k2 ≠ k := fun e' => by subst e'; have := (h.fresh k2 hk2).2.1; rw [hk] at this; cases this
      simp only [updK_ne _ _ hkk]
      exact h.fresh k2 hk2 }, hle⟩
end
end Go.Proofs.YtdbaklnjemcfgaaGreatDoor.D
