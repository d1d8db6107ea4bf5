/- Arguments that read as data are plain data of their type. Conditions: types of numbers, texts, truth values, slices, structs, pointers and arrays. -/
import Derived.Test.YtdbaklnjemcfgaaGreatDoorDArgs
import Derived.ChangeSame
import Derived.ChangeArms
namespace Go.Proofs.YtdbaklnjemcfgaaGreatDoor.D
open Go.RowKit Go.Proofs.YtdbaklnjemcfgaaGreatDoor.Mem Go.Proofs.YtdbaklnjemcfgaaGreatDoor.Sl Go.ChangeShapes Go.WideShapes
set_option linter.unusedVariables false
set_option linter.unusedSimpArgs false

/-- Cells of a type, as plain data. -/
def HT (P : Program) : Nat → TypeId → List DV → Prop
  | 0, _, _ => False
  | n + 1, t, ds =>
    match P.underlying t with
    | some (.int k) => ∃ x, ds = [.raw (.int k x)] ∧ (Lit.int k x).wf = true
    | some .bool => ∃ b, ds = [.raw (.bool b)]
    | some .string => ∃ s, ds = [.raw (.string s)] ∧ s.size ≤ maxLen
    | some (.slice e) => ∃ rows, ds = [.sl rows] ∧ rows.length ≤ maxLen ∧ ∀ r ∈ rows, HT P n e r
    | some (.struct fs) => ds.length = P.cellsOf t ∧ ∀ f ∈ fs.toList, HT P n f.type ((ds.drop f.offset).take (P.cellsOf f.type))
    | some (.pointer e) => ds = [.raw (.pointer none)] ∨ ∃ cells, ds = [.ptr cells] ∧ HT P n e cells
    | _ => False
def tile (P : Program) : Nat → List Field → Option Nat
  | o, [] => some o
  | o, f :: fs => if f.offset = o then tile P (o + P.cellsOf f.type) fs else none
/-- A type whose parts are among S. -/
def okT (P : Program) (S : List TypeId) (t : TypeId) : Bool :=
  match P.underlying t with
  | some (.int _) => P.cellsOf t == 1
  | some .bool => P.cellsOf t == 1
  | some .string => P.cellsOf t == 1
  | some (.slice e) => P.cellsOf t == 1 && S.contains e && Nat.blt 0 (P.cellsOf e)
  | some (.struct fs) => tile P 0 fs.toList == some (P.cellsOf t) && fs.toList.all fun f => S.contains f.type
  | some (.pointer e) => P.cellsOf t == 1 && S.contains e && Nat.blt 0 (P.cellsOf e)
  | _ => false
/-- Cells read as data, one by one. -/
def RIs (F : Facts) (cs : List Value) (ds : List DV) : Prop := cs.length = ds.length ∧ ∀ (j : Nat) v d, cs[j]? = some v → ds[j]? = some d → RI F v d
theorem RIs.one {F : Facts} {v : Value} {d : DV} (h : RI F v d) : RIs F [v] [d] := ⟨rfl, fun j x y a b => by cases j <;> simp at a b; subst a b; exact h⟩
theorem RIs.append {F : Facts} {cs cs' : List Value} {ds ds' : List DV} (h : RIs F cs ds) (h' : RIs F cs' ds') : RIs F (cs ++ cs') (ds ++ ds') := by
  refine ⟨by simp [h.1, h'.1], fun j x d a b => ?_⟩
  by_cases hj : j < cs.length
  · rw [List.getElem?_append_left hj] at a
    rw [List.getElem?_append_left (by rw [← h.1]; exact hj)] at b
    exact h.2 j x d a b
  · rw [List.getElem?_append_right (by omega)] at a
    rw [List.getElem?_append_right (by rw [← h.1]; omega)] at b
    exact h'.2 _ x d a (by rw [h.1]; exact b)
section
variable {H : Type} {enc : TypeId × Value → H} {P : Program} {W : World} {base : Nat} {spare : Nat → Bool} {held : Bool}
theorem tile_build {F : Facts} {cs : List Value} {Q : TypeId → List DV → Prop} : ∀ (l : List Field) (o z : Nat), tile P o l = some z → z ≤ cs.length →
    (∀ f ∈ l, ∃ p, RIs F ((cs.drop f.offset).take (P.cellsOf f.type)) p ∧ p.length = P.cellsOf f.type ∧ Q f.type p) →
    o ≤ z ∧ ∃ ds, RIs F ((cs.drop o).take (z - o)) ds ∧ ds.length = z - o ∧ ∀ f ∈ l, o ≤ f.offset ∧ Q f.type ((ds.drop (f.offset - o)).take (P.cellsOf f.type)) := by
  intro l
  induction l with
  | nil =>
    intro o z h hz _
    simp only [tile, Option.some.injEq] at h
    subst h
    refine ⟨Nat.le_refl _, [], ⟨by simp, fun j v d a => by simp at a⟩, by simp, fun f hf => by cases hf⟩
  | cons f l ih =>
    intro o z h hz hp
    simp only [tile] at h
    split at h
    · rename_i ho
      obtain ⟨i1, ds, i2, i3, i4⟩ := ih _ z h hz (fun g hg => hp g (List.mem_cons_of_mem _ hg))
      obtain ⟨p, p1, p2, p3⟩ := hp f (by simp)
      rw [ho] at p1
      refine ⟨by omega, p ++ ds, ?_, by rw [List.length_append, p2, i3]; omega, fun g hg => ?_⟩
      · have e : (cs.drop o).take (z - o) = (cs.drop o).take (P.cellsOf f.type) ++ (cs.drop (o + P.cellsOf f.type)).take (z - (o + P.cellsOf f.type)) := by
          have : z - o = P.cellsOf f.type + (z - (o + P.cellsOf f.type)) := by omega
          rw [this, List.take_add, List.drop_drop]
        rw [e]
        exact p1.append i2
      · rcases List.mem_cons.1 hg with e | e
        · subst e
          refine ⟨by omega, ?_⟩
          rw [ho, Nat.sub_self, List.drop_zero, List.take_left' p2]
          exact p3
        · obtain ⟨k1, k2⟩ := i4 g e
          refine ⟨by omega, ?_⟩
          have : g.offset - o = P.cellsOf f.type + (g.offset - (o + P.cellsOf f.type)) := by omega
          rw [this, ← List.drop_drop, List.drop_left' p2]
          exact k2
    · cases h
theorem plain_at {x : Addr} {n : Nat} {cs : List Value} (h : W.cells? base x n = some cs) (hn : 0 < n) : ∃ b off, x = ⟨b, off, none⟩ := by
  obtain ⟨_, h2, h3⟩ := World.cells?_some h
  have h0 := h3 0 hn
  have : 0 < cs.length := by omega
  rw [List.getElem?_eq_getElem this] at h0
  exact Args.plain_addr h0
theorem typed (S : List TypeId) (hS : ∀ t ∈ S, okT P S t = true) : ∀ (fuel : Nat) (t : TypeId) (cs : List Value) (x : DataW H × List MemPlace), t ∈ S → DataW.trod enc P W base spare held fuel t cs = some x →
    ∃ ds, RIs (cellsF W) cs ds ∧ ds.length = P.cellsOf t ∧ HT P fuel t ds := by
  intro fuel
  induction fuel with
  | zero => intro t cs x _ h; simp [DataW.trod] at h
  | succ fuel ih =>
    intro t cs x ht h
    have hok := hS t ht
    unfold okT at hok
    split at hok
    · rename_i k hu
      obtain ⟨n, rfl, _, hw⟩ := DataW.trod_int hu h
      exact ⟨[.raw (.int k n)], RIs.one (.raw _ rfl), by simp at hok; rw [hok]; rfl, by simp only [HT, hu]; exact ⟨n, rfl, hw⟩⟩
    · rename_i hu
      have : ∃ b, cs = [.bool b] := by
        unfold DataW.trod at h
        rw [hu] at h
        split at h <;> simp_all
      obtain ⟨b, rfl⟩ := this
      exact ⟨[.raw (.bool b)], RIs.one (.raw _ rfl), by simp at hok; rw [hok]; rfl, by simp only [HT, hu]; exact ⟨b, rfl⟩⟩
    · rename_i hu
      have : ∃ s, cs = [.string s] ∧ s.size ≤ maxLen := by
        unfold DataW.trod at h
        rw [hu] at h
        split at h <;> simp_all
      obtain ⟨s, rfl, hs⟩ := this
      exact ⟨[.raw (.string s)], RIs.one (.raw _ rfl), by simp at hok; rw [hok]; rfl, by simp only [HT, hu]; exact ⟨s, rfl, hs⟩⟩
    · rename_i e hu
      simp only [Bool.and_eq_true, beq_iff_eq, List.contains_eq_mem, decide_eq_true_eq] at hok
      obtain ⟨⟨hc1, he⟩, hpos⟩ := hok
      have hpos : 0 < P.cellsOf e := Nat.le_of_ble_eq_true hpos
      rcases DataW.trod_slice hu h with ⟨rfl, _⟩ | ⟨a, len, cap, elems, rest, n, hn, rfl, _, hba, hl, hm, hel, hcell, _, _⟩
      · exact ⟨[.sl []], RIs.one (.sl0 none 0), by rw [hc1]; rfl, by simp only [HT, hu]; exact ⟨[], rfl, by simp, by simp⟩⟩
      · obtain rfl : n = fuel := by omega
        have hrow : ∀ i, i < len → ∃ (ci : List Value) (r : List DV), W.cells? base (a.add (i * P.cellsOf e)) (P.cellsOf e) = some ci ∧ RIs (cellsF W) ci r ∧ r.length = P.cellsOf e ∧ HT P n e r := by
          intro i hi
          have h1 := hcell i hi
          have hie : elems[i]? = some (elems[i]'(by omega)) := List.getElem?_eq_getElem _
          rw [hie, Option.bind_eq_some_iff] at h1
          obtain ⟨ci, h2, h3⟩ := h1
          obtain ⟨r, q1, q2, q3⟩ := ih e ci _ he h3
          exact ⟨ci, r, h2, q1, q2, q3⟩
        by_cases h0 : len = 0
        · subst h0
          exact ⟨[.sl []], RIs.one (.sl0 _ _), by rw [hc1]; rfl, by simp only [HT, hu]; exact ⟨[], rfl, by simp, by simp⟩⟩
        · have hch : ∃ (C : Nat → List Value) (r : Nat → List DV), ∀ i, i < len → W.cells? base (a.add (i * P.cellsOf e)) (P.cellsOf e) = some (C i) ∧ RIs (cellsF W) (C i) (r i) ∧ (r i).length = P.cellsOf e ∧ HT P n e (r i) := by
            refine ⟨fun i => if hi : i < len then (hrow i hi).choose else [], fun i => if hi : i < len then (hrow i hi).choose_spec.choose else [], fun i hi => ?_⟩
            simp only [hi, dif_pos]
            exact (hrow i hi).choose_spec.choose_spec
          obtain ⟨C, r, hC⟩ := hch
          have hlen : ((List.range len).map r).length = len := by simp
          refine ⟨[.sl ((List.range len).map r)], RIs.one ?_, by rw [hc1]; rfl, ?_⟩
          · by_cases hz : P.cellsOf e = 0
            · omega
            · obtain ⟨b, off, ha⟩ := plain_at (hC 0 (by omega)).1 (by omega)
              have ha' : a = ⟨b, off, none⟩ := by
                have : a.add (0 * P.cellsOf e) = a.add 0 := by rw [Nat.zero_mul]
                rw [this] at ha
                obtain ⟨b', off', s'⟩ := a
                cases s' <;> simp [Addr.add] at ha <;> simp [ha]
              subst ha'
              have key := RI.sl (F := cellsF W) b off cap (P.cellsOf e) ((List.range len).map r) (fun i j => (C i)[j]?.getD default) (by intro e; rw [e] at hlen; simp at hlen; omega) (by rw [hlen]; unfold maxLen at hm; omega) (by rw [hlen]; exact hl)
                (fun q hq => by obtain ⟨i, hi, rfl⟩ := List.mem_map.1 hq; exact (hC i (List.mem_range.1 hi)).2.2.1)
                (fun i q hi j d hj => by
                  rw [List.getElem?_map] at hi
                  simp only [Option.map_eq_some_iff] at hi
                  obtain ⟨i', hi', rfl⟩ := hi
                  obtain ⟨hlt, e2⟩ := List.getElem?_eq_some_iff.1 hi'
                  rw [List.getElem_range] at e2
                  subst e2
                  rw [List.length_range] at hlt
                  obtain ⟨g1, g2, g3, _⟩ := hC i hlt
                  obtain ⟨_, k2, k3⟩ := World.cells?_some g1
                  have hjl : j < P.cellsOf e := by rw [← g3]; exact (List.getElem?_eq_some_iff.1 hj).1
                  have hjc : j < (C i).length := by rw [g2.1, g3]; exact hjl
                  have := k3 j hjl
                  rw [Args.add_plain, Args.add_plain] at this
                  show W.cell? _ = some _
                  rw [this, List.getElem?_eq_getElem hjc]; rfl)
                (fun i q hi j d hj => by
                  rw [List.getElem?_map] at hi
                  simp only [Option.map_eq_some_iff] at hi
                  obtain ⟨i', hi', rfl⟩ := hi
                  obtain ⟨hlt, e2⟩ := List.getElem?_eq_some_iff.1 hi'
                  rw [List.getElem_range] at e2
                  subst e2
                  rw [List.length_range] at hlt
                  obtain ⟨g1, g2, g3, _⟩ := hC i hlt
                  have hjl : j < P.cellsOf e := by rw [← g3]; exact (List.getElem?_eq_some_iff.1 hj).1
                  have hjc : j < (C i).length := by rw [g2.1, g3]; exact hjl
                  refine g2.2 j _ d ?_ hj
                  rw [List.getElem?_eq_getElem hjc]; rfl)
              rw [hlen] at key
              exact key
          · simp only [HT, hu]
            refine ⟨_, rfl, by rw [hlen]; omega, fun q hq => ?_⟩
            obtain ⟨i, hi, rfl⟩ := List.mem_map.1 hq
            exact (hC i (List.mem_range.1 hi)).2.2.2
    · rename_i fs hu
      simp only [Bool.and_eq_true, beq_iff_eq, List.all_eq_true, List.contains_eq_mem, decide_eq_true_eq] at hok
      obtain ⟨htile, hmem⟩ := hok
      obtain ⟨xs, n, hn, _, hl, hxl, hf⟩ := DataW.trod_struct hu h
      obtain rfl : n = fuel := by omega
      have hpart : ∀ f ∈ fs.toList, ∃ p, RIs (cellsF W) ((cs.drop f.offset).take (P.cellsOf f.type)) p ∧ p.length = P.cellsOf f.type ∧ HT P n f.type p := by
        intro f hfm
        obtain ⟨i, hi⟩ := List.getElem?_of_mem hfm
        have hi' : fs[i]? = some f := by rw [← Array.getElem?_toList]; exact hi
        have h1 := hf i f hi'
        have hlt : i < xs.length := by rw [hxl]; exact (Array.getElem?_eq_some_iff.1 hi').1
        rw [List.getElem?_eq_getElem hlt] at h1
        exact ih f.type _ _ (hmem f hfm) h1
      obtain ⟨_, ds, k1, k2, k3⟩ := tile_build (Q := HT P n) fs.toList 0 _ htile (by omega) hpart
      rw [List.drop_zero, Nat.sub_zero, List.take_of_length_le (by omega)] at k1
      refine ⟨ds, k1, k2, ?_⟩
      simp only [HT, hu]
      exact ⟨k2, fun f hfm => (k3 f hfm).2⟩
    · rename_i e hu
      simp only [Bool.and_eq_true, beq_iff_eq, List.contains_eq_mem, decide_eq_true_eq] at hok
      obtain ⟨⟨hc1, he⟩, hpos⟩ := hok
      have hpos : 0 < P.cellsOf e := Nat.le_of_ble_eq_true hpos
      rcases DataW.trod_pointer hu h with ⟨rfl, _⟩ | ⟨a, cs', y, n, hn, rfl, _, hcell, hd⟩
      · exact ⟨[.raw (.pointer none)], RIs.one (.raw _ rfl), by rw [hc1]; rfl, by simp only [HT, hu]; exact .inl trivial⟩
      · obtain rfl : n = fuel := by omega
        obtain ⟨r, q1, q2, q3⟩ := ih e cs' y he hd
        obtain ⟨b, off, rfl⟩ := plain_at hcell hpos
        obtain ⟨_, k2, k3⟩ := World.cells?_some hcell
        refine ⟨[.ptr r], RIs.one (.ptr b off r (fun j => cs'[j]?.getD default) (fun j d hj => ?_) (fun j d hj => ?_)), by rw [hc1]; rfl, by simp only [HT, hu]; exact .inr ⟨r, rfl, q3⟩⟩
        · have hjl : j < P.cellsOf e := by rw [← q2]; exact (List.getElem?_eq_some_iff.1 hj).1
          have := k3 j hjl
          rw [Args.add_plain] at this
          show W.cell? _ = some _
          rw [this, List.getElem?_eq_getElem (by omega)]; rfl
        · have hjl : j < P.cellsOf e := by rw [← q2]; exact (List.getElem?_eq_some_iff.1 hj).1
          refine q1.2 j _ d ?_ hj
          rw [List.getElem?_eq_getElem (by omega)]; rfl
    · cases hok
end
end Go.Proofs.YtdbaklnjemcfgaaGreatDoor.D
