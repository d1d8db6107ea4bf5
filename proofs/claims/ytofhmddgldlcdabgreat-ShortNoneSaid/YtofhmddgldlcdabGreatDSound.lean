/- What an operation that only yields a value does in the model (val_sound). Conditions: none. -/
import Derived.Test.YtofhmddgldlcdabGreatDReal
namespace Go.Proofs.YtofhmddgldlcdabGreat.D
open Go.RowKit Go.Proofs.YtofhmddgldlcdabGreat.Mem
set_option linter.unusedVariables false
set_option linter.unusedSimpArgs false

section
variable {P : Program} {G : Gh} {w : World}

theorem tI_spec {t n b : Nat} {g : Bool} (h : tI P t = some (n, b, g)) : ∃ i d, P.info? t = some i ∧ i.size = n ∧ i.bytes = b ∧ P.underlying t = some d ∧ aggT d = g := by
  unfold tI at h
  cases hi : P.info? t with
  | none => simp [hi] at h
  | some i =>
    cases hd : P.underlying t with
    | none => simp [hi, hd] at h
    | some d => simp [hi, hd] at h; exact ⟨i, d, rfl, h.1, h.2.1, rfl, h.2.2⟩
theorem run_under {t : TypeId} {d : TypeDesc} (h : P.underlying t = some d) (w : World) : (underlying t).run P w = .ok d w := by simp [underlying, h]
theorem run_size {t n b : Nat} {g : Bool} (h : tI P t = some (n, b, g)) (w : World) : (sizeOf t).run P w = .ok n w := by
  obtain ⟨i, d, hi, rfl, _⟩ := tI_spec h
  simp [sizeOf, typeInfo, hi]
theorem run_agg {t n b : Nat} {g : Bool} (h : tI P t = some (n, b, g)) (w : World) : (isAgg t).run P w = .ok g w := by
  obtain ⟨i, d, hi, _, _, hd, rfl⟩ := tI_spec h
  simp only [isAgg, Sem.run_bind, run_under hd, Result.andThen_ok]
  cases d <;> rfl
theorem run_zero {t : TypeId} {z : Value} (h : zeroT P t = some z) (w : World) : (zeroValue t).run P w = .ok z w := by
  unfold zeroT at h
  cases hi : P.info? t with
  | none => simp [hi] at h
  | some i => simp [hi] at h; simp [zeroValue, typeInfo, hi, h]
theorem cellsOf_eq {t n b : Nat} {g : Bool} (h : tI P t = some (n, b, g)) : P.cellsOf t = n := by
  obtain ⟨i, d, hi, rfl, _⟩ := tI_spec h
  simp [Program.cellsOf, hi]

def leafD : DV → Bool
  | .agg _ => false
  | .tup _ => false
  | .junk => false
  | _ => true
theorem RV.leaf' {v : Value} {d : DV} (h : RV G v d) (h2 : leafD d = true) : RL G v d := by
  cases h with
  | leaf h => exact h
  | agg h => simp [leafD] at h2
  | tup => simp [leafD] at h2
  | junk => simp [leafD] at h2
theorem RV.raw {v u : Value} (h : RV G v (.raw u)) : v = u := by
  cases h with
  | leaf h => cases h with
    | imm h => cases h; rfl

/-- What is loaded from cells that are known. -/
theorem mk_of {cs : List Value} {ds : List DV} {g : Bool} {n : Nat} (h : RC G cs ds) (hn : cs.length = n) (h1 : g = false → n = 1) : RV G (if g then .agg cs.toArray else cs.headD undef) (mk g ds) := by
  cases g with
  | true => exact .agg (by simpa using h)
  | false =>
    have := h1 rfl
    subst this
    obtain ⟨x, rfl⟩ := List.length_eq_one_iff.1 hn
    obtain ⟨d, rfl⟩ := List.length_eq_one_iff.1 (h.1.symm.trans hn)
    exact .leaf (h.2 0 x d rfl rfl)

theorem add_lit (b o n : Nat) : (⟨b, o, none⟩ : Addr).add n = ⟨b, o + n, none⟩ := by
  unfold Addr.add
  split
  · rename_i h; subst h; rfl
  · rfl

theorem run_loadCells_of (b o : Nat) (cs : List Value) (w : World) (h : ∀ j x, cs[j]? = some x → w.cell? ⟨b, o + j, none⟩ = some x) : (loadCells ⟨b, o, none⟩ cs.length).run P w = .ok cs.toArray w :=
  run_loadCells_list (P := P) w ⟨b, o, none⟩ cs (fun j v hj => by rw [add_lit]; exact h j v hj)

theorem run_loadVar_of {t n bb : Nat} {g : Bool} (ht : tI P t = some (n, bb, g)) (b o : Nat) (cs : List Value) (hn : cs.length = n) (h1 : g = false → n = 1) (w : World) (h : ∀ j x, cs[j]? = some x → w.cell? ⟨b, o + j, none⟩ = some x) :
    (loadVar t ⟨b, o, none⟩).run P w = .ok (if g then .agg cs.toArray else cs.headD undef) w := by
  unfold loadVar
  simp only [Sem.run_bind, run_agg ht, Result.andThen_ok]
  cases g with
  | true =>
    simp only [if_true, Sem.run_bind, run_size ht, Result.andThen_ok]
    rw [← hn, run_loadCells_of b o cs w h]
    rfl
  | false =>
    have := h1 rfl
    subst this
    obtain ⟨x, rfl⟩ := List.length_eq_one_iff.1 hn
    have := h 0 x rfl
    simp at this
    simp [this]

/-- The cells behind a pointer to memory that stands. -/
theorem RI.ptr_cells {F : Facts} {v : Value} {cells : List DV} (h : RI F v (.ptr cells)) (hF : F.ok w) : ∃ b o, v = .pointer (some ⟨b, o, none⟩) ∧ ∀ n, n ≤ cells.length → ∃ cs : List Value, cs.length = n ∧ (∀ j x, cs[j]? = some x → w.cell? ⟨b, o + j, none⟩ = some x) ∧
    ∀ (j : Nat) x d, cs[j]? = some x → cells[j]? = some d → RI F x d := by
  cases h with
  | ptr b off cells x hx hR =>
    refine ⟨b, off, rfl, fun n hn => ⟨(List.range n).map x, by simp, fun j y hj => ?_, fun j y d hj hd => ?_⟩⟩
    · rw [List.getElem?_map] at hj
      have hjn : j < n := by
        by_cases hjn : j < n
        · exact hjn
        · rw [List.getElem?_eq_none (by simp; omega)] at hj; simp at hj
      rw [List.getElem?_range hjn] at hj
      simp at hj
      subst hj
      exact hF _ _ _ (hx j (cells[j]'(by omega)) (by simp))
    · rw [List.getElem?_map] at hj
      have hjn : j < n := by
        by_cases hjn : j < n
        · exact hjn
        · rw [List.getElem?_eq_none (by simp; omega)] at hj; simp at hj
      rw [List.getElem?_range hjn] at hj
      simp at hj
      subst hj
      exact hR j d hd

/-- A slice's rows in memory. -/
theorem RV.rows {v : Value} {d : DV} {rows : List (List DV)} (h : RV G v d) (hr : rowsOf d = some rows) : RI G.F v (.sl rows) := by
  cases h with
  | leaf h => cases h with
    | imm h => cases h with
      | raw v hv =>
        unfold rowsOf at hr
        split at hr
        · rename_i hq; cases hq
        · rename_i hq; cases hq
        · rename_i hq; injection hq with hq; subst hq; injection hr with hr; subst hr; exact .sl0 _ _
        · cases hr
      | sl0 A c => simp [rowsOf] at hr; subst hr; exact .sl0 A c
      | sl b off c sz rows x h0 hm hc hsz hF hR => simp [rowsOf] at hr; subst hr; exact .sl b off c sz rows x h0 hm hc hsz hF hR
      | ptr => simp [rowsOf] at hr
    | own h _ _ => simp [rowsOf] at hr; subst hr; exact h
    | ref => simp [rowsOf] at hr
    | mref => simp [rowsOf] at hr
    | clo => simp [rowsOf] at hr
  | agg => simp [rowsOf] at hr
  | tup => simp [rowsOf] at hr
  | junk => simp [rowsOf] at hr
/-- A slice as a value. -/
theorem RI.slice {F : Facts} {v : Value} {rows : List (List DV)} (h : RI F v (.sl rows)) : ∃ A c, v = .slice A rows.length c ∧ rows.length ≤ 9223372036854775807 ∧ (rows = [] ∨ rows.length ≤ c) := by
  cases h with
  | sl0 A c => exact ⟨A, c, rfl, by simp, .inl rfl⟩
  | sl b off c sz rows x h0 hm hc hsz hF hR => exact ⟨_, c, rfl, hm, .inr hc⟩

theorem RV.int {v : Value} {d : DV} {n : Int} (h : RV G v d) (hd : intOf? d = some n) : ∃ k, v = .int k n := by
  unfold intOf? at hd
  split at hd
  · injection hd with hd; subst hd; exact ⟨_, h.raw⟩
  · cases hd

theorem part_sound {t n bb : Nat} {g : Bool} (ht : tI P t = some (n, bb, g)) (cs : Array Value) (ds : List DV) (h : RC G cs.toList ds) (off : Nat) (hl : off + n ≤ ds.length) (h1 : g = false → n = 1) :
    ∃ v, (part t cs off).run P w = .ok v w ∧ RV G v (mk g ((ds.drop off).take n)) := by
  have hcs : cs.size = ds.length := by simpa using h.1
  refine ⟨_, ?_, mk_of ((h.drop off).take n) (n := n) (by simp; omega) h1⟩
  unfold part
  simp only [Sem.run_bind, run_agg ht, Result.andThen_ok]
  cases g with
  | true =>
    simp only [if_true, Sem.run_bind, run_size ht, Result.andThen_ok, Sem.run_pure]
    congr 2
    apply Array.ext'
    simp [Array.toList_extract, List.extract_eq_take_drop]
  | false =>
    have := h1 rfl
    subst this
    have hlt : off < cs.size := by omega
    simp only [Bool.false_eq_true, if_false]
    rw [Array.getElem?_eq_getElem hlt]
    simp only [Sem.run_pure]
    congr 1
    rw [List.drop_eq_getElem_cons (by simpa using hlt)]
    simp

theorem bs_ext {x y : ByteArray} (h : bs x = bs y) : x = y := by
  cases x; cases y
  simp only [bs] at h
  congr 1
  exact Array.toList_inj.1 h
theorem toList_bs (x : ByteArray) : x.toList = bs x := by
  exact ByteArray.toList_eq x
end
end Go.Proofs.YtofhmddgldlcdabGreat.D
