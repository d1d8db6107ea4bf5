/- What an operation that only yields a value does in the model (val_sound). Conditions: none. -/
import Derived.Test.YtdbaklnjemcfgaaGreatDoorDReal
namespace Go.Proofs.YtdbaklnjemcfgaaGreatDoor.D
open Go.RowKit Go.Proofs.YtdbaklnjemcfgaaGreatDoor.Mem
set_option linter.unusedVariables false
set_option linter.unusedSimpArgs false

section
variable {P : Program} {G : Gh} {w : World}

theorem tI_spec {t n b : Nat} {g : Bool} (h : tI P t = some (n, b, g)) : ∃ i d, P.info? t = some i ∧ i.size = n ∧ i.bytes = b ∧ P.underlying t = some d ∧ aggT d = g := by
  unfold tI at h
  cases hi : P.info? t with
  | none => simp [hi] at h
  | some i =>
    cases hd : P.underlying t with
    | none => simp [hi, hd] at h
    | some d => simp [hi, hd] at h; exact ⟨i, d, rfl, h.1, h.2.1, rfl, h.2.2⟩
theorem run_under {t : TypeId} {d : TypeDesc} (h : P.underlying t = some d) (w : World) : (underlying t).run P w = .ok d w := by simp [underlying, h]
theorem run_size {t n b : Nat} {g : Bool} (h : tI P t = some (n, b, g)) (w : World) : (sizeOf t).run P w = .ok n w := by
  obtain ⟨i, d, hi, rfl, _⟩ := tI_spec h
  simp [sizeOf, typeInfo, hi]
theorem run_agg {t n b : Nat} {g : Bool} (h : tI P t = some (n, b, g)) (w : World) : (isAgg t).run P w = .ok g w := by
  obtain ⟨i, d, hi, _, _, hd, rfl⟩ := tI_spec h
  simp only [isAgg, Sem.run_bind, run_under hd, Result.andThen_ok]
  cases d <;> rfl
theorem run_zero {t : TypeId} {z : Value} (h : zeroT P t = some z) (w : World) : (zeroValue t).run P w = .ok z w := by
  unfold zeroT at h
  cases hi : P.info? t with
  | none => simp [hi] at h
  | some i => simp [hi] at h; simp [zeroValue, typeInfo, hi, h]
theorem cellsOf_eq {t n b : Nat} {g : Bool} (h : tI P t = some (n, b, g)) : P.cellsOf t = n := by
  obtain ⟨i, d, hi, rfl, _⟩ := tI_spec h
  simp [Program.cellsOf, hi]

def leafD : DV → Bool
  | .agg _ => false
  | .tup _ => false
  | .junk => false
  | _ => true
theorem RV.leaf' {v : Value} {d : DV} (h : RV G v d) (h2 : leafD d = true) : RL G v d := by
  cases h with
  | leaf h => exact h
  | agg h => simp [leafD] at h2
  | tup => simp [leafD] at h2
  | junk => simp [leafD] at h2
theorem RV.raw {v u : Value} (h : RV G v (.raw u)) : v = u := by
  cases h with
  | leaf h => cases h with
    | imm h => cases h; rfl

/-- What is loaded from cells that are known. -/
theorem mk_of {cs : List Value} {ds : List DV} {g : Bool} {n : Nat} (h : RC G cs ds) (hn : cs.length = n) (h1 : g = false → n = 1) : RV G (if g then .agg cs.toArray else cs.headD undef) (mk g ds) := by
  cases g with
  | true => exact .agg (by simpa using h)
  | false =>
    have := h1 rfl
    subst this
    obtain ⟨x, rfl⟩ := List.length_eq_one_iff.1 hn
    obtain ⟨d, rfl⟩ := List.length_eq_one_iff.1 (h.1.symm.trans hn)
    exact .leaf (h.2 0 x d rfl rfl)

theorem add_lit (b o n : Nat) : (⟨b, o, none⟩ : Addr).add n = ⟨b, o + n, none⟩ := by
  unfold Addr.add
  split
  · rename_i h; subst h; rfl
  · rfl

theorem run_loadCells_of (b o : Nat) (cs : List Value) (w : World) (h : ∀ j x, cs[j]? = some x → w.cell? ⟨b, o + j, none⟩ = some x) : (loadCells ⟨b, o, none⟩ cs.length).run P w = .ok cs.toArray w :=
  run_loadCells_list (P := P) w ⟨b, o, none⟩ cs (fun j v hj => by rw [add_lit]; exact h j v hj)

theorem run_loadVar_of {t n bb : Nat} {g : Bool} (ht : tI P t = some (n, bb, g)) (b o : Nat) (cs : List Value) (hn : cs.length = n) (h1 : g = false → n = 1) (w : World) (h : ∀ j x, cs[j]? = some x → w.cell? ⟨b, o + j, none⟩ = some x) :
    (loadVar t ⟨b, o, none⟩).run P w = .ok (if g then .agg cs.toArray else cs.headD undef) w := by
  unfold loadVar
  simp only [Sem.run_bind, run_agg ht, Result.andThen_ok]
  cases g with
  | true =>
    simp only [if_true, Sem.run_bind, run_size ht, Result.andThen_ok]
    rw [← hn, run_loadCells_of b o cs w h]
    rfl
  | false =>
    have := h1 rfl
    subst this
    obtain ⟨x, rfl⟩ := List.length_eq_one_iff.1 hn
    have := h 0 x rfl
    simp at this
    simp [this]

/-- The cells behind a pointer to memory that stands. -/
theorem RI.ptr_cells {F : Facts} {v : Value} {cells : List DV} (h : RI F v (.ptr cells)) (hF : F.ok w) : ∃ b o, v = .pointer (some ⟨b, o, none⟩) ∧ ∀ n, n ≤ cells.length → ∃ cs : List Value, cs.length = n ∧ (∀ j x, cs[j]? = some x → w.cell? ⟨b, o + j, none⟩ = some x) ∧
    ∀ (j : Nat) x d, cs[j]? = some x → cells[j]? = some d → RI F x d := by
  cases h with
  | ptr b off cells x hx hR =>
    refine ⟨b, off, rfl, fun n hn => ⟨(List.range n).map x, by simp, fun j y hj => ?_, fun j y d hj hd => ?_⟩⟩
    · rw [List.getElem?_map] at hj
      have hjn : j < n := by
        by_cases hjn : j < n
        · exact hjn
        · rw [List.getElem?_eq_none (by simp; omega)] at hj; simp at hj
      rw [List.getElem?_range hjn] at hj
      simp at hj
      subst hj
      exact hF _ _ _ (hx j (cells[j]'(by omega)) (by simp))
    · rw [List.getElem?_map] at hj
      have hjn : j < n := by
        by_cases hjn : j < n
        · exact hjn
        · rw [List.getElem?_eq_none (by simp; omega)] at hj; simp at hj
      rw [List.getElem?_range hjn] at hj
      simp at hj
      subst hj
      exact hR j d hd

/-- A slice's rows in memory. -/
theorem RV.rows {v : Value} {d : DV} {rows : List (List DV)} (h : RV G v d) (hr : rowsOf d = some rows) : RI G.F v (.sl rows) := by
  cases h with
  | leaf h => cases h with
    | imm h => cases h with
      | raw v hv =>
        unfold rowsOf at hr
        split at hr
        · rename_i hq; cases hq
        · rename_i hq; cases hq
        · rename_i hq; injection hq with hq; subst hq; injection hr with hr; subst hr; exact .sl0 _ _
        · cases hr
      | sl0 A c => simp [rowsOf] at hr; subst hr; exact .sl0 A c
      | sl b off c sz rows x h0 hm hc hsz hF hR => simp [rowsOf] at hr; subst hr; exact .sl b off c sz rows x h0 hm hc hsz hF hR
      | ptr => simp [rowsOf] at hr
    | own h _ _ => simp [rowsOf] at hr; subst hr; exact h
    | ref => simp [rowsOf] at hr
    | mref => simp [rowsOf] at hr
    | clo => simp [rowsOf] at hr
  | agg => simp [rowsOf] at hr
  | tup => simp [rowsOf] at hr
  | junk => simp [rowsOf] at hr
/-- A slice as a value. -/
theorem RI.slice {F : Facts} {v : Value} {rows : List (List DV)} (h : RI F v (.sl rows)) : ∃ A c, v = .slice A rows.length c ∧ rows.length ≤ 9223372036854775807 ∧ (rows = [] ∨ rows.length ≤ c) := by
  cases h with
  | sl0 A c => exact ⟨A, c, rfl, by simp, .inl rfl⟩
  | sl b off c sz rows x h0 hm hc hsz hF hR => exact ⟨_, c, rfl, hm, .inr hc⟩

theorem RV.int {v : Value} {d : DV} {n : Int} (h : RV G v d) (hd : intOf? d = some n) : ∃ k, v = .int k n := by
  unfold intOf? at hd
  split at hd
  · injection hd with hd; subst hd; exact ⟨_, h.raw⟩
  · cases hd

theorem part_sound {t n bb : Nat} {g : Bool} (ht : tI P t = some (n, bb, g)) (cs : Array Value) (ds : List DV) (h : RC G cs.toList ds) (off : Nat) (hl : off + n ≤ ds.length) (h1 : g = false → n = 1) :
    ∃ v, (part t cs off).run P w = .ok v w ∧ RV G v (mk g ((ds.drop off).take n)) := by
  have hcs : cs.size = ds.length := by simpa using h.1
  refine ⟨_, ?_, mk_of ((h.drop off).take n) (n := n) (by simp; omega) h1⟩
  unfold part
  simp only [Sem.run_bind, run_agg ht, Result.andThen_ok]
  cases g with
  | true =>
    simp only [if_true, Sem.run_bind, run_size ht, Result.andThen_ok, Sem.run_pure]
    congr 2
    apply Array.ext'
    simp [Array.toList_extract, List.extract_eq_take_drop]
  | false =>
    have := h1 rfl
    subst this
    have hlt : off < cs.size := by omega
    simp only [Bool.false_eq_true, if_false]
    rw [Array.getElem?_eq_getElem hlt]
    simp only [Sem.run_pure]
    congr 1
    rw [List.drop_eq_getElem_cons (by simpa using hlt)]
    simp

theorem bs_ext {x y : ByteArray} (h : bs x = bs y) : x = y := by
  cases x; cases y
  simp only [bs] at h
  congr 1
  exact Array.toList_inj.1 h
theorem toList_bs (x : ByteArray) : x.toList = bs x := by
  exact ByteArray.toList_eq x
end
end Go.Proofs.YtdbaklnjemcfgaaGreatDoor.D
namespace Go.Proofs.YtdbaklnjemcfgaaGreatDoor.D
open Go.RowKit Go.Proofs.YtdbaklnjemcfgaaGreatDoor.Mem
set_option linter.unusedVariables false
set_option linter.unusedSimpArgs false

section
variable {P : Program} {G : Gh} {w : World}

theorem raw_rv (v : Value) (h : leafV v = true) : RV G v (.raw v) := .leaf (.imm (.raw v h))

theorem intD_sound {op : BinOp} {k k' : IntKind} {a b : Int} {c : Prop} {d : DV} {t : TypeId} (hk : k = k' ∨ op = .shl ∨ op = .shr) (h : intD op k a b = .val c d) (hc : c) :
    ∃ v, (binOp op t (.int k a) (.int k' b)).run P w = .ok v w ∧ RV G v d := by
  cases op <;> simp only [intD, Out.val.injEq] at h <;> obtain ⟨rfl, rfl⟩ := h <;> refine ⟨_, ?_, raw_rv _ rfl⟩
  all_goals
    first
      | (obtain rfl : k = k' := by rcases hk with h | h | h <;> first | exact h | cases h
         simp [binOp, Op.intArith, Op.intDiv, Op.intBits, Op.intCmp, hc]
         done)
      | (simp only [binOp, Op.shift]
         rw [if_neg (by omega)]
         rfl)

theorem strD_sound {op : BinOp} {x y : ByteArray} {c : Prop} {d : DV} {t : TypeId} (h : strD op x y = .val c d) (hc : c) :
    ∃ v, (binOp op t (.string x) (.string y)).run P w = .ok v w ∧ RV G v d := by
  have e1 : (x.toList == y.toList) = (bs x == bs y) := by rw [toList_bs, toList_bs]
  have e2 : Op.bytesLess x.toList y.toList = Op.bytesLess (bs x) (bs y) := by rw [toList_bs, toList_bs]
  cases op <;> simp only [strD, Out.val.injEq, reduceCtorEq] at h <;> obtain ⟨rfl, rfl⟩ := h <;> refine ⟨_, ?_, raw_rv _ rfl⟩
  case add =>
    have hs : ¬ (((x.size + y.size : Nat) : Int) > IntKind.i64.max) := by
      have h1 : (bs x).length = x.size := by simp [bs]
      have h2 : (bs y).length = y.size := by simp [bs]
      have : IntKind.i64.max = 9223372036854775807 := by decide
      rw [this]; omega
    simp only [binOp, Op.stringOp]
    rw [if_neg hs]
    simp only [Sem.run_pure, Result.ok.injEq, and_true]
    simp only [str, Value.string.injEq]
    apply bs_ext
    simp [bs]
  all_goals simp [binOp, Op.stringOp, e1, e2]

theorem guard_int (op : BinOp) (t : TypeId) (x y : Operand) (k k' : IntKind) (a b : Int) : (eqGuard op t x y (.int k a) (.int k' b)).run P w = .ok () w := by
  unfold eqGuard; split <;> rfl
theorem guard_str (op : BinOp) (t : TypeId) (x y : Operand) (a b : ByteArray) : (eqGuard op t x y (.string a) (.string b)).run P w = .ok () w := by
  unfold eqGuard; split <;> rfl
theorem guard_bool (op : BinOp) (t : TypeId) (x y : Operand) (a b : Bool) : (eqGuard op t x y (.bool a) (.bool b)).run P w = .ok () w := by
  unfold eqGuard; split <;> rfl

theorem equal_bool (t : TypeId) (a b : Bool) (h : P.underlying t = some .bool) : (Op.equal t (.bool a) (.bool b)).run P w = .ok (a == b) w := by
  have e : Op.maxDepth = 9999 + 1 := rfl
  unfold Op.equal
  rw [e]
  generalize 9999 = n
  simp only [Op.equalIn, Sem.run_bind, run_under h, Result.andThen_ok, Sem.run_pure]
theorem binOp_eql (t : TypeId) (a b : Bool) : binOp .eql t (.bool a) (.bool b) = (do pure (.bool (← Op.equal t (.bool a) (.bool b)))) := rfl
theorem binOp_neq (t : TypeId) (a b : Bool) : binOp .neq t (.bool a) (.bool b) = (do pure (.bool (!(← Op.equal t (.bool a) (.bool b))))) := rfl

theorem eqC_sound {t : TypeId} {x y : DV} {vx vy : Value} (hx : RV G vx x) (hy : RV G vy y) {b : Bool} (h : eqC P t x y = some b) (d : Nat) : (Op.equalIn (d + 1) t vx vy).run P w = .ok b w := by
  unfold eqC at h
  split at h
  · rw [hx.raw, hy.raw]
    split at h
    · rename_i hk
      subst hk
      split at h
      · rename_i hu
        injection h with h; subst h
        exact run_equalIn_int w d t _ _ _ _ hu
      · cases h
    · cases h
  · rw [hx.raw, hy.raw]
    split at h
    · rename_i hu
      injection h with h; subst h
      rw [run_equalIn_string w d t _ _ hu, toList_bs, toList_bs]
    · cases h
  · rw [hx.raw, hy.raw]
    split at h
    · rename_i hu
      injection h with h; subst h
      exact run_equalIn_bool' w d t _ _ hu
    · cases h
  · cases h
theorem eqFields_sound {xs ys : List DV} {cx cy : Array Value} (hx : RC G cx.toList xs) (hy : RC G cy.toList ys) (d : Nat) : ∀ (fs : List Field) (b : Bool), eqFieldsD P xs ys fs = some b → (Op.eqFields (d + 1) cx cy fs).run P w = .ok b w := by
  intro fs
  induction fs with
  | nil => intro b h; simp [eqFieldsD] at h; subst h; rfl
  | cons f fs ih =>
    intro b h
    unfold eqFieldsD at h
    split at h
    · rename_i x y bb h1 h2 h3
      have hlx : f.offset + 1 ≤ xs.length := (List.getElem?_eq_some_iff.1 h1).1
      have hly : f.offset + 1 ≤ ys.length := (List.getElem?_eq_some_iff.1 h2).1
      obtain ⟨vx, hvx, rx⟩ := part_sound (w := w) h3 cx xs hx f.offset hlx (fun _ => rfl)
      obtain ⟨vy, hvy, ry⟩ := part_sound (w := w) h3 cy ys hy f.offset hly (fun _ => rfl)
      have ex : mk false ((xs.drop f.offset).take 1) = x := by
        simp only [mk, Bool.false_eq_true, if_false, List.headD_eq_head?_getD, List.head?_take, List.head?_drop, h1]
        rfl
      have ey : mk false ((ys.drop f.offset).take 1) = y := by
        simp only [mk, Bool.false_eq_true, if_false, List.headD_eq_head?_getD, List.head?_take, List.head?_drop, h2]
        rfl
      rw [ex] at rx
      rw [ey] at ry
      unfold Op.eqFields
      split at h
      · rename_i hn
        rw [if_pos hn]
        split at h
        · rename_i c e h4 h5
          injection h with h
          subst h
          simp only [Sem.run_bind, hvx, hvy, Result.andThen_ok, eqC_sound rx ry h4 d, Sem.run_ite]
          cases c with
          | true => simp only [Bool.not_true, Bool.false_eq_true, if_false, Bool.true_and]; exact ih _ h5
          | false => simp only [Bool.not_false, if_true, Bool.false_and]; rfl
        · cases h
      · rename_i hn
        rw [if_neg hn]
        exact ih _ h
    · cases h

theorem binD_sound {op : BinOp} {t : TypeId} {x y : Operand} {vx vy : Value} {dx dy : DV} {c : Prop} {d : DV} (hx : RV G vx dx) (hy : RV G vy dy) (h : binD P op t dx dy = .val c d) (hc : c) :
    ∃ v, ((do eqGuard op t x y vx vy; binOp op t vx vy) : Sem Value).run P w = .ok v w ∧ RV G v d := by
  unfold binD at h
  split at h
  · rename_i k a k' b
    rw [hx.raw, hy.raw]
    split at h
    · rename_i hk
      obtain ⟨v, hv, hr⟩ := intD_sound (P := P) (G := G) (w := w) (t := t) hk h hc
      exact ⟨v, by simp only [Sem.run_bind, guard_int, Result.andThen_ok, hv], hr⟩
    · cases h
  · rename_i a b
    rw [hx.raw, hy.raw]
    obtain ⟨v, hv, hr⟩ := strD_sound (P := P) (G := G) (w := w) (t := t) h hc
    exact ⟨v, by simp only [Sem.run_bind, guard_str, Result.andThen_ok, hv], hr⟩
  · rename_i a b
    rw [hx.raw, hy.raw]
    split at h
    · injection h with h1 h2
      subst h1 h2
      refine ⟨_, ?_, raw_rv _ rfl⟩
      simp only [Sem.run_bind, guard_bool, Result.andThen_ok, binOp_eql, equal_bool t a b hc, Sem.run_pure]
    · injection h with h1 h2
      subst h1 h2
      refine ⟨_, ?_, raw_rv _ rfl⟩
      simp only [Sem.run_bind, guard_bool, Result.andThen_ok, binOp_neq, equal_bool t a b hc, Sem.run_pure, bne]
    · cases h
  · rename_i xs ys
    cases hx with
    | leaf hl => cases hl with
      | imm h => cases h
    | agg hx =>
    cases hy with
    | leaf hl => cases hl with
      | imm h => cases h
    | agg hy =>
    split at h
    · split at h
      · rename_i b hb
        injection h with h1 h2
        subst h1 h2
        refine ⟨_, ?_, raw_rv _ rfl⟩
        simp only [Sem.run_bind, run_eqGuard_agg w _ t x y _ _ hc.2.2, Result.andThen_ok, run_eql_struct, run_equalIn_struct w _ t _ _ hc.1 hc.2.1, eqFields_sound hx hy _ _ _ hb]
      · cases h
    · split at h
      · rename_i b hb
        injection h with h1 h2
        subst h1 h2
        refine ⟨_, ?_, raw_rv _ rfl⟩
        simp only [Sem.run_bind, run_eqGuard_agg w _ t x y _ _ hc.2.2, Result.andThen_ok, run_neq_struct, run_equalIn_struct w _ t _ _ hc.1 hc.2.1, eqFields_sound hx hy _ _ _ hb]
      · cases h
    · cases h
  · cases h

theorem unD_sound {op : UnOp} {vx : Value} {dx : DV} {c : Prop} {d : DV} (hx : RV G vx dx) (h : unD op dx = .val c d) (hc : c) :
    ∃ v, (Op.unary op vx).run P w = .ok v w ∧ RV G v d := by
  unfold unD at h
  split at h
  · injection h with h1 h2; subst h1 h2
    rw [hx.raw]
    exact ⟨_, by simp [Op.unary, Op.intArith], raw_rv _ rfl⟩
  · injection h with h1 h2; subst h1 h2
    rw [hx.raw]
    exact ⟨_, by simp [Op.unary], raw_rv _ rfl⟩
  · cases h

theorem convD_sound {s t : TypeId} {vx : Value} {dx : DV} {c : Prop} {d : DV} (hx : RV G vx dx) (h : convD P s t dx = .val c d) (hc : c) :
    ∃ v, (convert s t vx).run P w = .ok v w ∧ RV G v d := by
  unfold convD at h
  split at h
  · rename_i hs ht
    injection h with h1 h2; subst h1 h2
    rw [hx.raw]
    refine ⟨_, ?_, raw_rv _ rfl⟩
    simp [convert, run_under hs, run_under ht, Conv.intToInt]
  · rename_i hs ht
    injection h with h1 h2; subst h1 h2
    rw [hx.raw]
    exact ⟨_, by simp [convert, run_under hs, run_under ht], raw_rv _ rfl⟩
  · cases h

theorem lenD_sound {cl : Call} {ty : TypeId} {vx : Value} {dx : DV} {c : Prop} {d : DV} (hx : RV G vx dx) (h : lenD P cl dx = .val c d) (hc : c) :
    ∃ v, (Builtin.len_ cl.argTypes ty #[vx]).run P w = .ok v w ∧ RV G v d := by
  unfold lenD at h
  split at h
  · rename_i t ht
    have e : cl.argTypes = #[t] := by rw [← Array.toArray_toList (xs := cl.argTypes), ht]
    split at h
    · rename_i hu
      injection h with h1 h2; subst h1 h2
      rw [hx.raw]
      refine ⟨_, ?_, raw_rv _ rfl⟩
      simp [Builtin.len_, e, run_under hu, goInt, bs]
    · rename_i hu
      split at h
      · rename_i rows hr
        injection h with h1 h2; subst h1 h2
        obtain ⟨A, cc, rfl, _⟩ := (hx.rows hr).slice
        refine ⟨_, ?_, raw_rv _ rfl⟩
        simp [Builtin.len_, e, run_under hu, goInt]
      · cases h
    · rename_i hu
      injection h with h1 h2; subst h1 h2
      refine ⟨_, ?_, raw_rv _ rfl⟩
      simp [Builtin.len_, e, run_under hu, goInt]
    · cases h
    · cases h
  · cases h
end
end Go.Proofs.YtdbaklnjemcfgaaGreatDoor.D
namespace Go.Proofs.YtdbaklnjemcfgaaGreatDoor.D
open Go.RowKit Go.Proofs.YtdbaklnjemcfgaaGreatDoor.Mem
set_option linter.unusedVariables false
set_option linter.unusedSimpArgs false

section
variable {P : Program} {G : Gh} {w : World}

theorem bound_sound (k : IntKind) (i : Int) (y : Nat) (code : BoundsCode) (h0 : 0 ≤ i) (h1 : i ≤ y) : (Instr.sliceBound (.int k i) y code).run P w = .ok i.toNat w := run_sliceBound w k i y code h0 h1

/-- Where a slice begins and ends. -/
theorem bounds_sound (isS : Bool) (len cap : Nat) (lo hi : Option Value) (l h : Int) (hlo : (lo = none ∧ l = 0) ∨ ∃ k, lo = some (.int k l)) (hhi : (hi = none ∧ h = len) ∨ ∃ k, hi = some (.int k h))
    (h0 : 0 ≤ l) (h1 : l ≤ h) (h2 : h ≤ cap) (hlen : len ≤ cap) : (Instr.sliceBounds isS len cap lo hi none).run P w = .ok (l.toNat, h.toNat, cap) w := by
  unfold Instr.sliceBounds
  have hh : (0 : Int) ≤ h := by omega
  have e : ((h.toNat : Nat) : Int) = h := Int.toNat_of_nonneg hh
  rcases hlo with ⟨rfl, rfl⟩ | ⟨k, rfl⟩ <;> rcases hhi with ⟨rfl, rfl⟩ | ⟨k', rfl⟩
  · simp
  · simp only [Sem.run_bind, Sem.run_pure, Result.andThen_ok, bound_sound (P := P) (w := w) k' h cap _ hh h2]
    rfl
  · simp only [Sem.run_bind, Sem.run_pure, Result.andThen_ok, Option.isSome_none]
    rw [bound_sound (P := P) (w := w) k l len _ h0 (by omega)]
    simp
  · simp only [Sem.run_bind, Sem.run_pure, Result.andThen_ok, bound_sound (P := P) (w := w) k' h cap _ hh h2, Option.isSome_none]
    rw [bound_sound (P := P) (w := w) k l h.toNat _ h0 (by omega)]
    simp

theorem RI.sub {F : Facts} {A : Option Addr} {c n : Nat} {rows : List (List DV)} (h : RI F (.slice A rows.length c) (.sl rows)) (l hh : Nat) (h1 : l ≤ hh) (h2 : hh ≤ rows.length) (hn : ∀ r ∈ rows, r.length = n) (hcc : rows = [] ∨ rows.length ≤ c) (c' : Nat) (hc' : c' = c - l) :
    RI F (.slice (if c = l then A else A.map (·.add (l * n))) (hh - l) c') (.sl ((rows.take hh).drop l)) := by
  by_cases he : hh = l
  · subst he
    have : (rows.take hh).drop hh = [] := by rw [List.drop_eq_nil_iff, List.length_take]; omega
    rw [this, Nat.sub_self]
    exact .sl0 _ _
  · have hlt : l < hh := by omega
    have hc : rows.length ≤ c := by rcases hcc with h | h; (subst h; simp at h2; omega); exact h
    have hr : rows ≠ [] := by intro h; subst h; simp at h2; omega
    generalize hL : rows.length = L at h
    cases h with
    | sl0 => exact absurd rfl hr
    | sl b off c sz rows x h0 hm _ hsz hF hR =>
      obtain ⟨r, rs, rfl⟩ := List.exists_cons_of_ne_nil hr
      have hsn : sz = n := (hsz r (by simp)).symm.trans (hn r (by simp))
      subst hsn
      rw [if_neg (by omega)]
      simp only [Option.map_some, add_lit]
      have hlen : ((List.take hh (r :: rs)).drop l).length = hh - l := by rw [List.length_drop, List.length_take]; omega
      rw [← hlen]
      have key : ∀ (i : Nat) q, (List.drop l (List.take hh (r :: rs)))[i]? = some q → (r :: rs)[l + i]? = some q := by
        intro i q hi
        rw [List.getElem?_drop, List.getElem?_take] at hi
        split at hi
        · exact hi
        · cases hi
      refine .sl b (off + l * sz) c' sz _ (fun i j => x (l + i) j) (by intro h; rw [h] at hlen; simp at hlen; omega) (by rw [hlen]; omega) (by rw [hlen, hc']; omega)
        (fun q hq => hsz q (List.mem_of_mem_take (List.mem_of_mem_drop hq))) (fun i q hi j d hj => ?_) (fun i q hi j d hj => hR _ _ (key i q hi) j d hj)
      have := hF _ _ (key i q hi) j d hj
      rw [Nat.add_mul, ← Nat.add_assoc] at this
      exact this

theorem sliceD_sound {t : TypeId} {vx : Value} {dx : DV} {lo hi : Option Value} {dlo dhi : Option DV} {c : Prop} {d : DV} (hx : RV G vx dx) (hlo : ∀ x, lo = some x → ∃ y, dlo = some y ∧ RV G x y) (hlo' : lo = none → dlo = none)
    (hhi : ∀ x, hi = some x → ∃ y, dhi = some y ∧ RV G x y) (hhi' : hi = none → dhi = none) (h : sliceD P t dx dlo dhi = .val c d) (hc : c) :
    ∃ v, (Instr.sliceAt t vx lo hi none).run P w = .ok v w ∧ RV G v d := by
  have LO : ∀ l, loI dlo = some l → (lo = none ∧ l = 0) ∨ ∃ k, lo = some (.int k l) := by
    intro l hl
    cases lo with
    | none => rw [hlo' rfl] at hl; simp [loI] at hl; exact .inl ⟨rfl, hl.symm⟩
    | some x =>
      obtain ⟨y, rfl, hy⟩ := hlo x rfl
      obtain ⟨k, rfl⟩ := hy.int hl
      exact .inr ⟨k, rfl⟩
  have HI : ∀ n h, hiI n dhi = some h → (hi = none ∧ h = n) ∨ ∃ k, hi = some (.int k h) := by
    intro n hh hl
    cases hi with
    | none => rw [hhi' rfl] at hl; simp [hiI] at hl; exact .inl ⟨rfl, hl.symm⟩
    | some x =>
      obtain ⟨y, rfl, hy⟩ := hhi x rfl
      obtain ⟨k, rfl⟩ := hy.int hl
      exact .inr ⟨k, rfl⟩
  unfold sliceD at h
  split at h
  · rename_i hu
    split at h
    · rename_i s
      cases e1 : loI dlo with
      | none => rw [e1] at h; simp [sliceS] at h
      | some l =>
      cases e2 : hiI (bs s).length dhi with
      | none => rw [e1, e2] at h; simp [sliceS] at h
      | some hh =>
      rw [e1, e2] at h
      simp only [sliceS] at h
      injection h with h1 h2; subst h1 h2
      obtain ⟨c1, c2, c3⟩ := hc
      have hl := LO l e1
      have hhh := HI _ hh e2
      have hbs : (bs s).length = s.size := by simp [bs]
      rw [hx.raw]
      refine ⟨_, ?_, raw_rv _ rfl⟩
      unfold Instr.sliceAt
      simp only [Sem.run_bind, run_under hu, Result.andThen_ok]
      unfold Instr.slice
      simp only [Sem.run_bind, run_under hu, Result.andThen_ok, Option.isSome_none, Bool.false_eq_true, if_false, Sem.run_pure]
      rw [bounds_sound (P := P) (w := w) false s.size s.size lo hi l hh hl (by rw [← hbs]; exact hhh) c1 c2 (by rw [← hbs]; exact c3) (Nat.le_refl _)]
      simp only [Result.andThen_ok, Sem.run_pure, Result.ok.injEq, and_true, str, Value.string.injEq]
      apply bs_ext
      simp only [bs]
      simp [ByteArray.data_extract, List.extract_eq_take_drop]
      rw [List.drop_take]
    · cases h
  · rename_i e hu
    split at h
    · rename_i rows n bb g e0 e3
      cases e1 : loI dlo with
      | none => rw [e1] at h; simp [sliceR] at h
      | some l =>
      cases e2 : hiI rows.length dhi with
      | none => rw [e1, e2] at h; simp [sliceR] at h
      | some hh =>
      rw [e1, e2] at h
      simp only [sliceR] at h
      injection h with h1 h2; subst h1 h2
      obtain ⟨c1, c2, c3, c4⟩ := hc
      have hl := LO l e1
      have hri := hx.rows e0
      obtain ⟨A, cc, rfl, hmx, hcc⟩ := hri.slice
      have hhh := HI _ hh e2
      have hB : (Instr.sliceBounds true rows.length cc lo hi none).run P w = .ok (l.toNat, hh.toNat, cc) w := by
        rcases hcc with h0 | h0
        · subst h0
          simp at c3
          have : l = 0 := by omega
          have : hh = 0 := by omega
          subst l hh
          exact bounds_sound true 0 cc lo hi 0 0 hl (by simpa using hhh) (by omega) (by omega) (by omega) (by omega)
        · exact bounds_sound true rows.length cc lo hi l hh hl hhh c1 c2 (by omega) h0
      refine ⟨.slice (if cc = l.toNat then A else A.map (·.add (l.toNat * n))) (hh.toNat - l.toNat) (cc - l.toNat), ?_, .leaf (.imm (hri.sub l.toNat hh.toNat (by omega) (by omega) c4 hcc _ rfl))⟩
      unfold Instr.sliceAt
      simp only [Sem.run_bind, run_under hu, Result.andThen_ok]
      unfold Instr.slice
      simp only [Sem.run_bind, run_under hu, Result.andThen_ok, hB, run_size e3, Sem.run_pure]
    · cases h
  · cases h

theorem fieldD_sound {t f : Nat} {vx : Value} {dx : DV} {c : Prop} {d : DV} (hx : RV G vx dx) (h : fieldD P t dx f = .val c d) (hc : c) :
    ∃ v, (Instr.field t vx f).run P w = .ok v w ∧ RV G v d := by
  unfold fieldD at h
  split at h
  · rename_i fs hu
    split at h
    · rename_i fd hf
      split at h
      · rename_i cells n bb g ht
        injection h with h1 h2; subst h1 h2
        cases hx with
        | leaf h => cases h with
          | imm h => cases h
        | agg hcs =>
          obtain ⟨v, hv, hr⟩ := part_sound (P := P) (w := w) ht _ _ hcs fd.offset hc.1 hc.2
          exact ⟨v, by simp only [Instr.field, Sem.run_bind, run_under hu, Result.andThen_ok, hf, asAgg, Sem.run_pure, hv], hr⟩
      · cases h
    · cases h
  · cases h

theorem sureAddr_run (a : Addr) : (Instr.sureAddr (.pointer (some a))).run P w = .ok a w := rfl

theorem fieldAddrD_sound {t f : Nat} {vx : Value} {dx : DV} {c : Prop} {d : DV} (hx : RV G vx dx) (h : fieldAddrD P t dx f = .val c d) (hc : c) :
    ∃ v, (Instr.fieldAt t vx f).run P w = .ok v w ∧ RV G v d := by
  unfold fieldAddrD at h
  split at h
  · rename_i fs hu
    split at h
    · rename_i fd hf
      split at h
      · rename_i cells n bb g ht
        injection h with h1 h2; subst h1 h2
        have hl := hx.leaf' rfl
        cases hl with
        | imm h => cases h with
          | ptr b off cells x hF hR =>
            refine ⟨.pointer (some ⟨b, off + fd.offset, none⟩), ?_, .leaf (.imm (.ptr b (off + fd.offset) _ (fun j => x (fd.offset + j)) (fun j d hj => ?_) (fun j d hj => hR _ _ (by simpa using hj))))⟩
            · simp only [Instr.fieldAt, Sem.run_bind, run_under hu, Result.andThen_ok, hf, sureAddr_run, fieldPlace, run_size ht, hc, if_false, Sem.run_pure, add_lit]
            · have := hF _ _ (by simpa using hj : cells[fd.offset + j]? = some d)
              rwa [← Nat.add_assoc] at this
      · rename_i k off n bb g ht
        injection h with h1 h2; subst h1 h2
        have hl := hx.leaf' rfl
        cases hl with
        | imm h => cases h
        | ref off hb =>
          rename_i b
          refine ⟨.pointer (some ⟨b, off + fd.offset, none⟩), ?_, .leaf (.ref _ hb)⟩
          simp only [Instr.fieldAt, Sem.run_bind, run_under hu, Result.andThen_ok, hf, sureAddr_run, fieldPlace, run_size ht, hc, if_false, Sem.run_pure, add_lit]
      · cases h
    · cases h
  · cases h

theorem asIntOf_run (k : IntKind) (n : Int) : (asIntOf (.int k n)).run P w = .ok (k, n) w := rfl

theorem indexAddrD_sound {t : Nat} {vx vi : Value} {dx di : DV} {c : Prop} {d : DV} (hx : RV G vx dx) (hi : RV G vi di) (h : indexAddrD P t dx di = .val c d) (hc : c) :
    ∃ v, (Instr.indexAt t vx vi).run P w = .ok v w ∧ RV G v d := by
  unfold indexAddrD at h
  split at h
  · rename_i i e hii hu
    obtain ⟨k, rfl⟩ := hi.int hii
    split at h
    · rename_i rows n bb g hr ht
      injection h with h1 h2; subst h1 h2
      obtain ⟨c1, c2, c3⟩ := hc
      have hri := hx.rows hr
      cases hri with
      | sl0 A c => simp at c2; omega
      | sl b off c sz rows x h0 hm hcc hsz hF hR =>
        have hlt : i.toNat < rows.length := by omega
        have hrow : rows[i.toNat]? = some (rows.getD i.toNat []) := by simp [hlt]
        have hs : sz = n := (hsz _ (List.mem_of_getElem? hrow)).symm.trans c3
        subst hs
        refine ⟨.pointer (some ⟨b, off + i.toNat * sz, none⟩), ?_, .leaf (.imm (.ptr b (off + i.toNat * sz) _ (x i.toNat) (fun j d hj => hF _ _ hrow j d hj) (fun j d hj => hR _ _ hrow j d hj)))⟩
        simp only [Instr.indexAt, Sem.run_bind, asIntOf_run, Result.andThen_ok, run_under hu, Sem.run_pure]
        rw [if_pos ⟨c1, c2⟩]
        simp only [Sem.run_bind, run_size ht, Result.andThen_ok, Sem.run_pure, add_lit]
    · cases h
  · rename_i i m e hii hu
    obtain ⟨k, rfl⟩ := hi.int hii
    split at h
    · rename_i cells n bb g ht
      injection h with h1 h2; subst h1 h2
      have hl := hx.leaf' rfl
      cases hl with
      | imm h => cases h with
        | ptr b off cells x hF hR =>
          refine ⟨.pointer (some ⟨b, off + i.toNat * n, none⟩), ?_, .leaf (.imm (.ptr b (off + i.toNat * n) _ (fun j => x (i.toNat * n + j)) (fun j d hj => ?_) (fun j d hj => hR _ _ (by simpa using hj))))⟩
          · simp only [Instr.indexAt, Sem.run_bind, asIntOf_run, Result.andThen_ok, run_under hu, Sem.run_pure, sureAddr_run]
            rw [if_pos hc]
            simp only [Sem.run_bind, run_size ht, Result.andThen_ok, Sem.run_pure, add_lit]
          · have := hF _ _ (by simpa using hj : cells[i.toNat * n + j]? = some d)
            rwa [← Nat.add_assoc] at this
    · rename_i kk off n bb g ht
      injection h with h1 h2; subst h1 h2
      have hl := hx.leaf' rfl
      cases hl with
      | imm h => cases h
      | ref off hb =>
        rename_i b
        refine ⟨.pointer (some ⟨b, off + i.toNat * n, none⟩), ?_, .leaf (.ref _ hb)⟩
        simp only [Instr.indexAt, Sem.run_bind, asIntOf_run, Result.andThen_ok, run_under hu, Sem.run_pure, sureAddr_run]
        rw [if_pos hc]
        simp only [Sem.run_bind, run_size ht, Result.andThen_ok, Sem.run_pure, add_lit]
    · cases h
  · cases h

theorem indexD_sound {t : Nat} {vx vi : Value} {dx di : DV} {c : Prop} {d : DV} (hx : RV G vx dx) (hi : RV G vi di) (h : indexD P t dx di = .val c d) (hc : c) :
    ∃ v, (Instr.index t vx vi).run P w = .ok v w ∧ RV G v d := by
  unfold indexD at h
  split at h
  · rename_i i s hii hu
    obtain ⟨k, rfl⟩ := hi.int hii
    injection h with h1 h2; subst h1 h2
    rw [hx.raw]
    have hlt : i.toNat < s.size := by have : (bs s).length = s.size := by simp [bs]
                                      omega
    refine ⟨_, ?_, raw_rv _ rfl⟩
    simp only [Instr.index, Sem.run_bind, asIntOf_run, Result.andThen_ok, run_under hu]
    rw [if_pos hc.1]
    have : s[i.toNat]? = some ((bs s).getD i.toNat 0) := by
      rw [getElem?_pos s i.toNat hlt]
      have h2 : i.toNat < (bs s).length := by simpa [bs] using hlt
      rw [List.getD_eq_getElem?_getD, List.getElem?_eq_getElem h2]
      rfl
    rw [this]
    rfl
  · rename_i i m e cells hii hu
    obtain ⟨k, rfl⟩ := hi.int hii
    split at h
    · rename_i n bb g ht
      injection h with h1 h2; subst h1 h2
      obtain ⟨c1, c2, c3, c4⟩ := hc
      cases hx with
      | leaf h => cases h with
        | imm h => cases h
      | agg hcs =>
        obtain ⟨v, hv, hr⟩ := part_sound (P := P) (w := w) ht _ _ hcs (i.toNat * n) c3 c4
        refine ⟨v, ?_, hr⟩
        simp only [Instr.index, Sem.run_bind, asIntOf_run, Result.andThen_ok, run_under hu]
        rw [if_pos ⟨c1, c2⟩]
        simp only [Sem.run_bind, run_size ht, Result.andThen_ok, hv]
    · cases h
  · cases h

theorem loadD_sound {t : Nat} {vx : Value} {dx : DV} {c : Prop} {d : DV} (hF : G.F.ok w) (hx : RV G vx dx) (h : loadD P t dx = .val c d) (hc : c) :
    ∃ v, (Instr.loadAt t vx).run P w = .ok v w ∧ RV G v d := by
  unfold loadD at h
  split at h
  · rename_i cells n bb g ht
    injection h with h1 h2; subst h1 h2
    have hl := hx.leaf' rfl
    cases hl with
    | imm h =>
      obtain ⟨b, o, rfl, hcells⟩ := h.ptr_cells hF
      obtain ⟨cs, hn, hw, hR⟩ := hcells n hc.1
      refine ⟨_, ?_, mk_of (G := G) (cs := cs) (ds := cells.take n) ⟨by simp [hn]; omega, fun j x d a b => .imm (hR j x d a (by rw [List.getElem?_take] at b; split at b <;> simp_all))⟩ hn hc.2⟩
      simp only [Instr.loadAt, Sem.run_bind, sureAddr_run, Result.andThen_ok]
      exact run_loadVar_of ht b o cs hn hc.2 w hw
  · split at h <;> cases h
  · cases h
end
end Go.Proofs.YtdbaklnjemcfgaaGreatDoor.D
namespace Go.Proofs.YtdbaklnjemcfgaaGreatDoor.D
open Go.RowKit Go.Proofs.YtdbaklnjemcfgaaGreatDoor.Mem
set_option linter.unusedVariables false
set_option linter.unusedSimpArgs false

section
variable {P : Program} {G : Gh} {w : World}

theorem take_app1 {α : Type} (x : α) (B : List α) : ∀ A : List α, List.take (A.length + 1) (A ++ x :: B) = A ++ [x]
  | [] => by simp
  | a :: A => by simpa using take_app1 x B A
theorem drop_app1 {α : Type} (x : α) (B : List α) (k : Nat) : ∀ A : List α, List.drop (A.length + (k + 1)) (A ++ x :: B) = B.drop k
  | [] => by simp
  | a :: A => by
    have := drop_app1 x B k A
    rw [List.length_cons, List.cons_append, show A.length + 1 + (k + 1) = (A.length + (k + 1)) + 1 by omega, List.drop_succ_cons]
    exact this
/-- Cells laid over others. -/
theorem fold_splice (off : Nat) : ∀ (l : List Value) (i : Nat) (cs : Array Value), off + i + l.length ≤ cs.size →
    ((l.zipIdx i).foldl (fun cs (x : Value × Nat) => cs.setIfInBounds (off + x.2) x.1) cs).toList = cs.toList.take (off + i) ++ l ++ cs.toList.drop (off + i + l.length) := by
  intro l
  induction l with
  | nil => intro i cs h; simp
  | cons x l ih =>
    intro i cs h
    simp only [List.length_cons] at h
    rw [List.zipIdx_cons, List.foldl_cons, ih (i + 1) _ (by simp; omega)]
    simp only [Array.toList_setIfInBounds, List.length_cons]
    have hlt : off + i < cs.toList.length := by simp; omega
    rw [List.set_eq_take_append_cons_drop, if_pos hlt]
    have e1 : (cs.toList.take (off + i)).length = off + i := by rw [List.length_take]; omega
    have e2 : List.take (off + (i + 1)) (cs.toList.take (off + i) ++ x :: cs.toList.drop (off + i + 1)) = cs.toList.take (off + i) ++ [x] := by
      have := take_app1 x (cs.toList.drop (off + i + 1)) (cs.toList.take (off + i))
      rw [e1] at this
      exact this
    have e3 : List.drop (off + (i + 1) + l.length) (cs.toList.take (off + i) ++ x :: cs.toList.drop (off + i + 1)) = cs.toList.drop (off + i + (l.length + 1)) := by
      have := drop_app1 x (cs.toList.drop (off + i + 1)) l.length (cs.toList.take (off + i))
      rw [e1, List.drop_drop] at this
      rw [show off + (i + 1) + l.length = off + i + (l.length + 1) by omega, this]
      congr 1
      omega
    rw [e2, e3]
    simp

theorem RC.splice {cs : List Value} {ds : List DV} {new : List Value} {dn : List DV} (h : RC G cs ds) (hn : RC G new dn) (off : Nat) (hl : off + new.length ≤ cs.length) :
    RC G (cs.take off ++ new ++ cs.drop (off + new.length)) (D.splice ds off dn) := by
  unfold D.splice
  rw [← hn.1]
  exact ((h.take off).append hn).append (h.drop _)

theorem fill_sound (place : Nat → Option (Nat × Nat)) : ∀ (parts : List (Nat × Value)) (dp : List (Nat × DV)) (cs : Array Value) (ds r : List DV), parts.length = dp.length → (∀ (j : Nat) x y, parts[j]? = some x → dp[j]? = some y → x.1 = y.1 ∧ RV G x.2 y.2) →
    RC G cs.toList ds → fillD place ds dp = some r → ∃ cs', Instr.fill place cs parts = some cs' ∧ RC G cs'.toList r := by
  intro parts
  induction parts with
  | nil =>
    intro dp cs ds r hl hp hcs h
    obtain rfl : dp = [] := List.eq_nil_of_length_eq_zero hl.symm
    simp [fillD] at h
    subst h
    exact ⟨cs, rfl, hcs⟩
  | cons x parts ih =>
    intro dp cs ds r hl hp hcs h
    cases dp with
    | nil => simp at hl
    | cons y dp =>
      obtain ⟨i, v⟩ := x
      obtain ⟨i', d⟩ := y
      obtain ⟨h1, hv⟩ := hp 0 _ _ rfl rfl
      simp at h1 hv
      subst h1
      simp only [fillD] at h
      cases hpl : place i with
      | none => simp [hpl] at h
      | some on =>
        obtain ⟨off, n⟩ := on
        simp only [hpl] at h
        split at h
        · rename_i hok
          simp only [Bool.and_eq_true, beq_iff_eq, decide_eq_true_eq] at hok
          obtain ⟨⟨k1, k2⟩, k3⟩ := hok
          have hc := hv.cells k1
          have hvs : v.cells.size = n := by rw [← k2, ← hc.1]; simp
          have hcs1 : cs.size = ds.length := by simpa using hcs.1
          have hfold : (v.cells.zipIdx.foldl (fun cs (x : Value × Nat) => cs.setIfInBounds (off + x.2) x.1) cs).toList = cs.toList.take off ++ v.cells.toList ++ cs.toList.drop (off + v.cells.toList.length) := by
            rw [← Array.foldl_toList, Array.toList_zipIdx]
            have := fold_splice off v.cells.toList 0 cs (by simp; omega)
            simpa using this
          obtain ⟨cs', hf, hr⟩ := ih dp _ _ r (by simpa using hl) (fun j x y a b => hp (j + 1) x y (by simpa using a) (by simpa using b)) (by rw [hfold]; exact hcs.splice hc off (by simp; omega)) h
          refine ⟨cs', ?_, hr⟩
          simp only [Instr.fill, hpl]
          rw [if_neg (by simp [hvs]; omega)]
          exact hf
        · cases h

theorem parts_ev {ρ : Operand → Value} {ρD : Operand → DV} (hρ : ∀ x, RV G (ρ x) (ρD x)) (parts : Array (Nat × Operand)) :
    ((parts.map fun (i, x) => (i, ρ x)).toList.length = (parts.toList.map fun (i, x) => (i, ρD x)).length) ∧ ∀ (j : Nat) x y, (parts.map fun (i, x) => (i, ρ x)).toList[j]? = some x → (parts.toList.map fun (i, x) => (i, ρD x))[j]? = some y → x.1 = y.1 ∧ RV G x.2 y.2 := by
  refine ⟨by simp, fun j x y a b => ?_⟩
  rw [Array.toList_map, List.getElem?_map] at a
  rw [List.getElem?_map] at b
  cases hp : parts.toList[j]? with
  | none => rw [hp] at a; simp at a
  | some p => rw [hp] at a b; simp at a b; subst a b; exact ⟨rfl, hρ _⟩

theorem zero_cells {z : Value} (hz : notTup (lit z) = true) : RC G z.cells.toList (lit z).cells := (RV.lit G z).cells hz

theorem places_run {P : Program} {w : World} (fs : Array Field) (h : (fs.all fun f => (tI P f.type).isSome) = true) :
    ∃ pl : Array (Nat × Nat), ((fs.mapM fun f => do pure (f.offset, ← sizeOf f.type)) : Sem (Array (Nat × Nat))).run P w = .ok pl w ∧ ∀ i, pl[i]? = places P fs i := by
  have key : ∀ (l : List Field), (∀ f ∈ l, (tI P f.type).isSome = true) → ∃ pl : List (Nat × Nat), ((l.mapM fun f => do pure (f.offset, ← sizeOf f.type)) : Sem (List (Nat × Nat))).run P w = .ok pl w ∧ ∀ i : Nat, pl[i]? = (l[i]?).bind fun f => (tI P f.type).map fun x => (f.offset, x.1) := by
    intro l
    induction l with
    | nil => intro _; exact ⟨[], rfl, fun i => by simp⟩
    | cons f l ih =>
      intro hl
      obtain ⟨pl, hp, hi⟩ := ih (fun g hg => hl g (by simp [hg]))
      have hf := hl f (by simp)
      cases ht : tI P f.type with
      | none => simp [ht] at hf
      | some x =>
        obtain ⟨n, b, g⟩ := x
        refine ⟨(f.offset, n) :: pl, ?_, fun i => ?_⟩
        · simp only [List.mapM_cons, Sem.run_bind, run_size ht, Result.andThen_ok, Sem.run_pure, hp]
        · cases i with
          | zero => simp [ht]
          | succ i => simpa using hi i
  obtain ⟨pl, hp, hi⟩ := key fs.toList (fun f hf => by have := Array.all_eq_true_iff_forall_mem.1 h f (by simpa using hf); exact this)
  refine ⟨pl.toArray, ?_, fun i => ?_⟩
  · rw [← Array.toArray_toList (xs := fs), List.mapM_toArray]
    simp only [Sem.run_map, hp, Result.andThen_ok]
  · rw [List.getElem?_toArray, hi i]
    simp [places]

theorem buildD_sound {t : TypeId} {ρ : Operand → Value} {ρD : Operand → DV} (hρ : ∀ x, RV G (ρ x) (ρD x)) (parts : Array (Nat × Operand)) {c : Prop} {d : DV} (h : buildD P t (parts.toList.map fun (i, x) => (i, ρD x)) = .val c d) (hc : c) :
    ∃ v, (Instr.build t (parts.map fun (i, x) => (i, ρ x))).run P w = .ok v w ∧ RV G v d := by
  have hp := parts_ev hρ parts
  unfold buildD at h
  split at h
  · rename_i fs z hu hz
    split at h
    · rename_i hok
      simp only [Bool.and_eq_true] at hok
      split at h
      · rename_i cells hfl
        injection h with h1 h2; subst h1 h2
        obtain ⟨pl, hpl, hpi⟩ := places_run (P := P) (w := w) fs hok.2
        have hpe : (fun i => pl[i]?) = places P fs := funext hpi
        obtain ⟨cs', hf, hr⟩ := fill_sound (G := G) (places P fs) _ _ z.cells _ _ hp.1 hp.2 (zero_cells hok.1) hfl
        refine ⟨.agg cs', ?_, .agg hr⟩
        simp only [Instr.build, Sem.run_bind, run_zero hz, run_under hu, Result.andThen_ok, hpl, hpe, hf, Sem.run_pure]
      · cases h
    · cases h
  · rename_i m e z hu hz
    split at h
    · rename_i n bb g ht
      split at h
      · rename_i hok
        split at h
        · rename_i cells hfl
          injection h with h1 h2; subst h1 h2
          obtain ⟨cs', hf, hr⟩ := fill_sound (G := G) (fun i => some (i * n, n)) _ _ z.cells _ _ hp.1 hp.2 (zero_cells hok) hfl
          refine ⟨.agg cs', ?_, .agg hr⟩
          simp only [Instr.build, Sem.run_bind, run_zero hz, run_under hu, Result.andThen_ok, run_size ht, hf, Sem.run_pure]
        · cases h
      · cases h
    · cases h
  · cases h

theorem optmap {ρ : Operand → Value} {ρD : Operand → DV} (hρ : ∀ x, RV G (ρ x) (ρD x)) (lo : Option Operand) : (∀ x, lo.map ρ = some x → ∃ y, lo.map ρD = some y ∧ RV G x y) ∧ (lo.map ρ = none → lo.map ρD = none) := by
  cases lo with
  | none => simp
  | some x => simp; exact hρ x

/-! ### maps -/
theorem lit_raw {v u : Value} (h : lit v = .raw u) : v = u := by
  unfold lit at h
  split at h
  · split at h <;> cases h
  · injection h
theorem checkKey_n (n : Nat) {kt : TypeId} {kd : TypeDesc} {key : Value} {dk : DV} (hr : RV G key dk) (hk : keyT kd dk = true) (hu : P.underlying kt = some kd) (b : Bool) : (Instr.checkKey b (n + 1) kt key).run P w = .ok () w := by
  unfold keyT at hk
  split at hk
  · rw [hr.raw]; simp [Instr.checkKey, run_under hu]
  · rw [hr.raw]; simp [Instr.checkKey, run_under hu]
  · rw [hr.raw]; simp [Instr.checkKey, run_under hu]
  · cases hk
theorem checkKey_run {kt : TypeId} {kd : TypeDesc} {key : Value} {dk : DV} (hr : RV G key dk) (hk : keyT kd dk = true) (hu : P.underlying kt = some kd) (b : Bool) : (Instr.checkKey b 10000 kt key).run P w = .ok () w := checkKey_n 9999 hr hk hu b
theorem leafy_eq (d : DV) : leafy d = leafD d := by cases d <;> rfl
theorem sameNow_run {kd : TypeDesc} {key : Value} {dk : DV} (hr : RV G key dk) (hk : keyT kd dk = true) (u : Value) {b : Bool} (h : eqK dk (lit u) = some b) : Instr.sameNow kd key u = some b := by
  unfold keyT at hk
  split at hk
  · rename_i k a
    rw [hr.raw]
    generalize hq : lit u = q at h
    cases q with
    | raw x =>
      rw [lit_raw hq]
      cases x with
      | int k' c =>
        simp only [eqK] at h
        split at h
        · rename_i hkk; subst hkk; injection h with h; subst h; simp [Instr.sameNow]
        · cases h
      | _ => simp [eqK] at h
    | _ => simp [eqK] at h
  · rename_i a
    rw [hr.raw]
    generalize hq : lit u = q at h
    cases q with
    | raw x =>
      rw [lit_raw hq]
      cases x with
      | string c =>
        simp only [eqK, Option.some.injEq] at h
        subst h
        simp only [Instr.sameNow, Option.some.injEq]
        rw [beq_toListBytes, toList_bs, toList_bs]
      | _ => simp [eqK] at h
    | _ => simp [eqK] at h
  · rename_i a
    rw [hr.raw]
    generalize hq : lit u = q at h
    cases q with
    | raw x =>
      rw [lit_raw hq]
      cases x with
      | bool c => simp only [eqK, Option.some.injEq] at h; subst h; simp [Instr.sameNow]
      | _ => simp [eqK] at h
    | _ => simp [eqK] at h
  · cases hk
theorem find_run {kd : TypeDesc} {key : Value} {dk : DV} (hr : RV G key dk) (hk : keyT kd dk = true) : ∀ (es : List MapEntry) (i : Nat) (r : Option DV), findL dk (es.map ent) = some r →
    (r = none ∧ Instr.findNow kd key es i = some none) ∨ ∃ j v vd, r = some vd ∧ Instr.findNow kd key es i = some (some (j, v)) ∧ vd = lit v := by
  intro es
  induction es with
  | nil => intro i r h; simp [findL] at h; subst h; exact .inl ⟨rfl, rfl⟩
  | cons e es ih =>
    intro i r h
    simp only [List.map_cons, ent, findL] at h
    split at h
    · rename_i hq
      injection h with h
      subst h
      exact .inr ⟨i, e.val, _, rfl, by simp only [Instr.findNow, sameNow_run hr hk _ hq], rfl⟩
    · rename_i hq
      simp only [Instr.findNow, sameNow_run hr hk _ hq]
      exact ih (i + 1) r h
    · cases h

theorem callD_val {c : Call} {ρ : Operand → Value} {ρD : Operand → DV} (hρ : ∀ x, RV G (ρ x) (ρD x)) {p : Prop} {d : DV} (ty : TypeId) (h : callD P c ρD = .val p d) (hc : p) :
    ∃ v, ((do let d ← resolve ρ c ty; invoke d.target d.args) : Sem Next).run P w = .ok (.value v) w ∧ RV G v d := by
  unfold callD at h
  split at h
  · rename_i hcal
    split at h
    · rename_i x hx
      have e : c.args = #[x] := by rw [← Array.toArray_toList (xs := c.args), hx]
      obtain ⟨v, hv, hr⟩ := lenD_sound (P := P) (w := w) (ty := ty) (hρ x) h hc
      refine ⟨v, ?_, hr⟩
      simp only [resolve, hcal, e, Sem.run_bind, Sem.run_pure, Result.andThen_ok, invoke, builtin, List.map_toArray, List.map_cons, List.map_nil, hv]
    · cases h
  · split at h
    · unfold appendD at h
      split at h
      · split at h
        · split at h
          · split at h
            · split at h <;> cases h
            · cases h
          · cases h
        · cases h
      · cases h
    · cases h
  · split at h
    · split at h <;> cases h
    · cases h
    · cases h
  · cases h

/-- An operation that only yields a value: what it yields. -/
theorem val_sound {o : Oper} {ρ : Operand → Value} {ρD : Operand → DV} {c : Prop} {d : DV} (hF : G.F.ok w) (hρ : ∀ x, RV G (ρ x) (ρD x)) (h : opD P o ρD = .val c d) (hc : c) :
    ∃ v, (execOp ρ o).run P w = .ok (.value v) w ∧ RV G v d := by
  unfold opD at h
  unfold execOp
  split at h <;> rename_i hop <;> simp only [hop] <;> (try (first | (cases h; done)))
  · injection h with h1 h2; subst h1 h2
    exact ⟨_, rfl, hρ _⟩
  · injection h with h1 h2; subst h1 h2
    exact ⟨_, rfl, hρ _⟩
  · rename_i c0 a0 b0
    split at h
    · rename_i t ht
      injection h with h1 h2; subst h1 h2
      have hb := hρ c0
      rw [ht] at hb
      have hb' := hb.raw
      refine ⟨if t then ρ a0 else ρ b0, ?_, ?_⟩
      · simp only [hb', Sem.run_bind, asBool, Sem.run_pure, Result.andThen_ok]
      · cases t
        · exact hρ b0
        · exact hρ a0
    · cases h
  · split at h <;> cases h
  · split at h
    · split at h <;> cases h
    · cases h
  · obtain ⟨v, hv, hr⟩ := buildD_sound (P := P) (w := w) hρ _ h hc
    exact ⟨v, by simp only [Sem.run_bind, hv, Result.andThen_ok, Sem.run_pure], hr⟩
  · unfold buildSliceD at h
    split at h
    · split at h
      · split at h <;> cases h
      · cases h
    · cases h
  · unfold makeSliceD at h
    repeat' (first | split at h | (cases h; done))
  · obtain ⟨v, hv, hr⟩ := loadD_sound (P := P) (w := w) hF (hρ _) h hc
    exact ⟨v, by simp only [Sem.run_bind, hv, Result.andThen_ok, Sem.run_pure], hr⟩
  · unfold storeD at h
    split at h
    · split at h <;> cases h
    · cases h
  · rename_i x
    split at h
    · rename_i cells hx
      injection h with h1 h2; subst h1 h2
      have hl := hρ x
      rw [hx] at hl
      generalize ρ x = v at hl ⊢
      cases hl.leaf' rfl with
      | imm hi =>
        cases hi
        exact ⟨_, rfl, hl⟩
    · rename_i k off hx
      injection h with h1 h2; subst h1 h2
      have hl := hρ x
      rw [hx] at hl
      have hl' := hl.leaf' rfl
      generalize ρ x = v at hl' hl ⊢
      cases hl' with
      | imm h => cases h
      | ref off hb => exact ⟨_, rfl, hl⟩
    · cases h
  · obtain ⟨v, hv, hr⟩ := binD_sound (P := P) (w := w) (hρ _) (hρ _) h hc
    refine ⟨v, ?_, hr⟩
    simp only [Sem.run_bind] at hv ⊢
    rw [hv]
    rfl
  · obtain ⟨v, hv, hr⟩ := unD_sound (P := P) (w := w) (hρ _) h hc
    exact ⟨v, by simp only [Sem.run_bind, hv, Result.andThen_ok, Sem.run_pure], hr⟩
  · obtain ⟨v, hv, hr⟩ := convD_sound (P := P) (w := w) (hρ _) h hc
    exact ⟨v, by simp only [Sem.run_bind, hv, Result.andThen_ok, Sem.run_pure], hr⟩
  · obtain ⟨v, hv, hr⟩ := sliceD_sound (P := P) (w := w) (hρ _) (optmap hρ _).1 (optmap hρ _).2 (optmap hρ _).1 (optmap hρ _).2 h hc
    exact ⟨v, by simp only [Option.map_none, Sem.run_bind, hv, Result.andThen_ok, Sem.run_pure], hr⟩
  · obtain ⟨v, hv, hr⟩ := fieldAddrD_sound (P := P) (w := w) (hρ _) h hc
    exact ⟨v, by simp only [Sem.run_bind, hv, Result.andThen_ok, Sem.run_pure], hr⟩
  · obtain ⟨v, hv, hr⟩ := fieldD_sound (P := P) (w := w) (hρ _) h hc
    exact ⟨v, by simp only [Sem.run_bind, hv, Result.andThen_ok, Sem.run_pure], hr⟩
  · obtain ⟨v, hv, hr⟩ := indexAddrD_sound (P := P) (w := w) (hρ _) (hρ _) h hc
    exact ⟨v, by simp only [Sem.run_bind, hv, Result.andThen_ok, Sem.run_pure], hr⟩
  · obtain ⟨v, hv, hr⟩ := indexD_sound (P := P) (w := w) (hρ _) (hρ _) h hc
    exact ⟨v, by simp only [Sem.run_bind, hv, Result.andThen_ok, Sem.run_pure], hr⟩
  · rename_i x i
    split at h
    · rename_i ds hx
      split at h
      · rename_i dd hd
        injection h with h1 h2; subst h1 h2
        have hl := hρ x
        rw [hx] at hl
        generalize ρ x = v at hl ⊢
        cases hl with
        | leaf h => cases h with
          | imm h => cases h
        | tup hn ht =>
          rename_i vs
          have hlt : i < vs.size := by rw [hn]; exact (List.getElem?_eq_some_iff.1 hd).1
          refine ⟨vs[i], ?_, ht i _ _ (Array.getElem?_eq_getElem hlt) hd⟩
          simp only [Instr.extract, Array.getElem?_eq_getElem hlt, Sem.run_bind, Sem.run_pure, Result.andThen_ok]
      · cases h
    · cases h
  · exact callD_val hρ _ h hc
  · rename_i t m k ok
    unfold lookupD at h
    split at h
    · rename_i kt et hu
      split at h
      · split at h <;> cases h
      · rename_i kd z hkd hz hm
        split at h
        · rename_i hok
          simp only [Bool.and_eq_true] at hok
          injection h with h1 h2; subst h1 h2
          have hv := hρ m
          rw [hm] at hv
          rw [hv.raw]
          refine ⟨if ok then .tuple #[z, .bool false] else z, ?_, ?_⟩
          · simp only [Instr.lookup, Sem.run_bind, run_under hu, Result.andThen_ok, Sem.run_pure, checkKey_run (hρ k) hok.1 hkd, Instr.findKey, run_under hkd, Instr.findNow, run_zero hz]
          · cases ok
            · exact RV.lit G z
            · refine .tup rfl fun j x d hx hd => ?_
              match j with
              | 0 => simp at hx hd; subst hx hd; exact RV.lit G z
              | 1 => simp at hx hd; subst hx hd; exact raw_rv _ rfl
              | j + 2 => simp at hx
        · cases h
      · cases h
    · cases h
  · unfold updateD at h
    split at h
    · split at h
      · split at h <;> cases h
      · cases h
    · cases h
  · rename_i fn first caps
    unfold funcD at h
    split at h
    · rename_i f hf
      split at h
      · rename_i hl
        injection h with h1 h2; subst h1 h2
        obtain rfl : first = #[] := by
          rw [List.map_eq_nil_iff] at hf
          exact Array.toList_eq_nil_iff.1 hf
        refine ⟨.func (.func f) #[] (caps.map ρ), by simp only [Array.map_empty, Instr.makeFunc, Sem.run_bind, Sem.run_pure, Result.andThen_ok], .leaf ?_⟩
        have hsz : (caps.map ρ).size = (caps.toList.map ρD).length := by simp
        refine .clo f hsz fun j x d hx hd => ?_
        rw [Array.getElem?_map] at hx
        rw [List.getElem?_map, Array.getElem?_toList] at hd
        cases hq : caps[j]? with
        | none => rw [hq] at hx; cases hx
        | some y =>
          rw [hq] at hx hd
          simp only [Option.map_some, Option.some.injEq] at hx hd
          subst hx hd
          refine (hρ y).leaf' ?_
          have := List.all_eq_true.1 hl (ρD y) (List.mem_map_of_mem (List.mem_of_getElem? (i := j) (by rw [Array.getElem?_toList]; exact hq)))
          rw [← leafy_eq]; exact this
      · cases h
    · cases h
end
end Go.Proofs.YtdbaklnjemcfgaaGreatDoor.D
