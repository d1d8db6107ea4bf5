/- What an operation that only yields a value does in the model, one by one. Conditions: none. -/
import Derived.Test.YtofhmddgldlcdabGreatDSound
namespace Go.Proofs.YtofhmddgldlcdabGreat.D
open Go.RowKit Go.Proofs.YtofhmddgldlcdabGreat.Mem
set_option linter.unusedVariables false
set_option linter.unusedSimpArgs false

section
variable {P : Program} {G : Gh} {w : World}

theorem raw_rv (v : Value) (h : leafV v = true) : RV G v (.raw v) := .leaf (.imm (.raw v h))

theorem intD_sound {op : BinOp} {k k' : IntKind} {a b : Int} {c : Prop} {d : DV} {t : TypeId} (hk : k = k' ∨ op = .shl ∨ op = .shr) (h : intD op k a b = .val c d) (hc : c) :
    ∃ v, (binOp op t (.int k a) (.int k' b)).run P w = .ok v w ∧ RV G v d := by
  cases op <;> simp only [intD, Out.val.injEq] at h <;> obtain ⟨rfl, rfl⟩ := h <;> refine ⟨_, ?_, raw_rv _ rfl⟩
  all_goals
    first
      | (obtain rfl : k = k' := by rcases hk with h | h | h <;> first | exact h | cases h
         simp [binOp, Op.intArith, Op.intDiv, Op.intBits, Op.intCmp, hc]
         done)
      | (simp only [binOp, Op.shift]
         rw [if_neg (by omega)]
         rfl)

theorem strD_sound {op : BinOp} {x y : ByteArray} {c : Prop} {d : DV} {t : TypeId} (h : strD op x y = .val c d) (hc : c) :
    ∃ v, (binOp op t (.string x) (.string y)).run P w = .ok v w ∧ RV G v d := by
  have e1 : (x.toList == y.toList) = (bs x == bs y) := by rw [toList_bs, toList_bs]
  have e2 : Op.bytesLess x.toList y.toList = Op.bytesLess (bs x) (bs y) := by rw [toList_bs, toList_bs]
  cases op <;> simp only [strD, Out.val.injEq, reduceCtorEq] at h <;> obtain ⟨rfl, rfl⟩ := h <;> refine ⟨_, ?_, raw_rv _ rfl⟩
  case add =>
    have hs : ¬ (((x.size + y.size : Nat) : Int) > IntKind.i64.max) := by
      have h1 : (bs x).length = x.size := by simp [bs]
      have h2 : (bs y).length = y.size := by simp [bs]
      have : IntKind.i64.max = 9223372036854775807 := by decide
      rw [this]; omega
    simp only [binOp, Op.stringOp]
    rw [if_neg hs]
    simp only [Sem.run_pure, Result.ok.injEq, and_true]
    simp only [str, Value.string.injEq]
    apply bs_ext
    simp [bs]
  all_goals simp [binOp, Op.stringOp, e1, e2]

theorem guard_int (op : BinOp) (t : TypeId) (x y : Operand) (k k' : IntKind) (a b : Int) : (eqGuard op t x y (.int k a) (.int k' b)).run P w = .ok () w := by
  unfold eqGuard; split <;> rfl
theorem guard_str (op : BinOp) (t : TypeId) (x y : Operand) (a b : ByteArray) : (eqGuard op t x y (.string a) (.string b)).run P w = .ok () w := by
  unfold eqGuard; split <;> rfl
theorem guard_bool (op : BinOp) (t : TypeId) (x y : Operand) (a b : Bool) : (eqGuard op t x y (.bool a) (.bool b)).run P w = .ok () w := by
  unfold eqGuard; split <;> rfl

theorem equal_bool (t : TypeId) (a b : Bool) (h : P.underlying t = some .bool) : (Op.equal t (.bool a) (.bool b)).run P w = .ok (a == b) w := by
  have e : Op.maxDepth = 9999 + 1 := rfl
  unfold Op.equal
  rw [e]
  generalize 9999 = n
  simp only [Op.equalIn, Sem.run_bind, run_under h, Result.andThen_ok, Sem.run_pure]
theorem binOp_eql (t : TypeId) (a b : Bool) : binOp .eql t (.bool a) (.bool b) = (do pure (.bool (← Op.equal t (.bool a) (.bool b)))) := rfl
theorem binOp_neq (t : TypeId) (a b : Bool) : binOp .neq t (.bool a) (.bool b) = (do pure (.bool (!(← Op.equal t (.bool a) (.bool b))))) := rfl

theorem eqC_sound {t : TypeId} {x y : DV} {vx vy : Value} (hx : RV G vx x) (hy : RV G vy y) {b : Bool} (h : eqC P t x y = some b) (d : Nat) : (Op.equalIn (d + 1) t vx vy).run P w = .ok b w := by
  unfold eqC at h
  split at h
  · rw [hx.raw, hy.raw]
    split at h
    · rename_i hk
      subst hk
      split at h
      · rename_i hu
        injection h with h; subst h
        exact run_equalIn_int w d t _ _ _ _ hu
      · cases h
    · cases h
  · rw [hx.raw, hy.raw]
    split at h
    · rename_i hu
      injection h with h; subst h
      rw [run_equalIn_string w d t _ _ hu, toList_bs, toList_bs]
    · cases h
  · rw [hx.raw, hy.raw]
    split at h
    · rename_i hu
      injection h with h; subst h
      exact run_equalIn_bool' w d t _ _ hu
    · cases h
  · cases h
theorem eqFields_sound {xs ys : List DV} {cx cy : Array Value} (hx : RC G cx.toList xs) (hy : RC G cy.toList ys) (d : Nat) : ∀ (fs : List Field) (b : Bool), eqFieldsD P xs ys fs = some b → (Op.eqFields (d + 1) cx cy fs).run P w = .ok b w := by
  intro fs
  induction fs with
  | nil => intro b h; simp [eqFieldsD] at h; subst h; rfl
  | cons f fs ih =>
    intro b h
    unfold eqFieldsD at h
    split at h
    · rename_i x y bb h1 h2 h3
      have hlx : f.offset + 1 ≤ xs.length := (List.getElem?_eq_some_iff.1 h1).1
      have hly : f.offset + 1 ≤ ys.length := (List.getElem?_eq_some_iff.1 h2).1
      obtain ⟨vx, hvx, rx⟩ := part_sound (w := w) h3 cx xs hx f.offset hlx (fun _ => rfl)
      obtain ⟨vy, hvy, ry⟩ := part_sound (w := w) h3 cy ys hy f.offset hly (fun _ => rfl)
      have ex : mk false ((xs.drop f.offset).take 1) = x := by
        simp only [mk, Bool.false_eq_true, if_false, List.headD_eq_head?_getD, List.head?_take, List.head?_drop, h1]
        rfl
      have ey : mk false ((ys.drop f.offset).take 1) = y := by
        simp only [mk, Bool.false_eq_true, if_false, List.headD_eq_head?_getD, List.head?_take, List.head?_drop, h2]
        rfl
      rw [ex] at rx
      rw [ey] at ry
      unfold Op.eqFields
      split at h
      · rename_i hn
        rw [if_pos hn]
        split at h
        · rename_i c e h4 h5
          injection h with h
          subst h
          simp only [Sem.run_bind, hvx, hvy, Result.andThen_ok, eqC_sound rx ry h4 d, Sem.run_ite]
          cases c with
          | true => simp only [Bool.not_true, Bool.false_eq_true, if_false, Bool.true_and]; exact ih _ h5
          | false => simp only [Bool.not_false, if_true, Bool.false_and]; rfl
        · cases h
      · rename_i hn
        rw [if_neg hn]
        exact ih _ h
    · cases h

theorem binD_sound {op : BinOp} {t : TypeId} {x y : Operand} {vx vy : Value} {dx dy : DV} {c : Prop} {d : DV} (hx : RV G vx dx) (hy : RV G vy dy) (h : binD P op t dx dy = .val c d) (hc : c) :
    ∃ v, ((do eqGuard op t x y vx vy; binOp op t vx vy) : Sem Value).run P w = .ok v w ∧ RV G v d := by
  unfold binD at h
  split at h
  · rename_i k a k' b
    rw [hx.raw, hy.raw]
    split at h
    · rename_i hk
      obtain ⟨v, hv, hr⟩ := intD_sound (P := P) (G := G) (w := w) (t := t) hk h hc
      exact ⟨v, by simp only [Sem.run_bind, guard_int, Result.andThen_ok, hv], hr⟩
    · cases h
  · rename_i a b
    rw [hx.raw, hy.raw]
    obtain ⟨v, hv, hr⟩ := strD_sound (P := P) (G := G) (w := w) (t := t) h hc
    exact ⟨v, by simp only [Sem.run_bind, guard_str, Result.andThen_ok, hv], hr⟩
  · rename_i a b
    rw [hx.raw, hy.raw]
    split at h
    · injection h with h1 h2
      subst h1 h2
      refine ⟨_, ?_, raw_rv _ rfl⟩
      simp only [Sem.run_bind, guard_bool, Result.andThen_ok, binOp_eql, equal_bool t a b hc, Sem.run_pure]
    · injection h with h1 h2
      subst h1 h2
      refine ⟨_, ?_, raw_rv _ rfl⟩
      simp only [Sem.run_bind, guard_bool, Result.andThen_ok, binOp_neq, equal_bool t a b hc, Sem.run_pure, bne]
    · cases h
  · rename_i xs ys
    cases hx with
    | leaf hl => cases hl with
      | imm h => cases h
    | agg hx =>
    cases hy with
    | leaf hl => cases hl with
      | imm h => cases h
    | agg hy =>
    split at h
    · split at h
      · rename_i b hb
        injection h with h1 h2
        subst h1 h2
        refine ⟨_, ?_, raw_rv _ rfl⟩
        simp only [Sem.run_bind, run_eqGuard_agg w _ t x y _ _ hc.2.2, Result.andThen_ok, run_eql_struct, run_equalIn_struct w _ t _ _ hc.1 hc.2.1, eqFields_sound hx hy _ _ _ hb]
      · cases h
    · split at h
      · rename_i b hb
        injection h with h1 h2
        subst h1 h2
        refine ⟨_, ?_, raw_rv _ rfl⟩
        simp only [Sem.run_bind, run_eqGuard_agg w _ t x y _ _ hc.2.2, Result.andThen_ok, run_neq_struct, run_equalIn_struct w _ t _ _ hc.1 hc.2.1, eqFields_sound hx hy _ _ _ hb]
      · cases h
    · cases h
  · cases h

theorem unD_sound {op : UnOp} {vx : Value} {dx : DV} {c : Prop} {d : DV} (hx : RV G vx dx) (h : unD op dx = .val c d) (hc : c) :
    ∃ v, (Op.unary op vx).run P w = .ok v w ∧ RV G v d := by
  unfold unD at h
  split at h
  · injection h with h1 h2; subst h1 h2
    rw [hx.raw]
    exact ⟨_, by simp [Op.unary, Op.intArith], raw_rv _ rfl⟩
  · injection h with h1 h2; subst h1 h2
    rw [hx.raw]
    exact ⟨_, by simp [Op.unary], raw_rv _ rfl⟩
  · cases h

theorem convD_sound {s t : TypeId} {vx : Value} {dx : DV} {c : Prop} {d : DV} (hx : RV G vx dx) (h : convD P s t dx = .val c d) (hc : c) :
    ∃ v, (convert s t vx).run P w = .ok v w ∧ RV G v d := by
  unfold convD at h
  split at h
  · rename_i hs ht
    injection h with h1 h2; subst h1 h2
    rw [hx.raw]
    refine ⟨_, ?_, raw_rv _ rfl⟩
    simp [convert, run_under hs, run_under ht, Conv.intToInt]
  · rename_i hs ht
    injection h with h1 h2; subst h1 h2
    rw [hx.raw]
    exact ⟨_, by simp [convert, run_under hs, run_under ht], raw_rv _ rfl⟩
  · cases h

theorem lenD_sound {cl : Call} {ty : TypeId} {vx : Value} {dx : DV} {c : Prop} {d : DV} (hx : RV G vx dx) (h : lenD P cl dx = .val c d) (hc : c) :
    ∃ v, (Builtin.len_ cl.argTypes ty #[vx]).run P w = .ok v w ∧ RV G v d := by
  unfold lenD at h
  split at h
  · rename_i t ht
    have e : cl.argTypes = #[t] := by rw [← Array.toArray_toList (xs := cl.argTypes), ht]
    split at h
    · rename_i hu
      injection h with h1 h2; subst h1 h2
      rw [hx.raw]
      refine ⟨_, ?_, raw_rv _ rfl⟩
      simp [Builtin.len_, e, run_under hu, goInt, bs]
    · rename_i hu
      split at h
      · rename_i rows hr
        injection h with h1 h2; subst h1 h2
        obtain ⟨A, cc, rfl, _⟩ := (hx.rows hr).slice
        refine ⟨_, ?_, raw_rv _ rfl⟩
        simp [Builtin.len_, e, run_under hu, goInt]
      · cases h
    · rename_i hu
      injection h with h1 h2; subst h1 h2
      refine ⟨_, ?_, raw_rv _ rfl⟩
      simp [Builtin.len_, e, run_under hu, goInt]
    · cases h
    · cases h
  · cases h
end
end Go.Proofs.YtofhmddgldlcdabGreat.D
