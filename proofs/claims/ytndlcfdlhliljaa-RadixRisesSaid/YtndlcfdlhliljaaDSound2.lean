/- What an operation that only yields a value does in the model, one by one. Conditions: none. -/
import Derived.Test.YtndlcfdlhliljaaDSound
namespace Go.Proofs.Ytndlcfdlhliljaa.D
open Go.RowKit Go.Proofs.Ytndlcfdlhliljaa.Mem
set_option linter.unusedVariables false
set_option linter.unusedSimpArgs false

section
variable {P : Program} {G : Gh} {w : World}

theorem raw_rv (v : Value) (h : leafV v = true) : RV G v (.raw v) := .leaf (.imm (.raw v h))

theorem intD_sound {op : BinOp} {k k' : IntKind} {a b : Int} {c : Prop} {d : DV} {t : TypeId} (hk : k = k' ∨ op = .shl ∨ op = .shr) (h : intD op k a b = .val c d) (hc : c) :
    ∃ v, (binOp op t (.int k a) (.int k' b)).run P w = .ok v w ∧ RV G v d := by
  cases op <;> simp only [intD, Out.val.injEq] at h <;> obtain ⟨rfl, rfl⟩ := h <;> refine ⟨_, ?_, raw_rv _ rfl⟩
  all_goals
    first
      | (obtain rfl : k = k' := by rcases hk with h | h | h <;> first | exact h | cases h
         simp [binOp, Op.intArith, Op.intDiv, Op.intBits, Op.intCmp, hc]
         done)
      | (simp only [binOp, Op.shift]
         rw [if_neg (by omega)]
         rfl)

theorem strD_sound {op : BinOp} {x y : ByteArray} {c : Prop} {d : DV} {t : TypeId} (h : strD op x y = .val c d) (hc : c) :
    ∃ v, (binOp op t (.string x) (.string y)).run P w = .ok v w ∧ RV G v d := by
  have e1 : (x.toList == y.toList) = (bs x == bs y) := by rw [toList_bs, toList_bs]
  have e2 : Op.bytesLess x.toList y.toList = Op.bytesLess (bs x) (bs y) := by rw [toList_bs, toList_bs]
  cases op <;> simp only [strD, Out.val.injEq, reduceCtorEq] at h <;> obtain ⟨rfl, rfl⟩ := h <;> refine ⟨_, ?_, raw_rv _ rfl⟩
  case add =>
    have hs : ¬ (((x.size + y.size : Nat) : Int) > IntKind.i64.max) := by
      have h1 : (bs x).length = x.size := by simp [bs]
      have h2 : (bs y).length = y.size := by simp [bs]
      have : IntKind.i64.max = 9223372036854775807 := by decide
      rw [this]; omega
    simp only [binOp, Op.stringOp]
    rw [if_neg hs]
    simp only [Sem.run_pure, Result.ok.injEq, and_true]
    simp only [str, Value.string.injEq]
    apply bs_ext
    simp [bs]
  all_goals simp [binOp, Op.stringOp, e1, e2]

theorem guard_int (op : BinOp) (t : TypeId) (x y : Operand) (k k' : IntKind) (a b : Int) : (eqGuard op t x y (.int k a) (.int k' b)).run P w = .ok () w := by
  unfold eqGuard; split <;> rfl
theorem guard_str (op : BinOp) (t : TypeId) (x y : Operand) (a b : ByteArray) : (eqGuard op t x y (.string a) (.string b)).run P w = .ok () w := by
  unfold eqGuard; split <;> rfl
theorem guard_bool (op : BinOp) (t : TypeId) (x y : Operand) (a b : Bool) : (eqGuard op t x y (.bool a) (.bool b)).run P w = .ok () w := by
  unfold eqGuard; split <;> rfl

theorem equal_bool (t : TypeId) (a b : Bool) (h : P.underlying t = some .bool) : (Op.equal t (.bool a) (.bool b)).run P w = .ok (a == b) w := by
  have e : Op.maxDepth = 9999 + 1 := rfl
  unfold Op.equal
  rw [e]
  generalize 9999 = n
  simp only [Op.equalIn, Sem.run_bind, run_under h, Result.andThen_ok, Sem.run_pure]
theorem binOp_eql (t : TypeId) (a b : Bool) : binOp .eql t (.bool a) (.bool b) = (do pure (.bool (← Op.equal t (.bool a) (.bool b)))) := rfl
theorem binOp_neq (t : TypeId) (a b : Bool) : binOp .neq t (.bool a) (.bool b) = (do pure (.bool (!(← Op.equal t (.bool a) (.bool b))))) := rfl

theorem binD_sound {op : BinOp} {t : TypeId} {x y : Operand} {vx vy : Value} {dx dy : DV} {c : Prop} {d : DV} (hx : RV G vx dx) (hy : RV G vy dy) (h : binD P op t dx dy = .val c d) (hc : c) :
    ∃ v, ((do eqGuard op t x y vx vy; binOp op t vx vy) : Sem Value).run P w = .ok v w ∧ RV G v d := by
  unfold binD at h
  split at h
  · rename_i k a k' b
    rw [hx.raw, hy.raw]
    split at h
    · rename_i hk
      obtain ⟨v, hv, hr⟩ := intD_sound (P := P) (G := G) (w := w) (t := t) hk h hc
      exact ⟨v, by simp only [Sem.run_bind, guard_int, Result.andThen_ok, hv], hr⟩
    · cases h
  · rename_i a b
    rw [hx.raw, hy.raw]
    obtain ⟨v, hv, hr⟩ := strD_sound (P := P) (G := G) (w := w) (t := t) h hc
    exact ⟨v, by simp only [Sem.run_bind, guard_str, Result.andThen_ok, hv], hr⟩
  · rename_i a b
    rw [hx.raw, hy.raw]
    split at h
    · injection h with h1 h2
      subst h1 h2
      refine ⟨_, ?_, raw_rv _ rfl⟩
      simp only [Sem.run_bind, guard_bool, Result.andThen_ok, binOp_eql, equal_bool t a b hc, Sem.run_pure]
    · injection h with h1 h2
      subst h1 h2
      refine ⟨_, ?_, raw_rv _ rfl⟩
      simp only [Sem.run_bind, guard_bool, Result.andThen_ok, binOp_neq, equal_bool t a b hc, Sem.run_pure, bne]
    · cases h
  · cases h

theorem unD_sound {op : UnOp} {vx : Value} {dx : DV} {c : Prop} {d : DV} (hx : RV G vx dx) (h : unD op dx = .val c d) (hc : c) :
    ∃ v, (Op.unary op vx).run P w = .ok v w ∧ RV G v d := by
  unfold unD at h
  split at h
  · injection h with h1 h2; subst h1 h2
    rw [hx.raw]
    exact ⟨_, by simp [Op.unary, Op.intArith], raw_rv _ rfl⟩
  · injection h with h1 h2; subst h1 h2
    rw [hx.raw]
    exact ⟨_, by simp [Op.unary], raw_rv _ rfl⟩
  · cases h

theorem convD_sound {s t : TypeId} {vx : Value} {dx : DV} {c : Prop} {d : DV} (hx : RV G vx dx) (h : convD P s t dx = .val c d) (hc : c) :
    ∃ v, (convert s t vx).run P w = .ok v w ∧ RV G v d := by
  unfold convD at h
  split at h
  · rename_i hs ht
    injection h with h1 h2; subst h1 h2
    rw [hx.raw]
    refine ⟨_, ?_, raw_rv _ rfl⟩
    simp [convert, run_under hs, run_under ht, Conv.intToInt]
  · rename_i hs ht
    injection h with h1 h2; subst h1 h2
    rw [hx.raw]
    exact ⟨_, by simp [convert, run_under hs, run_under ht], raw_rv _ rfl⟩
  · cases h

theorem lenD_sound {cl : Call} {ty : TypeId} {vx : Value} {dx : DV} {c : Prop} {d : DV} (hx : RV G vx dx) (h : lenD P cl dx = .val c d) (hc : c) :
    ∃ v, (Builtin.len_ cl.argTypes ty #[vx]).run P w = .ok v w ∧ RV G v d := by
  unfold lenD at h
  split at h
  · rename_i t ht
    have e : cl.argTypes = #[t] := by rw [← Array.toArray_toList (xs := cl.argTypes), ht]
    split at h
    · rename_i hu
      injection h with h1 h2; subst h1 h2
      rw [hx.raw]
      refine ⟨_, ?_, raw_rv _ rfl⟩
      simp [Builtin.len_, e, run_under hu, goInt, bs]
    · rename_i hu
      split at h
      · rename_i rows hr
        injection h with h1 h2; subst h1 h2
        obtain ⟨A, cc, rfl, _⟩ := (hx.rows hr).slice
        refine ⟨_, ?_, raw_rv _ rfl⟩
        simp [Builtin.len_, e, run_under hu, goInt]
      · cases h
    · rename_i hu
      injection h with h1 h2; subst h1 h2
      refine ⟨_, ?_, raw_rv _ rfl⟩
      simp [Builtin.len_, e, run_under hu, goInt]
    · cases h
  · cases h
end
end Go.Proofs.Ytndlcfdlhliljaa.D
