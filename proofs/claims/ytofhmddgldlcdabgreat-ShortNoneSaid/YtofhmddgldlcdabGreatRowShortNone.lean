/- The row of ShortNone: what is told of no walks, in the fewest steps. Conditions: none beyond the statement. -/
import Derived.Test.YtofhmddgldlcdabGreatRows
import Derived.Test.YtofhmddgldlcdabGreatELaw
import Derived.Test.YtofhmddgldlcdabGreatEOrd
import Derived.WalkKit
import Derived.ProofKit
import Derived.OpenShut
import Derived.ShutString
import Derived.ChangeOld
import Derived.Below
import Derived.SizedLaws
import Derived.Carry
import Derived.ChangeSame
namespace Go.Proofs.YtofhmddgldlcdabGreat.shortNone
open Go.Proofs.YtofhmddgldlcdabGreat.D Go.Proofs.YtofhmddgldlcdabGreat.E Go.ChangeShapes Go.WideShapes Go.ChangeAt Go.RowKit
set_option linter.unusedVariables false
theorem own : ownKnob Tryz.prog.godebug = none := by kernel_rfl
theorem laidOut : laidOutB Tryz.prog = true := by kernel_rfl
/-- Whatever spot it is. -/
theorem run (a b c : Int) : yes (evCall Tryz.prog libO 100 3 [.agg [er (.int .i64 a), er (.int .i64 b), er (.int .i64 c)]] .nil 0) = true := by kernel_rfl
set_option maxRecDepth 100000 in
theorem lifted (os : Os) (started : os.Started) (H : Type) (enc : TypeId × Value → H) :
    ReturnsInHanded {} Tryz.checked os 3 .any (Rows.shortNoneSpec.pre6 enc Tryz.prog Tryz.f3 Rows.shortNoneRow.domain false) (Rows.shortNoneSpec.post enc Tryz.prog Tryz.f3 false true false false) := by
  refine returnsInHanded_of_change_sized (C := Tryz.checked) own started (by kernel_rfl) Tryz.func3
    (ChangeSpec.witness6 (enc := enc) (C := Tryz.checked) false ⟨#[], #[.agg #[.int .i64 0, .int .i64 0, .int .i64 0]], []⟩ 8 (by kernel_rfl) (by kernel_rfl) (by kernel_rfl) (by kernel_rfl)) ?_
  intro W base args ds gs before hval0 hW hcnd hsz0 _
  have hval : ∀ (j : Nat) t v, Tryz.f3.params[j]? = some t → args[j]? = some v → Value.okWide Tryz.prog W .any base t v := hval0
  have hW' := hW
  obtain ⟨p, q, hA0, hV, rfl, hfz, hnd⟩ := hW
  have hA : DataW.TrodAll enc Tryz.prog W 0 (fun _ => true) true Tryz.f3.params.toList args.toList ds p := hA0
  rw [Tryz.params3] at hA hval
  obtain ⟨v0, vs0, d0, ds0, p0, q0, hargs, rfl, rfl, h0, r0⟩ := trodAll_cons hA
  obtain ⟨rfl, rfl, rfl⟩ := trodAll_nil r0
  obtain rfl : args = #[v0] := by cases args; simp_all
  obtain ⟨rfl, rfl⟩ := trodVars_none hV
  obtain ⟨cs, rfl, hsz⟩ := okWide_struct Tryz.underlying23 (hval 0 23 v0 rfl rfl)
  have k0 := h0
  have lt0 : ∀ x ∈ p0, x.block < W.heap.size := by obtain ⟨m, hm⟩ := k0; exact DataW.trod_lt m _ _ _ hm
  obtain ⟨a, b, c, hcs⟩ : ∃ a b c, cs = #[.int .i64 a, .int .i64 b, .int .i64 c] := by
    obtain ⟨m, hm⟩ := h0
    obtain ⟨xs, n, rfl, hx, hl, hlen, hf⟩ := DataW.trod_struct Tryz.underlying23 hm
    have h3 : cs.toList.length = 3 := Eq.trans hl (by kernel_rfl)
    have g : ∀ (i : Nat) (f : Field), _ = some f → f.offset = i → f.type = 3 → i < 3 → ∃ n, cs.toList[i]? = some (.int .i64 n) := fun i f hi ho ht hlt => by
      have q0 := hf i f hi
      have q : DataW.trod enc Tryz.prog W 0 (fun _ => true) true n f.type ((cs.toList.drop f.offset).take (Tryz.prog.cellsOf f.type)) = xs[i]? := q0
      have hx : xs[i]? = some (xs[i]'(by rw [hlen]; exact hlt)) := List.getElem?_eq_getElem _
      rw [hx, ho, ht] at q
      obtain ⟨n, e, _⟩ := DataW.trod_int Tryz.underlying3 q
      refine ⟨n, ?_⟩
      have e1 : Tryz.prog.cellsOf 3 = 1 := by kernel_rfl
      rw [e1] at e
      have := congrArg (·[0]?) e
      simpa [List.getElem?_take, List.getElem?_drop] using this
    obtain ⟨a, ha⟩ := g 0 _ rfl rfl rfl (by decide)
    obtain ⟨b, hb⟩ := g 1 _ rfl rfl rfl (by decide)
    obtain ⟨c, hc⟩ := g 2 _ rfl rfl rfl (by decide)
    refine ⟨a, b, c, ?_⟩
    apply Array.toList_inj.1
    apply List.ext_getElem?
    intro i
    match i with
    | 0 => exact ha
    | 1 => exact hb
    | 2 => exact hc
    | i + 3 => rw [List.getElem?_eq_none (by omega)]; rfl
  subst hcs
  clear hA0 hval0 hsz0
  refine (calls_of_run (P := Tryz.prog) (by kernel_rfl) libO_ok (run a b c) (fun _ _ _ => False) W (fun _ _ _ h => h.elim) #[.agg #[.int .i64 a, .int .i64 b, .int .i64 c]] rfl ?_).mono fun e W' ⟨he, bel⟩ => ?_
  · intro j x d hx hd
    match j with
    | 0 =>
      obtain rfl : Value.agg #[.int .i64 a, .int .i64 b, .int .i64 c] = x := by simpa using hx
      obtain rfl : EV.agg [er (.int .i64 a), er (.int .i64 b), er (.int .i64 c)] = d := by simpa using hd
      exact VV.agg (VC.cons (VL.im (RI.raw _ rfl)) (VC.cons (VL.im (RI.raw _ rfl)) (VC.one (VL.im (RI.raw _ rfl)))))
    | j + 1 => simp at hx
  subst he
  exact ⟨_, rfl, _, _, _, [], _, [], hW', trodAll_mk1 (shut_bool Tryz.underlying4 _),
    (trodAll_cons_mk (Below.trod laidOut (by kernel_rfl) (of_decide_eq_true (by kernel_rfl)) k0 bel lt0) trodAll_mk0), rfl, bel.frame _, fun h => by cases h⟩
theorem over : Rows.shortNoneRow.holds Tryz.pinned (OpenSpec.ofChange Rows.shortNoneSpec) :=
  OpenClaim.holds_of_wide 3 Tryz.f3 rfl rfl rfl rfl rfl rfl rfl ⟨rfl, rfl, rfl, rfl, rfl⟩ rfl rfl rfl rfl rfl (by kernel_rfl) Tryz.func3 (by kernel_rfl)
    (of_decide_eq_true (by kernel_rfl)) (by unfold Func.isWrapper; first | (rw [if_pos (by decide +kernel)]; kernel_rfl) | (rw [if_neg (by decide +kernel)]; exact ⟨rfl, rfl⟩))
    (fun os started H enc _ => lifted os started H enc)
theorem proved : Rows.ShortNoneSaid := over
#print axioms proved
end Go.Proofs.YtofhmddgldlcdabGreat.shortNone
namespace Go.Proofs.YtofhmddgldlcdabGreat
/-- The row, under a short name, for the claim. -/
theorem shortNone_holds : Rows.ShortNoneSaid := shortNone.proved
end Go.Proofs.YtofhmddgldlcdabGreat
