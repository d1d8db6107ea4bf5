/- The row and the card of PathsOrder: which of any two rows of hops stands first, and any one's text. Conditions: none beyond the statement. -/
import Derived.Test.YtdbaklnjemcfgaaGreatDoorPOrd3
import Derived.Test.YtdbaklnjemcfgaaGreatDoorHTyped
import Derived.Test.YtdbaklnjemcfgaaGreatDoorLaid
import Derived.Test.YtdbaklnjemcfgaaGreatDoorCards
import Derived.Test.YtdbaklnjemcfgaaGreatDoorTie
import Derived.SevenTiedAt
import Derived.WalkKit
import Derived.ProofKit
import Derived.OpenShut
import Derived.ShutString
import Derived.ChangeOld
import Derived.Below
import Derived.SizedLaws
import Derived.Carry
import Derived.Lib.LaidTab
import Derived.Stop.LaidErr
import Derived.MakeChecks
namespace Go.Proofs.YtdbaklnjemcfgaaGreatDoor.pathsOrder
open Go.Proofs.YtdbaklnjemcfgaaGreatDoor.D Go.ChangeShapes Go.WideShapes Go.ChangeAt Go.RowKit
set_option linter.unusedVariables false
theorem own : ownKnob Tryz.prog.godebug = none := by kernel_rfl
theorem laidOut : laidOutB Tryz.prog = true := by kernel_rfl
noncomputable def laidWorld (os : Os) : World :=
  let w0 := World.holding Tryz.prog os ⟨#[], #[], []⟩
  { w0 with heap := Laid.lay 0 Rows.laid_internal_strconv_uint64pow10 (Laid.lay 2 Rows.laid_math_bits_deBruijn32tab (Laid.lay 3 Rows.laid_math_bits_deBruijn64tab w0.heap)) }
set_option maxRecDepth 100000 in
theorem laid_met (os : Os) (args : Array Value) : laidMetH Tryz.prog Rows.pathsOrderRow.laid ((laidWorld os).forCall (fun _ _ => 0) ⟨#[], args, []⟩).memory :=
  laidMetH_of_parts (laidMet_of_run' 8 (by kernel_rfl) (by kernel_rfl)) (by kernel_rfl)
set_option maxRecDepth 100000 in
theorem lifted (os : Os) (started : os.Started) (H : Type) (enc : TypeId × Value → H) :
    ReturnsInHanded {} Tryz.checked os 3 .any (fun w args => (Rows.pathsOrderSpec.pre enc Tryz.prog Tryz.f3 Rows.pathsOrderRow.domain false w args ∧ laidMetH Tryz.prog Rows.pathsOrderRow.laid w) ∧ sizedMet enc Tryz.prog Tryz.f3 (OpenSpec.ofChange Rows.pathsOrderSpec) false w args)
      (Rows.pathsOrderSpec.post enc Tryz.prog Tryz.f3 false true false false) := by
  refine returnsInHanded_of_change_and (C := Tryz.checked) (X := fun w _ => laidMetH Tryz.prog Rows.pathsOrderRow.laid w) (fun _ _ _ hh h => h.of_heap hh) own started (by kernel_rfl) Tryz.func3
    (ChangeSpec.witness_at (enc := enc) (C := Tryz.checked) (os := os) (X := fun w _ => laidMetH Tryz.prog Rows.pathsOrderRow.laid w) false (laidWorld os) #[.slice none 0 0, .slice none 0 0] 8 rfl (by kernel_rfl) (by kernel_rfl) (by kernel_rfl) (by kernel_rfl) (by kernel_rfl) (laid_met os _)) ?_
  intro W base args ds gs before hval0 hW _ hsz0 hL _
  have hval : ∀ (j : Nat) t v, Tryz.f3.params[j]? = some t → args[j]? = some v → Value.okWide Tryz.prog W .any base t v := hval0
  have hW' := hW
  obtain ⟨p, q, hA0, hV, rfl, hfz, hnd⟩ := hW
  have hA : DataW.TrodAll enc Tryz.prog W 0 (fun _ => true) true Tryz.f3.params.toList args.toList ds p := hA0
  rw [Tryz.params3] at hA hval
  obtain ⟨v0, vs0, d0, ds0, p0, q0, hargs, rfl, rfl, h0, r0⟩ := trodAll_cons hA
  obtain ⟨v1, vs1, d1, ds1, p1, q1, rfl, rfl, rfl, h1, r1⟩ := trodAll_cons r0
  obtain ⟨rfl, rfl, rfl⟩ := trodAll_nil r1
  obtain rfl : args = #[v0, v1] := by cases args; simp_all
  obtain ⟨rfl, rfl⟩ := trodVars_none hV
  obtain ⟨sa, sl, sc, rfl⟩ := okWide_slice Tryz.underlying22 (hval 0 22 v0 rfl rfl)
  obtain ⟨ta, tl, tc, rfl⟩ := okWide_slice Tryz.underlying22 (hval 1 22 v1 rfl rfl)
  have k0 := h0
  have lt0 : ∀ x ∈ p0, x.block < W.heap.size := by obtain ⟨m, hm⟩ := k0; exact DataW.trod_lt m _ _ _ hm
  have k1 := h1
  have lt1 : ∀ x ∈ p1, x.block < W.heap.size := by obtain ⟨m, hm⟩ := k1; exact DataW.trod_lt m _ _ _ hm
  obtain ⟨l, hl, hr⟩ := hops_arg rfl h0
  obtain ⟨l', hl', _⟩ := hops_arg rfl h1
  have hM : laidMet Tryz.prog Rows.pathsOrderRow.laid W := by
    rw [← Go.MakeChecks.laidMetH_plain _ _ _ (by kernel_rfl)]; exact hL
  have hT : Lib.TabIs Tryz.prog W "internal/strconv.uint64pow10" .u64 Lib.pow10Tab :=
    Lib.tabIs_of_head (g := 0) (by kernel_rfl) rfl Tryz.underlying183 Tryz.underlying58 (by kernel_rfl) (by kernel_rfl) hM.tail.tail
  have hB : BaseOk (cellsF W) W := by
    refine ⟨?_, hT.cell (g := 0) (by kernel_rfl) 0 (by decide)⟩
    unfold Lib.TabIs World.var? at hT
    rw [show Tryz.prog.globalNamed "internal/strconv.uint64pow10" = some 0 by kernel_rfl] at hT
    simp only [Option.bind_some] at hT
    split at hT
    · rename_i cs t fr hh
      injection hT with hT
      exact ⟨t, fr, by rw [hh, hT]; rfl⟩
    · cases hT
  clear hA0 hval0 hsz0
  refine (FnD.calls_raw (ord_fn l l' hr) W hB #[.slice sa sl sc, .slice ta tl tc] rfl ?_).mono fun e W' ⟨he, bel⟩ => ?_
  · intro j x d hx hd
    match j with
    | 0 =>
      obtain rfl : Value.slice sa sl sc = x := by simpa using hx
      obtain rfl : HS l = d := by simpa using hd
      exact hl
    | 1 =>
      obtain rfl : Value.slice ta tl tc = x := by simpa using hx
      obtain rfl : HS l' = d := by simpa using hd
      exact hl'
    | j + 2 => simp at hx
  subst he
  exact ⟨_, rfl, _, _, _, [], _, [], hW', trodAll_mk1 (shut_bool Tryz.underlying4 _), (trodAll_cons_mk (Below.trod laidOut (by kernel_rfl) (of_decide_eq_true (by kernel_rfl)) k0 bel lt0)
    (trodAll_cons_mk (Below.trod laidOut (by kernel_rfl) (of_decide_eq_true (by kernel_rfl)) k1 bel lt1) trodAll_mk0)), rfl, bel.frame _, fun h => by cases h⟩
theorem over : Rows.PathsOrderSaid :=
  OpenClaim.holds_of_wide 3 Tryz.f3 rfl rfl rfl rfl rfl rfl rfl ⟨rfl, rfl, rfl, rfl, rfl⟩ rfl rfl rfl rfl rfl (by kernel_rfl) Tryz.func3 (by kernel_rfl)
    (of_decide_eq_true (by kernel_rfl)) (by unfold Func.isWrapper; first | (rw [if_pos (by decide +kernel)]; kernel_rfl) | (rw [if_neg (by decide +kernel)]; exact ⟨rfl, rfl⟩))
    (fun os started H enc _ => lifted os started H enc)
end Go.Proofs.YtdbaklnjemcfgaaGreatDoor.pathsOrder
namespace Go.Proofs.YtdbaklnjemcfgaaGreatDoor
theorem pathsOrder_holds : Rows.PathsOrderCardSaid :=
  Claim7.holds_tied_plain_at .later [] Rows.pathsOrderCard.laidKinds true Rows.pathsOrderCard.stood.harness false
    pathsOrder.over (fun _ h => by cases h) (by kernel_rfl) (fun _ h => by cases h) pathsOrder_row_tie rfl ⟨rfl, rfl⟩ (by kernel_rfl) rfl
    (fun f fn hf hfn => by
      obtain rfl : f = 3 := Option.some.inj ((show Tryz.prog.funcNamed "bridleway/bridlewaylaw26.PathsOrder" = some 3 by kernel_rfl).symm.trans hf) |>.symm
      obtain rfl : fn = Tryz.f3 := (Option.some.inj (Tryz.func3.symm.trans hfn)).symm
      exact ⟨by kernel_rfl, fun j t ht => by
        rw [Tryz.params3] at ht
        have : t = 22 := by
          match j with
          | 0 => simp at ht; exact ht.symm
          | 1 => simp at ht; exact ht.symm
          | j + 2 => simp at ht
        subst this
        exact (show Tryz.prog.wantsStandIn 22 = false by kernel_rfl)⟩)
    (by kernel_rfl)
#print axioms pathsOrder_holds
end Go.Proofs.YtdbaklnjemcfgaaGreatDoor
