/- The row and the card of PathsNone: what is told of no rows. Conditions: none beyond the statement. -/
import Derived.Test.YtfmhfpbdhfdopaaGreatDoorPNone
import Derived.Test.YtfmhfpbdhfdopaaGreatDoorDTyped
import Derived.Test.YtfmhfpbdhfdopaaGreatDoorLaid
import Derived.Test.YtfmhfpbdhfdopaaGreatDoorCards
import Derived.Test.YtfmhfpbdhfdopaaGreatDoorTie
import Derived.SevenTiedAt
import Derived.WalkKit
import Derived.ProofKit
import Derived.OpenShut
import Derived.ShutString
import Derived.ChangeOld
import Derived.Below
import Derived.SizedLaws
import Derived.Carry
namespace Go.Proofs.YtfmhfpbdhfdopaaGreatDoor.D
open Go.RowKit Go.Proofs.YtfmhfpbdhfdopaaGreatDoor.Mem
def tyS : List TypeId := [23, 48, 3, 4]
theorem tyS_ok : ∀ t ∈ tyS, okT Tryz.prog tyS t = true := List.all_eq_true.1 (by kernel_rfl)
theorem maps_ex {α : Type} (f : α → List DV) : ∀ rows : List (List DV), (∀ r ∈ rows, ∃ x, r = f x) → ∃ l : List α, rows = l.map f := by
  intro rows
  induction rows with
  | nil => intro _; exact ⟨[], rfl⟩
  | cons r rows ih =>
    intro h
    obtain ⟨x, rfl⟩ := h r (by simp)
    obtain ⟨l, rfl⟩ := ih (fun q hq => h q (List.mem_cons_of_mem _ hq))
    exact ⟨x :: l, rfl⟩
theorem c_int : Tryz.prog.cellsOf 3 = 1 := by kernel_rfl
theorem c_bool : Tryz.prog.cellsOf 4 = 1 := by kernel_rfl
theorem c_hop : Tryz.prog.cellsOf 48 = 2 := by kernel_rfl
theorem c_hops : Tryz.prog.cellsOf 23 = 1 := by kernel_rfl
theorem ht_int {n : Nat} {ds : List DV} (h : HT Tryz.prog n 3 ds) : ∃ x, ds = [iv .i64 x] := by
  cases n with
  | zero => exact h.elim
  | succ n =>
    simp only [HT, Tryz.underlying3] at h
    obtain ⟨x, rfl, _⟩ := h
    exact ⟨x, rfl⟩
theorem ht_bool {n : Nat} {ds : List DV} (h : HT Tryz.prog n 4 ds) : ∃ x, ds = [bv x] := by
  cases n with
  | zero => exact h.elim
  | succ n =>
    simp only [HT, Tryz.underlying4] at h
    obtain ⟨x, rfl⟩ := h
    exact ⟨x, rfl⟩
set_option maxRecDepth 100000 in
theorem ht_hop {n : Nat} {ds : List DV} (h : HT Tryz.prog n 48 ds) : ∃ p : Hop, ds = rowH p := by
  cases n with
  | zero => exact h.elim
  | succ n =>
    simp only [HT, Tryz.underlying48, List.forall_mem_cons, c_hop, c_int, c_bool] at h
    obtain ⟨hl, h0, h1, _⟩ := h
    match ds, hl with
    | [a, b], _ =>
      obtain ⟨x, hx⟩ := ht_int h0
      obtain ⟨y, hy⟩ := ht_bool h1
      simp at hx hy
      exact ⟨⟨x, y⟩, by rw [hx, hy]; rfl⟩
theorem hops_arg {H : Type} {enc : TypeId × Value → H} {W : World} {v : Value} {d : DataW H} {ps : List MemPlace} (hl : leafV v = true) (h : DataW.Trod enc Tryz.prog W 0 (fun _ => true) true 23 v d ps) : ∃ l : List Hop, RP (cellsF W) v (HS l) := by
  obtain ⟨m, hm⟩ := h
  obtain ⟨ds, h1, h2, h3⟩ := typed tyS tyS_ok m _ _ _ (by decide) hm
  rw [cells_leaf hl] at h1
  have h1' : ds.length = 1 := h1.1.symm
  match ds, h1' with
  | [d], _ =>
    have hri := h1.2 0 v d rfl rfl
    cases m with
    | zero => exact h3.elim
    | succ n =>
      simp only [HT, Tryz.underlying23] at h3
      obtain ⟨rows, hr, _, hrow⟩ := h3
      simp at hr
      subst hr
      obtain ⟨l, rfl⟩ := maps_ex rowH rows (fun r hr => ht_hop (hrow r hr))
      exact ⟨l, .leaf hri⟩
end Go.Proofs.YtfmhfpbdhfdopaaGreatDoor.D
namespace Go.Proofs.YtfmhfpbdhfdopaaGreatDoor.pathsNone
open Go.Proofs.YtfmhfpbdhfdopaaGreatDoor.D Go.ChangeShapes Go.WideShapes Go.ChangeAt Go.RowKit
set_option linter.unusedVariables false
theorem own : ownKnob Tryz.prog.godebug = none := by kernel_rfl
theorem laidOut : laidOutB Tryz.prog = true := by kernel_rfl
noncomputable def laidWorld (os : Os) : World :=
  let w0 := World.holding Tryz.prog os ⟨#[], #[], []⟩
  { w0 with heap := Laid.lay 0 Rows.laid_internal_strconv_uint64pow10 (Laid.lay 2 Rows.laid_math_bits_deBruijn32tab (Laid.lay 3 Rows.laid_math_bits_deBruijn64tab w0.heap)) }
set_option maxRecDepth 100000 in
theorem laid_met (os : Os) (args : Array Value) : laidMetH Tryz.prog Rows.pathsNoneRow.laid ((laidWorld os).forCall (fun _ _ => 0) ⟨#[], args, []⟩).memory :=
  laidMetH_of_parts (laidMet_of_run' 8 (by kernel_rfl) (by kernel_rfl)) (by kernel_rfl)
set_option maxRecDepth 100000 in
theorem lifted (os : Os) (started : os.Started) (H : Type) (enc : TypeId × Value → H) :
    ReturnsInHanded {} Tryz.checked os 3 .any (fun w args => (Rows.pathsNoneSpec.pre enc Tryz.prog Tryz.f3 Rows.pathsNoneRow.domain false w args ∧ laidMetH Tryz.prog Rows.pathsNoneRow.laid w) ∧ sizedMet enc Tryz.prog Tryz.f3 (OpenSpec.ofChange Rows.pathsNoneSpec) false w args)
      (Rows.pathsNoneSpec.post enc Tryz.prog Tryz.f3 false true false false) := by
  refine returnsInHanded_of_change_and (C := Tryz.checked) (X := fun w _ => laidMetH Tryz.prog Rows.pathsNoneRow.laid w) (fun _ _ _ hh h => h.of_heap hh) own started (by kernel_rfl) Tryz.func3
    (ChangeSpec.witness_at (enc := enc) (C := Tryz.checked) (os := os) (X := fun w _ => laidMetH Tryz.prog Rows.pathsNoneRow.laid w) false (laidWorld os) #[.int .i64 0, .int .u64 0, .slice none 0 0] 8 rfl (by kernel_rfl) (by kernel_rfl) (by kernel_rfl) (by kernel_rfl) (by kernel_rfl) (laid_met os _)) ?_
  intro W base args ds gs before hval0 hW _ hsz0 hL _
  have hval : ∀ (j : Nat) t v, Tryz.f3.params[j]? = some t → args[j]? = some v → Value.okWide Tryz.prog W .any base t v := hval0
  have hW' := hW
  obtain ⟨p, q, hA0, hV, rfl, hfz, hnd⟩ := hW
  have hA : DataW.TrodAll enc Tryz.prog W 0 (fun _ => true) true Tryz.f3.params.toList args.toList ds p := hA0
  rw [Tryz.params3] at hA hval
  obtain ⟨v0, vs0, d0, ds0, p0, q0, hargs, rfl, rfl, h0, r0⟩ := trodAll_cons hA
  obtain ⟨v1, vs1, d1, ds1, p1, q1, rfl, rfl, rfl, h1, r1⟩ := trodAll_cons r0
  obtain ⟨v2, vs2, d2, ds2, p2, q2, rfl, rfl, rfl, h2, r2⟩ := trodAll_cons r1
  obtain ⟨rfl, rfl, rfl⟩ := trodAll_nil r2
  obtain rfl : args = #[v0, v1, v2] := by cases args; simp_all
  obtain ⟨rfl, rfl⟩ := trodVars_none hV
  obtain ⟨a0, rfl, rfl, rfl, w0⟩ := open_int Tryz.underlying3 (hval 0 3 v0 rfl rfl) h0
  obtain ⟨a1, rfl, rfl, rfl, w1⟩ := open_int Tryz.underlying22 (hval 1 22 v1 rfl rfl) h1
  obtain ⟨sa, sl, sc, rfl⟩ := okWide_slice Tryz.underlying23 (hval 2 23 v2 rfl rfl)
  have k2 := h2
  have lt2 : ∀ x ∈ p2, x.block < W.heap.size := by obtain ⟨m, hm⟩ := k2; exact DataW.trod_lt m _ _ _ hm
  obtain ⟨l, hl⟩ := hops_arg rfl h2
  have w1' : 0 ≤ a1 := by
    simp only [Lit.wf, IntKind.min, IntKind.max, Bool.and_eq_true] at w1
    exact of_decide_eq_true w1.1
  obtain ⟨b, rfl⟩ := Int.eq_ofNat_of_zero_le w1'
  clear hA0 hval0 hsz0
  refine (FnD.calls_raw (none_fn a0 b l) W trivial #[.int .i64 a0, .int .u64 b, .slice sa sl sc] rfl ?_).mono fun e W' ⟨he, bel⟩ => ?_
  · intro j x d hx hd
    match j with
    | 0 =>
      obtain rfl : Value.int .i64 a0 = x := by simpa using hx
      obtain rfl : iv .i64 a0 = d := by simpa using hd
      exact raw_rp _ _ rfl
    | 1 =>
      obtain rfl : Value.int .u64 b = x := by simpa using hx
      obtain rfl : iv .u64 b = d := by simpa using hd
      exact raw_rp _ _ rfl
    | 2 =>
      obtain rfl : Value.slice sa sl sc = x := by simpa using hx
      obtain rfl : HS l = d := by simpa using hd
      exact hl
    | j + 3 => simp at hx
  subst he
  exact ⟨_, rfl, _, _, _, [], _, [], hW', trodAll_mk1 (shut_bool Tryz.underlying4 _), (trodAll_cons_mk (shut_int Tryz.underlying3 w0) (trodAll_cons_mk (shut_int Tryz.underlying22 w1)
    (trodAll_cons_mk (Below.trod laidOut (by kernel_rfl) (of_decide_eq_true (by kernel_rfl)) k2 bel lt2) trodAll_mk0))), rfl, bel.frame _, fun h => by cases h⟩
theorem over : Rows.PathsNoneSaid :=
  OpenClaim.holds_of_wide 3 Tryz.f3 rfl rfl rfl rfl rfl rfl rfl ⟨rfl, rfl, rfl, rfl, rfl⟩ rfl rfl rfl rfl rfl (by kernel_rfl) Tryz.func3 (by kernel_rfl)
    (of_decide_eq_true (by kernel_rfl)) (by unfold Func.isWrapper; first | (rw [if_pos (by decide +kernel)]; kernel_rfl) | (rw [if_neg (by decide +kernel)]; exact ⟨rfl, rfl⟩))
    (fun os started H enc _ => lifted os started H enc)
end Go.Proofs.YtfmhfpbdhfdopaaGreatDoor.pathsNone
namespace Go.Proofs.YtfmhfpbdhfdopaaGreatDoor
theorem pathsNone_holds : Rows.PathsNoneCardSaid :=
  Claim7.holds_tied_plain_at .later [] Rows.pathsNoneCard.laidKinds true Rows.pathsNoneCard.stood.harness false
    pathsNone.over (fun _ h => by cases h) (by kernel_rfl) (fun _ h => by cases h) pathsNone_row_tie rfl ⟨rfl, rfl⟩ (by kernel_rfl) rfl
    (fun f fn hf hfn => by
      obtain rfl : f = 3 := Option.some.inj ((show Tryz.prog.funcNamed "bridleway/bridlewaylaw26.PathsNone" = some 3 by kernel_rfl).symm.trans hf) |>.symm
      obtain rfl : fn = Tryz.f3 := (Option.some.inj (Tryz.func3.symm.trans hfn)).symm
      exact ⟨by kernel_rfl, fun j t ht => by
        rw [Tryz.params3] at ht
        have : t = 3 ∨ t = 22 ∨ t = 23 := by
          match j with
          | 0 => simp at ht; exact .inl ht.symm
          | 1 => simp at ht; exact .inr (.inl ht.symm)
          | 2 => simp at ht; exact .inr (.inr ht.symm)
          | j + 3 => simp at ht
        rcases this with rfl | rfl | rfl
        · exact (show Tryz.prog.wantsStandIn 3 = false by kernel_rfl)
        · exact (show Tryz.prog.wantsStandIn 22 = false by kernel_rfl)
        · exact (show Tryz.prog.wantsStandIn 23 = false by kernel_rfl)⟩)
    (by kernel_rfl)
#print axioms pathsNone_holds
end Go.Proofs.YtfmhfpbdhfdopaaGreatDoor
