/- A law that the machine answers true: the call answers true, and all that was stands. Conditions: none. -/
import Derived.Test.YtdbaklnjemcfgaaGreatDoorERunT
namespace Go.Proofs.YtdbaklnjemcfgaaGreatDoor.E
open Go.RowKit Go.Proofs.YtdbaklnjemcfgaaGreatDoor.Mem Go.Proofs.YtdbaklnjemcfgaaGreatDoor.D
set_option linter.unusedVariables false

/-- The machine's answer is 'true'. -/
def yes : Rz (EV × Tr EO × Nat) → Bool
  | .ok (.im (.raw (.bool true)), _, _) => true
  | _ => false
theorem yes_ok {r : Rz (EV × Tr EO × Nat)} (h : yes r = true) : ∃ h' n', r = .ok (er (.bool true), h', n') := by
  unfold yes at h
  split at h
  · exact ⟨_, _, rfl⟩
  · cases h
section
variable {P : Program}
theorem absH_nil : absH .nil = fun _ => none := by funext k; rfl
theorem we_start (F : Facts) (w : World) (hF : F.ok w) (hB : BaseOk F w) : WE (fun _ => False) w (fun _ => True) ⟨F, fun _ => none⟩ (absH .nil) w := by
  rw [absH_nil]
  exact ⟨Chg.refl _ _, hF, fun k o h => by simp at h, fun k o p h => by simp at h, fun k k' o o' p p' h => by simp at h, fun k _ => rfl, hB⟩
/-- Over the facts of the world. -/
theorem calls_of_run {lib : LibF} (hm : P.follows .mixedOrders = true) (hlib : LibOk P lib) {f : FuncId} {args : List EV} {fuel : Nat} (h : yes (evCall P lib fuel f args .nil 0) = true) (F : Facts) (w : World) (hF : F.ok w) (hB : BaseOk F w) (vs : Array Value) (hs : vs.size = args.length)
    (hv : ∀ (j : Nat) x y, vs[j]? = some x → args[j]? = some y → VV ⟨F, fun _ => none⟩ x y) :
    Calls P f vs w fun e w' => e = .returned (.bool true) ∧ Below w.heap.size w w' := by
  obtain ⟨h', n', he⟩ := yes_ok h
  obtain ⟨⟨_, _, hc⟩, _⟩ := evCall_sound hm hlib fuel f args .nil 0 _ h' n' he
  refine (hc (fun _ => False) w (fun _ => True) _ w vs (we_start F w hF hB) (fun _ _ => trivial) hs hv).mono ?_
  rintro e w' ⟨v, G', rfl, _, hvv, hW⟩
  refine ⟨?_, hW.chg.below (fun b hb => hb.elim)⟩
  rw [hvv.raw]
end
end Go.Proofs.YtdbaklnjemcfgaaGreatDoor.E
