/- Library calls for the machine: helpers. Conditions: none. -/
import Derived.Test.YtdbaklnjemcfgaaGreatDoorERunT
namespace Go.Proofs.YtdbaklnjemcfgaaGreatDoor.E
open Go.RowKit Go.Proofs.YtdbaklnjemcfgaaGreatDoor.Mem Go.Proofs.YtdbaklnjemcfgaaGreatDoor.D
set_option linter.unusedVariables false
set_option linter.unusedSimpArgs false
section
variable {P : Program} {G : Gg} {w w' w0 : World} {T R : Nat → Prop} {h : Hp}
theorem WE.old (hW : WE T w0 R G h w) (hb : Below w.heap.size w w') : WE T w0 R G h w' where
  chg := hW.chg.then_below hb
  facts := fun b o x hx => by
    have h := hW.facts b o x hx
    have hlt : (⟨b, o, none⟩ : Addr).block < w.heap.size := World.block_lt_of_cell? w _ h
    exact (hb.cell hlt).trans h
  obj := fun k o hk => by
    obtain ⟨p, hp, hT, ho⟩ := hW.obj k o hk
    exact ⟨p, hp, hT, ho.mono (Gg.le_refl (fun _ => False) G) (hb.block _ ho.lt)⟩
  noF := hW.noF
  apart := hW.apart
  fresh := hW.fresh
  base := hW.base.keep (Facts.sub_refl _) (fun b hlt _ => hb.block b hlt)
/-- A call that leaves memory as it is. -/
theorem callE_pure {f : FuncId} {args : List EV} {d : EV} {n : Nat} (hf : ∃ fn, P.funcs[f]? = some fn ∧ (fn.name == "runtime.NumGoroutine") = false ∧ fn.body.isNone = false)
    (hc : ∀ T w0 R (G : Gg) (w : World) (vs : Array Value), WE T w0 R G h w → vs.size = args.length → (∀ (j : Nat) x y, vs[j]? = some x → args[j]? = some y → VV G x y) → Calls P f vs w fun e w' => ∃ v, e = .returned v ∧ VV G v d ∧ Below w.heap.size w w') :
    CallE P f args h n d h n := by
  refine ⟨Nat.le_refl _, hf, fun T w0 R G w vs hW hR hn hv => (hc T w0 R G w vs hW hn hv).mono ?_⟩
  rintro e w' ⟨v, rfl, hvv, hb⟩
  exact ⟨v, G, rfl, Gg.le_refl _ _, hvv, (hW.old hb).sub (fun _ _ h => h) (fun k hk => hk.1)⟩
theorem two {vs : Array Value} {a b : EV} (hn : vs.size = [a, b].length) (hv : ∀ (j : Nat) x y, vs[j]? = some x → [a, b][j]? = some y → VV G x y) : ∃ x y, vs = #[x, y] ∧ VV G x a ∧ VV G y b := by
  match vs, hn with
  | ⟨[x, y]⟩, _ => exact ⟨x, y, rfl, hv 0 _ _ rfl rfl, hv 1 _ _ rfl rfl⟩
theorem one1 {vs : Array Value} {a : EV} (hn : vs.size = [a].length) (hv : ∀ (j : Nat) x y, vs[j]? = some x → [a][j]? = some y → VV G x y) : ∃ x, vs = #[x] ∧ VV G x a := by
  match vs, hn with
  | ⟨[x]⟩, _ => exact ⟨x, rfl, hv 0 _ _ rfl rfl⟩
end
section
variable {G : Gg} {w w' w0 : World} {T R : Nat → Prop} {h : Hp}
theorem dom_self (h : Tr EO) (n : Nat) : Dom h h n n := fun i hi _ => hi
end
section
variable {P : Program}
/-- One library, or else another. -/
def orL (a b : LibF) : LibF := fun f args h n => match a f args h n with
  | some r => some r
  | none => b f args h n
theorem libOk_or {a b : LibF} (ha : LibOk P a) (hb : LibOk P b) : LibOk P (orL a b) := by
  intro f args h n d h' n' he
  unfold orL at he
  split at he
  · rename_i r hr
    injection he with he
    subst he
    exact ha f args h n d h' n' hr
  · exact hb f args h n d h' n' he
end
end Go.Proofs.YtdbaklnjemcfgaaGreatDoor.E
