/- From contracts on plain data to calls in a world, and back. Conditions: none. -/
import Derived.Test.YtdbaklnjemcfgaaGreatDoorDTac
import Derived.Test.YtdbaklnjemcfgaaGreatDoorArgs
namespace Go.Proofs.YtdbaklnjemcfgaaGreatDoor.D
open Go.RowKit Go.Proofs.YtdbaklnjemcfgaaGreatDoor.Mem Go.Proofs.YtdbaklnjemcfgaaGreatDoor.Sl
set_option linter.unusedVariables false
set_option linter.unusedSimpArgs false

/-- All cells of a world. -/
def cellsF (w : World) : Facts := fun b o x => w.cell? ⟨b, o, none⟩ = some x
theorem cellsF_ok (w : World) : (cellsF w).ok w := fun _ _ _ h => h
theorem rd_rp {w : World} {v : Value} {k : IntKind} {xs : List Int} (h : Rd (ei k) 1 w v xs) : RP (cellsF w) v (.sl (sl1 (iv k) xs)) := by
  obtain ⟨A, c, rfl, hc, hm, hp⟩ := h
  refine .leaf ?_
  by_cases h0 : xs = []
  · subst h0; exact .sl0 _ _
  · obtain ⟨b, off, rfl, hb, hcell⟩ := hp (List.length_pos_iff.2 h0)
    have hl : (sl1 (iv k) xs).length = xs.length := by simp [sl1]
    rw [← hl]
    refine .sl b off c 1 (sl1 (iv k) xs) (fun i j => .int k (xs.getD i 0)) (by intro e; exact h0 (by simpa [sl1] using e)) (by rw [hl]; omega) (by rw [hl]; exact hc) (by simp [sl1]) (fun i r hi j d hj => ?_) (fun i r hi j d hj => ?_)
    · simp only [sl1, List.getElem?_map] at hi
      cases hx : xs[i]? with
      | none => rw [hx] at hi; cases hi
      | some x =>
        rw [hx] at hi
        obtain rfl : [iv k x] = r := by simpa using hi
        cases j with
        | zero =>
          have := hcell i x hx 0 (.int k x) (by simp [ei])
          have e : xs.getD i 0 = x := by rw [List.getD_eq_getElem?_getD, hx]; rfl
          show w.cell? _ = some _
          rw [e]; exact this
        | succ j => simp at hj
    · simp only [sl1, List.getElem?_map] at hi
      cases hx : xs[i]? with
      | none => rw [hx] at hi; cases hi
      | some x =>
        rw [hx] at hi
        obtain rfl : [iv k x] = r := by simpa using hi
        cases j with
        | zero =>
          obtain rfl : iv k x = d := by simpa using hj
          have e : xs.getD i 0 = x := by rw [List.getD_eq_getElem?_getD, hx]; rfl
          show RI _ (.int k (xs.getD i 0)) _
          rw [e]; exact .raw _ rfl
        | succ j => simp at hj
theorem raw_rp (F : Facts) (v : Value) (h : leafV v = true) : RP F v (.raw v) := .leaf (.raw v h)
theorem FnD.calls {P : Program} {f : FuncId} {args : List DV} {r : DV} (h : FnD P f args r) (w : World) (hB : BaseOk (cellsF w) w) (vs : Array Value) (hn : vs.size = args.length) (hv : ∀ (j : Nat) x d, vs[j]? = some x → args[j]? = some d → RP (cellsF w) x d) :
    Calls P f vs w fun e w' => ∃ v F', e = .returned v ∧ Facts.sub (cellsF w) F' ∧ F'.ok w' ∧ RP F' v r ∧ Below w.heap.size w w' :=
  (h.2 w (cellsF w) vs (cellsF_ok w) hB hn hv).mono fun e w' ⟨v, F', h1, h2, h3, _, h5, h6⟩ => ⟨v, F', h1, h2, h3, h5, h6⟩
theorem FnD.calls_raw {P : Program} {f : FuncId} {args : List DV} {r : Value} (h : FnD P f args (.raw r)) (w : World) (hB : BaseOk (cellsF w) w) (vs : Array Value) (hn : vs.size = args.length) (hv : ∀ (j : Nat) x d, vs[j]? = some x → args[j]? = some d → RP (cellsF w) x d) :
    Calls P f vs w fun e w' => e = .returned r ∧ Below w.heap.size w w' :=
  (h.calls w hB vs hn hv).mono fun e w' ⟨v, F', h1, _, _, h5, h6⟩ => by
    cases h5 with
    | leaf h => cases h with | raw v hv => exact ⟨h1, h6⟩
theorem below_facts {w w' : World} {F : Facts} (hF : F.ok w) (hb : Below w.heap.size w w') : F.ok w' := fun b o x hx => by
  have h := hF b o x hx
  have hlt : (⟨b, o, none⟩ : Addr).block < w.heap.size := World.block_lt_of_cell? w _ h
  exact (hb.cell hlt).trans h
theorem fn_of_calls {P : Program} {f : FuncId} {fn : Func} {v : Value} (hf : P.funcs[f]? = some fn) (hname : (fn.name == "runtime.NumGoroutine") = false) (hb : fn.body.isNone = false) (hl : leafV v = true)
    (h : ∀ w, Calls P f #[] w fun e w' => e = .returned v ∧ Below w.heap.size w w') : FnD P f [] (.raw v) := by
  refine ⟨⟨fn, hf, hname, hb⟩, fun w F vs hF _ hn hv => ?_⟩
  obtain rfl : vs = #[] := Array.eq_empty_of_size_eq_zero (by simpa using hn)
  exact (h w).mono fun e w' ⟨he, hB⟩ => ⟨v, F, he, Facts.sub_refl _, below_facts hF hB, fun b o x h => .inl h, .leaf (.raw v hl), hB⟩
theorem fn_of_calls_base {P : Program} {f : FuncId} {fn : Func} {v : Value} (hf : P.funcs[f]? = some fn) (hname : (fn.name == "runtime.NumGoroutine") = false) (hb : fn.body.isNone = false) (hl : leafV v = true)
    (h : ∀ (w : World) (F : Facts), F.ok w → BaseOk F w → Calls P f #[] w fun e w' => e = .returned v ∧ Below w.heap.size w w') : FnD P f [] (.raw v) := by
  refine ⟨⟨fn, hf, hname, hb⟩, fun w F vs hF hB hn hv => ?_⟩
  obtain rfl : vs = #[] := Array.eq_empty_of_size_eq_zero (by simpa using hn)
  exact (h w F hF hB).mono fun e w' ⟨he, hb⟩ => ⟨v, F, he, Facts.sub_refl _, below_facts hF hb, fun b o x h => .inl h, .leaf (.raw v hl), hb⟩
end Go.Proofs.YtdbaklnjemcfgaaGreatDoor.D
