/- strconv.Itoa and strings.Join as contracts on plain data, out of the shelf. Conditions: the table of powers of ten lies as it is (BaseOk). -/
import Derived.Test.YtdbaklnjemcfgaaGreatDoorDTac
import Derived.Test.YtdbaklnjemcfgaaGreatDoorDArgs
import Derived.Test.YtdbaklnjemcfgaaGreatDoorGLays
import Derived.Lib.ItoaLen
namespace Go.Proofs.YtdbaklnjemcfgaaGreatDoor.D
open Go.RowKit Go.Proofs.YtdbaklnjemcfgaaGreatDoor.Mem
set_option linter.unusedVariables false
set_option linter.unusedSimpArgs false
/-- A call of the library whose answer has no memory. -/
theorem fnD_raw {P : Program} {f : FuncId} {fn : Func} {args : List DV} {r : Value} (hf : P.funcs[f]? = some fn) (hname : (fn.name == "runtime.NumGoroutine") = false) (hb : fn.body.isNone = false) (hl : leafV r = true)
    (h : ∀ (w : World) (F : Facts) (vs : Array Value), F.ok w → BaseOk F w → vs.size = args.length → (∀ (j : Nat) x d, vs[j]? = some x → args[j]? = some d → RP F x d) → Calls P f vs w fun e w' => e = .returned r ∧ Below w.heap.size w w') : FnD P f args (.raw r) :=
  ⟨⟨fn, hf, hname, hb⟩, fun w F vs hF hB hn hv => (h w F vs hF hB hn hv).mono fun e w' ⟨he, hb⟩ => ⟨r, F, he, Facts.sub_refl _, below_facts hF hb, fun b o x h => .inl h, .leaf (.raw r hl), hb⟩⟩
theorem RP.of_raw {F : Facts} {v u : Value} (h : RP F v (.raw u)) : v = u := by
  cases h with
  | leaf h => cases h; rfl
theorem tab_of {F : Facts} {w : World} (hB : BaseOk F w) : Lib.TabIs Tryz.prog w "internal/strconv.uint64pow10" .u64 Lib.pow10Tab := by
  obtain ⟨⟨t, fr, h1⟩, _⟩ := hB
  unfold Lib.TabIs World.var?
  rw [show Tryz.prog.globalNamed "internal/strconv.uint64pow10" = some 0 by kernel_rfl]
  simp only [Option.bind_some, h1]
  rfl
theorem below_grow (w : World) (k : Nat) (os : Array Obj) : Below w.heap.size w (Go.Sort.grow (w.drewN k) os) :=
  ⟨rfl, rfl, rfl, by simp [Go.Sort.grow], fun i hi => by simp only [Go.Sort.grow]; exact Array.getElem?_append_left hi⟩
theorem itoa_fn (n : Int) (h0 : -9223372036854775808 ≤ n) (h1 : n ≤ 9223372036854775807) : FnD Tryz.prog 12 [iv .i64 n] (sv (Lib.itoa n)) := by
  refine fnD_raw Tryz.func12 (by kernel_rfl) rfl rfl fun w F vs hF hB hn hv => ?_
  match vs, hn with
  | ⟨[x]⟩, _ =>
    obtain rfl := (hv 0 x _ rfl rfl).of_raw
    refine (Tryz.strconv_Itoa n h0 h1 w (tab_of hB)).mono ?_
    rintro e w' ⟨rfl, k, os, rfl⟩
    exact ⟨rfl, below_grow w k os⟩
theorem join_fn (xs : List (List UInt8)) (sep : List UInt8) (hN : xs.length ≤ 140737488355328) (hlen : (Lib.join xs sep).length ≤ 140737488355328) : FnD Tryz.prog 13 [.sl (xs.map fun x => [sv x]), sv sep] (sv (Lib.join xs sep)) := by
  refine fnD_raw Tryz.func13 (by kernel_rfl) rfl rfl fun w F vs hF hB hn hv => ?_
  match vs, hn with
  | ⟨[x, y]⟩, _ =>
    obtain rfl := (hv 1 y _ rfl rfl).of_raw
    have hx := hv 0 x _ rfl rfl
    cases hx with
    | leaf hx =>
      generalize hr : (xs.map fun x => [sv x]) = rows at hx
      cases hx with
      | sl0 A c =>
        obtain rfl : xs = [] := by simpa using hr
        refine (Tryz.strings_Join_none A c ⟨⟨sep⟩⟩ w).mono ?_
        rintro e w' ⟨rfl, rfl⟩
        exact ⟨rfl, Below.refl _ _⟩
      | sl b off c sz _ u q0 qm qc qsz qF qR =>
        subst hr
        have h0 : xs ≠ [] := by intro e; subst e; exact q0 rfl
        have hsz : sz = 1 := by
          obtain ⟨z, l, rfl⟩ := List.exists_cons_of_ne_nil h0
          have := qsz [sv z] (by simp)
          simpa using this.symm
        subst hsz
        have hcell : ∀ (j : Nat) z, xs[j]? = some z → w.cell? ⟨b, off + j, none⟩ = some (str z) := by
          intro j z hz
          have h1 : (xs.map fun x => [sv x])[j]? = some [sv z] := by rw [List.getElem?_map, hz]; rfl
          have h2 := hF _ _ _ (qF j _ h1 0 (sv z) rfl)
          have h3 := qR j _ h1 0 (sv z) rfl
          have h4 : u j 0 = str z := by
            generalize hu : u j 0 = uj at h3
            cases h3; rfl
          rw [h4] at h2
          simpa using h2
        have hbk : b < w.heap.size := by
          obtain ⟨z, l, rfl⟩ := List.exists_cons_of_ne_nil h0
          exact World.block_lt_of_cell? w _ (hcell 0 z rfl)
        have hmap : ((xs.map fun l => (⟨⟨l⟩⟩ : ByteArray)).map (·.data.toList)) = xs := by simp [List.map_map, Function.comp_def]
        have := Tryz.strings_Join b off c (xs.map fun l => (⟨⟨l⟩⟩ : ByteArray)) ⟨⟨sep⟩⟩ w (fun j z hz => by
          rw [List.getElem?_map] at hz
          simp only [Option.map_eq_some_iff] at hz
          obtain ⟨l, hl, rfl⟩ := hz
          exact hcell j l hl) hbk (by simpa using hN) (by simpa using qc) (by rw [hmap]; exact hlen)
        rw [hmap] at this
        simp only [List.length_map] at this ⊢
        refine this.mono ?_
        rintro e w' ⟨rfl, hbel⟩
        exact ⟨rfl, hbel⟩
end Go.Proofs.YtdbaklnjemcfgaaGreatDoor.D
