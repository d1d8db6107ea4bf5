/- What the methods of a meter do, by one: New, Add, All, Left. Conditions: the meter's parts lie in two blocks of their own. -/
import Derived.Test.YtnlodeadhnonpaaDoorName
import Derived.Laws.MakeOwn
import Derived.Laws.OwnMore
import Derived.Deep.OwnRows
import Derived.Tactics
import Derived.Lib.ConvBytes
import Derived.Laws.Slices
import Derived.WalkKit
import Derived.KernelRfl
import Derived.RowKit3
import Derived.Deep.LoopGhost
import Derived.Deep.QuietTactic
import Derived.BigQuiet
import Derived.WideLaws
import Derived.Deep.DeepCutAuto
import Derived.Deep.CutBlock
import Derived.Deep.RegionHeld3
import Derived.Laws.Rows
import Derived.ArgAppend
import Derived.Laws.IdiomCopy
import Derived.Maps.OwnOps
import Derived.Maps.OwnSet
import Derived.Test.YtnlodeadhnonpaaDoorMem
namespace Go.Proofs.YtnlodeadhnonpaaDoor.Mt
open Go.RowKit Go.Maps Go.WideMaps Go.Proofs.YtnlodeadhnonpaaDoor.Mem Go.Proofs.YtnlodeadhnonpaaDoor.Str Go.Proofs.YtnlodeadhnonpaaDoor.Nm
set_option linter.unusedVariables false
set_option linter.unusedSimpArgs false

abbrev i64 (n : Int) : DataW Unit := .lit (.int .i64 n)
theorem lawS : Keyed Tryd.prog 9 := string_keyed Tryd.underlying9
theorem zeroI (w : World) : (zeroValue 3).run Tryd.prog w = .ok (.int .i64 0) w := by kernel_rfl

/-- A meter at block sb, its map at block bm, of at most n names, which reads as D; what was counted, and the most. -/
structure Mt (w : World) (sb bm n : Nat) (D : DataW Unit) (sum most : Int) : Prop where
  cells : w.heap[sb]? = some (.cells #[.map (some bm), .int .i64 sum, .int .i64 most] 69 (0, 0))
  own : w.ownsMap Tryd.prog 9 (plainElem Tryd.prog 3) bm n D
  ne : sb ≠ bm

theorem turned_keep {w w1 : World} {d sb bm : Nat} {o : Obj} (h : w.heap[sb]? = some o) (hne : sb ≠ bm) (ht : (w.drewN d).mapTurned w1 bm) : w1.heap[sb]? = some o :=
  (Chg.of_turned ht).heap (w := w.drewN d) h (lt_of_heap h) hne
theorem cell_in {w : World} {b : Nat} {c : Array Value} {t : TypeId} (h : w.heap[b]? = some (.cells c t (0, 0))) (i : Nat) (v : Value) (hv : c[i]? = some v) : w.cell? ⟨b, i, none⟩ = some v := by simp [World.cell?, h, hv]
theorem free_in {w : World} {b : Nat} {c : Array Value} {t : TypeId} (h : w.heap[b]? = some (.cells c t (0, 0))) (i : Nat) : w.frozen? ⟨b, i, none⟩ = false := by simp [World.frozen?, h]
theorem Mt.c0 {w sb bm n D sum most} (h : Mt w sb bm n D sum most) : w.cell? ⟨sb, 0, none⟩ = some (.map (some bm)) := by simp [World.cell?, h.cells]
theorem Mt.c1 {w sb bm n D sum most} (h : Mt w sb bm n D sum most) : w.cell? ⟨sb, 1, none⟩ = some (.int .i64 sum) := by simp [World.cell?, h.cells]
theorem Mt.c2 {w sb bm n D sum most} (h : Mt w sb bm n D sum most) : w.cell? ⟨sb, 2, none⟩ = some (.int .i64 most) := by simp [World.cell?, h.cells]
theorem Mt.fr {w sb bm n D sum most} (h : Mt w sb bm n D sum most) (i : Nat) : w.frozen? ⟨sb, i, none⟩ = false := by simp [World.frozen?, h.cells]

theorem Mt.drewN {w sb bm n D sum most} (h : Mt w sb bm n D sum most) (d : Nat) : Mt (w.drewN d) sb bm n D sum most := ⟨h.cells, h.own, h.ne⟩

theorem new_ok (m : Int) (w : World) (h0 : 0 ≤ m) (h1 : m ≤ 1000000000000) :
    Calls Tryd.prog 8 #[.int .i64 m] w fun e w' => e = .returned (.tuple #[.pointer (some ⟨w.heap.size + 1, 0, none⟩), .int .i64 0]) ∧ Mt w' (w.heap.size + 1) w.heap.size 0 (.map []) 0 m ∧ Below w.heap.size w w' := by
  have hmm := @run_makeMap Tryd.prog
  go_enter Tryd.func8, Tryd.ntmps8
  go_wp2
  go_ret2
  refine ⟨rfl, ⟨?_, ?_, by omega⟩, ?_⟩
  · have := heap_alloc_new (w.alloc (.map #[] 0)) (.cells #[.map (some w.heap.size), .int .i64 0, .int .i64 m] 69)
    rwa [size_alloc] at this
  · exact (World.ownsMap_made _ _ _ _).kept (World.grownBy_alloc _ _ none) (by simp)
  · exact ((Below.refl _ _).alloc (Nat.le_refl _) _).alloc (by rw [size_alloc]; omega) _

theorem new_bad (m : Int) (w : World) (h0 : m < 0 ∨ 1000000000000 < m) :
    Calls Tryd.prog 8 #[.int .i64 m] w fun e w' => e = .returned (.tuple #[.pointer none, .int .i64 1]) ∧ w' = w := by
  rcases h0 with h | h
  all_goals
    go_enter Tryd.func8, Tryd.ntmps8
    go_wp2
    go_ret2
    exact ⟨rfl, rfl⟩

theorem all_nil (w : World) : Calls Tryd.prog 20 #[.pointer none] w fun e w' => e = .returned (.int .i64 0) ∧ w' = w := by
  go_enter Tryd.func20, Tryd.ntmps20
  go_wp2
  go_ret
  exact ⟨rfl, rfl⟩
theorem all_ok {w sb bm n D sum most} (h : Mt w sb bm n D sum most) : Calls Tryd.prog 20 #[.pointer (some ⟨sb, 0, none⟩)] w fun e w' => e = .returned (.int .i64 sum) ∧ w' = w := by
  have c1 := h.c1
  go_enter Tryd.func20, Tryd.ntmps20
  go_wp2
  go_ret
  exact ⟨rfl, rfl⟩
theorem left_nil (w : World) : Calls Tryd.prog 21 #[.pointer none] w fun e w' => e = .returned (.int .i64 0) ∧ w' = w := by
  go_enter Tryd.func21, Tryd.ntmps21
  go_wp2
  go_ret
  exact ⟨rfl, rfl⟩
theorem left_ok {w sb bm n D sum most} (h : Mt w sb bm n D sum most) : Calls Tryd.prog 21 #[.pointer (some ⟨sb, 0, none⟩)] w fun e w' => e = .returned (.int .i64 (wrap64 (most - sum))) ∧ ∃ k, w' = w.drewN k := by
  have c1 := h.c1
  have c2 := h.c2
  go_enter Tryd.func21, Tryd.ntmps21
  go_wp2
  go_quiet (fail)
  go_wp2
  go_ret
  exact ⟨rfl, _, rfl⟩

/-! ### Add -/
theorem add_nil (s : ByteArray) (k : Int) (w : World) : Calls Tryd.prog 11 #[.pointer none, .string s, .int .i64 k] w fun e w' => e = .returned (.int .i64 1) ∧ w' = w := by
  go_enter Tryd.func11, Tryd.ntmps11
  go_wp2
  go_ret
  exact ⟨rfl, rfl⟩
theorem add_form (sb : Nat) (w : World) (s : ByteArray) (k : Int) (hs : s.size ≤ 140737488355328) (hb : nameB (bs s) = false) :
    Calls Tryd.prog 11 #[.pointer (some ⟨sb, 0, none⟩), .string s, .int .i64 k] w fun e w' => e = .returned (.int .i64 2) ∧ ∃ d, w' = w.drewN d := by
  go_enter Tryd.func11, Tryd.ntmps11
  go_wp2_with (go_at_call 36; refine (name_calls s _ hs).mono ?_; rintro e w' ⟨rfl, kd, rfl⟩)
  go_ret
  exact ⟨rfl, _, rfl⟩
theorem add_arg (sb : Nat) (w : World) (s : ByteArray) (k : Int) (hs : s.size ≤ 140737488355328) (hb : nameB (bs s) = true) (hk : k < 0) :
    Calls Tryd.prog 11 #[.pointer (some ⟨sb, 0, none⟩), .string s, .int .i64 k] w fun e w' => e = .returned (.int .i64 1) ∧ ∃ d, w' = w.drewN d := by
  go_enter Tryd.func11, Tryd.ntmps11
  go_wp2_with (go_at_call 36; refine (name_calls s _ hs).mono ?_; rintro e w' ⟨rfl, kd, rfl⟩)
  go_ret
  exact ⟨rfl, _, rfl⟩
theorem add_full {w sb bm n D sum most} (h : Mt w sb bm n D sum most) (s : ByteArray) (k : Int) (hs : s.size ≤ 140737488355328) (hb : nameB (bs s) = true) (h0 : 0 ≤ sum) (h1 : sum ≤ most) (h2 : most ≤ 1000000000000) (hk : 0 ≤ k) (hf : most - sum < k) :
    Calls Tryd.prog 11 #[.pointer (some ⟨sb, 0, none⟩), .string s, .int .i64 k] w fun e w' => e = .returned (.int .i64 3) ∧ ∃ d, w' = w.drewN d := by
  have c1 := h.c1
  have c2 := h.c2
  go_enter Tryd.func11, Tryd.ntmps11
  go_wp2_with (go_at_call 36; refine (name_calls s _ hs).mono ?_; rintro e w' ⟨rfl, kd, rfl⟩)
  go_quiet (fail)
  go_wp2
  go_ret
  exact ⟨rfl, _, World.drewN_drewN ..⟩
set_option maxRecDepth 100000 in
theorem add_ok {w sb bm n D sum most} (h : Mt w sb bm n D sum most) (s : ByteArray) (k : Int) (hs : s.size ≤ 140737488355328) (hb : nameB (bs s) = true) (h0 : 0 ≤ sum) (h1 : sum ≤ most) (h2 : most ≤ 1000000000000) (hk : 0 ≤ k) (hf : k ≤ most - sum) (hn : n < maxLen) :
    Calls Tryd.prog 11 #[.pointer (some ⟨sb, 0, none⟩), .string s, .int .i64 k] w fun e w' => e = .returned (.int .i64 0) ∧
      ∃ c, D.atKey (.string s.data.toList) (i64 0) = i64 c ∧ Mt w' sb bm (n + 1) (D.put (.string s.data.toList) (i64 (wrap64 (c + k)))) (sum + k) most ∧ Chg (fun b => b = sb ∨ b = bm) w w' := by
  have c0 := h.c0
  have c1 := h.c1
  have c2 := h.c2
  have f1 := h.fr 1
  have hown := h.own
  have hkey : keyOf Tryd.prog 9 (.string s) = some (.string s.data.toList) := keyOf_string_mk Tryd.underlying9 (by unfold maxLen; omega)
  go_enter Tryd.func11, Tryd.ntmps11
  go_wp2_with (first
    | (go_at_call 36; refine (name_calls s _ hs).mono ?_; rintro e w' ⟨rfl, kd, rfl⟩))
  go_quiet (fail)
  go_wp2_with (first
    | (at_lookup; refine wpList_lookup_own_int _ rfl _ _ 67 rfl 9 3 .i64 lawS Tryd.underlying67 Tryd.underlying3 (zeroI _) bm n D rfl hown _ _ rfl hkey ?_; intro c hat hwc)
    | (at_mapUpdate; refine wpList_mapUpdate_in _ rfl _ _ _ 67 rfl 9 3 lawS Tryd.underlying67 _ bm n D rfl hown hn _ _ _ rfl rfl hkey _ [] (plainElem_int Tryd.underlying3 (wrap64_wf _)) ?_; intro w1 hown1 hturn1; have hb1 := turned_keep h.cells h.ne hturn1; have c1' := cell_in hb1 1 _ rfl; have f1' := free_in hb1 1; clear hb1))
  go_ret
  have hb1 := turned_keep h.cells h.ne hturn1
  have e := heap_setCell_at w1 sb 1 (.int .i64 (sum + k)) _ _ _ hb1
  refine ⟨rfl, c, hat, ⟨?_, ?_, h.ne⟩, ?_⟩
  · rw [e]; rfl
  · exact hown1.kept (row := some sb) ⟨rfl, rfl, rfl, by rw [size_setCell]; exact Nat.le_refl _, fun j _ hj => heap_setCell_ne _ _ _ (fun ej => hj (by rw [ej]))⟩ (fun ej => h.ne (Option.some.inj ej).symm)
  · exact (((Chg.refl _ _).drewN _).trans ((Chg.of_turned hturn1).mono (T' := fun b => b = sb ∨ b = bm) (fun b hb => .inr hb)) (fun b hb => .inl hb)).setCell _ _ (.inl (.inl rfl))

/-! ### what a meter of its own tells -/
theorem lives_ok (w : World) : Calls Tryd.prog 9 #[] w fun e w' => e = .returned (.bool true) ∧ Below w.heap.size w w' := by
  go_enter Tryd.func9, Tryd.ntmps9
  go_wp2_with (first
    | (go_at_call 8; refine (new_ok 5 w (by decide) (by decide)).mono ?_; rintro e w1 ⟨rfl, hM, hB⟩))
  refine (add_ok hM (⟨#[97]⟩ : ByteArray) 3 (by decide) (by decide) (by decide) (by decide) (by decide) (by decide) (by decide) (by decide)).mono ?_
  rintro e w2 ⟨rfl, c, hc, hM2, hC2⟩
  go_wp2_with fail
  refine (add_full hM2 (⟨#[98]⟩ : ByteArray) 3 (by decide) (by decide) (by decide) (by decide) (by decide) (by decide) (by decide)).mono ?_
  rintro e w3 ⟨rfl, d, rfl⟩
  go_wp2_with fail
  refine (all_ok (hM2.drewN d)).mono ?_
  rintro e w3 ⟨rfl, rfl⟩
  go_wp2_with fail
  refine (left_ok (hM2.drewN d)).mono ?_
  rintro e w3 ⟨rfl, d2, rfl⟩
  go_wp2
  go_ret
  refine ⟨by simp [wrap64], ?_⟩
  have h1 : Chg (fun b => b = w.heap.size + 1 ∨ b = w.heap.size) w w1 := Chg.of_below hB _
  exact ((h1.trans hC2 (fun b hb => .inl hb)).drewN (d + d2)).below (fun b hb => by rcases hb with hb | hb <;> omega)

/-! ### what is told of no meter -/
theorem of_nil (s : ByteArray) (w : World) : Calls Tryd.prog 22 #[.pointer none, .string s] w fun e w' => e = .returned (.int .i64 0) ∧ w' = w := by
  go_enter Tryd.func22, Tryd.ntmps22
  go_wp2
  go_ret
  exact ⟨rfl, rfl⟩
theorem names_nil (w : World) : Calls Tryd.prog 24 #[.pointer none] w fun e w' => e = .returned (.slice none 0 0) ∧ w' = w := by
  go_enter Tryd.func24, Tryd.ntmps24
  go_wp2
  go_ret
  exact ⟨rfl, rfl⟩
theorem lines_nil (w : World) : Calls Tryd.prog 16 #[.pointer none] w fun e w' => e = .returned (.slice none 0 0) ∧ w' = w := by
  go_enter Tryd.func16, Tryd.ntmps16
  go_wp2
  go_ret
  exact ⟨rfl, rfl⟩
theorem join_nil (o : Option Addr) (w : World) : Calls Tryd.prog 13 #[.pointer none, .pointer o] w fun e w' => e = .returned (.int .i64 1) ∧ w' = w := by
  go_enter Tryd.func13, Tryd.ntmps13
  go_wp2
  go_ret
  exact ⟨rfl, rfl⟩
theorem clear_nil (w : World) : Calls Tryd.prog 19 #[.pointer none] w fun e w' => e = .returned (.int .i64 0) ∧ w' = w := by
  go_enter Tryd.func19, Tryd.ntmps19
  go_wp2
  go_ret
  exact ⟨rfl, rfl⟩
set_option maxRecDepth 100000 in
theorem meterNone_any (s : ByteArray) (n : Int) (w : World) : Calls Tryd.prog 5 #[.string s, .int .i64 n] w fun e w' => e = .returned (.bool true) ∧ Below w.heap.size w w' := by
  go_enter Tryd.func5, Tryd.ntmps5
  go_wp2_with (first
    | (go_at_call 11; refine (add_nil _ _ _).mono ?_; rintro e w' ⟨rfl, rfl⟩)
    | (go_at_call 22; refine (of_nil _ _).mono ?_; rintro e w' ⟨rfl, rfl⟩)
    | (go_at_call 20; refine (all_nil _).mono ?_; rintro e w' ⟨rfl, rfl⟩)
    | (go_at_call 21; refine (left_nil _).mono ?_; rintro e w' ⟨rfl, rfl⟩)
    | (go_at_call 24; refine (names_nil _).mono ?_; rintro e w' ⟨rfl, rfl⟩)
    | (go_at_call 16; refine (lines_nil _).mono ?_; rintro e w' ⟨rfl, rfl⟩)
    | (go_at_call 13; refine (join_nil _ _).mono ?_; rintro e w' ⟨rfl, rfl⟩)
    | (go_at_call 19; refine (clear_nil _).mono ?_; rintro e w' ⟨rfl, rfl⟩)
    | (go_at_call 9; refine (lives_ok _).mono ?_; rintro e w' ⟨rfl, hB⟩))
  go_ret
  exact ⟨rfl, hB⟩
end Go.Proofs.YtnlodeadhnonpaaDoor.Mt
