/- A list of hops that reads as data is plain data, its numbers in range. Conditions: none. -/
import Derived.Test.YtdbaklnjemcfgaaGreatDoorHFew
import Derived.Test.YtdbaklnjemcfgaaGreatDoorDTyped
namespace Go.Proofs.YtdbaklnjemcfgaaGreatDoor.D
open Go.RowKit Go.Proofs.YtdbaklnjemcfgaaGreatDoor.Mem
def tyS : List TypeId := [22, 30, 3, 4]
theorem tyS_ok : ∀ t ∈ tyS, okT Tryz.prog tyS t = true := List.all_eq_true.1 (by kernel_rfl)
theorem maps_ex {α : Type} (f : α → List DV) (Q : α → Prop) : ∀ rows : List (List DV), (∀ r ∈ rows, ∃ x, r = f x ∧ Q x) → ∃ l : List α, rows = l.map f ∧ ∀ x ∈ l, Q x := by
  intro rows
  induction rows with
  | nil => intro _; exact ⟨[], rfl, by simp⟩
  | cons r rows ih =>
    intro h
    obtain ⟨x, rfl, hx⟩ := h r (by simp)
    obtain ⟨l, rfl, hl⟩ := ih (fun q hq => h q (List.mem_cons_of_mem _ hq))
    refine ⟨x :: l, rfl, fun y hy => ?_⟩
    rcases List.mem_cons.1 hy with rfl | hy
    · exact hx
    · exact hl y hy
theorem c_int : Tryz.prog.cellsOf 3 = 1 := by kernel_rfl
theorem c_bool : Tryz.prog.cellsOf 4 = 1 := by kernel_rfl
theorem c_hop : Tryz.prog.cellsOf 30 = 2 := by kernel_rfl
theorem c_hops : Tryz.prog.cellsOf 22 = 1 := by kernel_rfl
theorem ht_int {n : Nat} {ds : List DV} (h : HT Tryz.prog n 3 ds) : ∃ x, ds = [iv .i64 x] ∧ -9223372036854775808 ≤ x ∧ x ≤ 9223372036854775807 := by
  cases n with
  | zero => exact h.elim
  | succ n =>
    simp only [HT, Tryz.underlying3] at h
    obtain ⟨x, rfl, hw⟩ := h
    simp only [Lit.wf, IntKind.min, IntKind.max, Bool.and_eq_true] at hw
    exact ⟨x, rfl, of_decide_eq_true hw.1, of_decide_eq_true hw.2⟩
theorem ht_bool {n : Nat} {ds : List DV} (h : HT Tryz.prog n 4 ds) : ∃ x, ds = [bv x] := by
  cases n with
  | zero => exact h.elim
  | succ n =>
    simp only [HT, Tryz.underlying4] at h
    obtain ⟨x, rfl⟩ := h
    exact ⟨x, rfl⟩
set_option maxRecDepth 100000 in
theorem ht_hop {n : Nat} {ds : List DV} (h : HT Tryz.prog n 30 ds) : ∃ p : Hop, ds = rowH p ∧ -9223372036854775808 ≤ p.1 ∧ p.1 ≤ 9223372036854775807 := by
  cases n with
  | zero => exact h.elim
  | succ n =>
    simp only [HT, Tryz.underlying30, List.forall_mem_cons, c_hop, c_int, c_bool] at h
    obtain ⟨hl, h0, h1, _⟩ := h
    match ds, hl with
    | [a, b], _ =>
      obtain ⟨x, hx, r0, r1⟩ := ht_int h0
      obtain ⟨y, hy⟩ := ht_bool h1
      simp at hx hy
      exact ⟨⟨x, y⟩, by rw [hx, hy]; rfl, r0, r1⟩
theorem hops_arg {H : Type} {enc : TypeId × Value → H} {W : World} {v : Value} {d : DataW H} {ps : List MemPlace} (hl : leafV v = true) (h : DataW.Trod enc Tryz.prog W 0 (fun _ => true) true 22 v d ps) : ∃ l : List Hop, RP (cellsF W) v (HS l) ∧ ∀ h ∈ l, -9223372036854775808 ≤ h.1 ∧ h.1 ≤ 9223372036854775807 := by
  obtain ⟨m, hm⟩ := h
  obtain ⟨ds, h1, h2, h3⟩ := typed tyS tyS_ok m _ _ _ (by decide) hm
  rw [cells_leaf hl] at h1
  have h1' : ds.length = 1 := h1.1.symm
  match ds, h1' with
  | [d], _ =>
    have hri := h1.2 0 v d rfl rfl
    cases m with
    | zero => exact h3.elim
    | succ n =>
      simp only [HT, Tryz.underlying22] at h3
      obtain ⟨rows, hr, _, hrow⟩ := h3
      simp at hr
      subst hr
      obtain ⟨l, rfl, hq⟩ := maps_ex rowH (fun p => -9223372036854775808 ≤ p.1 ∧ p.1 ≤ 9223372036854775807) rows (fun r hr => ht_hop (hrow r hr))
      exact ⟨l, .leaf hri, hq⟩
end Go.Proofs.YtdbaklnjemcfgaaGreatDoor.D
