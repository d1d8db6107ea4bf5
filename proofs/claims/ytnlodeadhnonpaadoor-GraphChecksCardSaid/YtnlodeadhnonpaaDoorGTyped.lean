/- A graph that reads as data is plain data. Conditions: none. -/
import Derived.Test.YtnlodeadhnonpaaDoorGD14
import Derived.Test.YtnlodeadhnonpaaDoorDTyped
namespace Go.Proofs.YtnlodeadhnonpaaDoor.D
open Go.RowKit Go.Proofs.YtnlodeadhnonpaaDoor.Mem
set_option linter.unusedVariables false
def tyS : List TypeId := [51, 48, 49, 58, 56, 80, 78, 61, 9, 3]
theorem tyS_ok : ∀ t ∈ tyS, okT Tryd.prog tyS t = true := List.all_eq_true.1 (by kernel_rfl)
theorem maps_ex {α : Type} (f : α → List DV) : ∀ rows : List (List DV), (∀ r ∈ rows, ∃ x, r = f x) → ∃ l : List α, rows = l.map f := by
  intro rows
  induction rows with
  | nil => intro _; exact ⟨[], rfl⟩
  | cons r rows ih =>
    intro h
    obtain ⟨x, rfl⟩ := h r (by simp)
    obtain ⟨l, rfl⟩ := ih (fun q hq => h q (List.mem_cons_of_mem _ hq))
    exact ⟨x :: l, rfl⟩
theorem c_str : Tryd.prog.cellsOf 9 = 1 := by kernel_rfl
theorem c_int : Tryd.prog.cellsOf 3 = 1 := by kernel_rfl
theorem c_val : Tryd.prog.cellsOf 78 = 3 := by kernel_rfl
theorem c_prop : Tryd.prog.cellsOf 80 = 4 := by kernel_rfl
theorem c_props : Tryd.prog.cellsOf 56 = 1 := by kernel_rfl
theorem c_node : Tryd.prog.cellsOf 58 = 2 := by kernel_rfl
theorem c_nodes : Tryd.prog.cellsOf 48 = 1 := by kernel_rfl
theorem c_edge : Tryd.prog.cellsOf 61 = 4 := by kernel_rfl
theorem c_edges : Tryd.prog.cellsOf 49 = 1 := by kernel_rfl
theorem c_graph : Tryd.prog.cellsOf 51 = 2 := by kernel_rfl
theorem ht_str {n : Nat} {ds : List DV} (h : HT Tryd.prog n 9 ds) : ∃ l, ds = [sv l] := by
  cases n with
  | zero => exact h.elim
  | succ n =>
    simp only [HT, Tryd.underlying9] at h
    obtain ⟨s, rfl, _⟩ := h
    exact ⟨s.data.toList, rfl⟩
theorem ht_int {n : Nat} {ds : List DV} (h : HT Tryd.prog n 3 ds) : ∃ x, ds = [iv .i64 x] := by
  cases n with
  | zero => exact h.elim
  | succ n =>
    simp only [HT, Tryd.underlying3] at h
    obtain ⟨x, rfl, _⟩ := h
    exact ⟨x, rfl⟩
set_option maxRecDepth 100000 in
theorem ht_val {n : Nat} {ds : List DV} (h : HT Tryd.prog n 78 ds) : ∃ v : PV, ds = [iv .i64 v.k, iv .i64 v.n, sv v.t] := by
  cases n with
  | zero => exact h.elim
  | succ n =>
    simp only [HT, Tryd.underlying78, List.forall_mem_cons, c_val, c_int, c_str] at h
    obtain ⟨hl, h0, h1, h2, _⟩ := h
    match ds, hl with
    | [a, b, c], _ =>
      obtain ⟨x, hx⟩ := ht_int h0
      obtain ⟨y, hy⟩ := ht_int h1
      obtain ⟨z, hz⟩ := ht_str h2
      simp at hx hy hz
      exact ⟨⟨x, y, z⟩, by rw [hx, hy, hz]⟩
set_option maxRecDepth 100000 in
theorem ht_prop {n : Nat} {ds : List DV} (h : HT Tryd.prog n 80 ds) : ∃ p : PP, ds = rowP p := by
  cases n with
  | zero => exact h.elim
  | succ n =>
    simp only [HT, Tryd.underlying80, List.forall_mem_cons, c_prop, c_val, c_str] at h
    obtain ⟨hl, h0, h1, _⟩ := h
    match ds, hl with
    | [a, b, c, d], _ =>
      obtain ⟨x, hx⟩ := ht_str h0
      obtain ⟨v, hv⟩ := ht_val h1
      simp at hx hv
      obtain ⟨e1, e2, e3⟩ := hv
      exact ⟨⟨x, v⟩, by rw [hx, e1, e2, e3]; rfl⟩
set_option maxRecDepth 100000 in
theorem ht_node {n : Nat} {ds : List DV} (h : HT Tryd.prog n 58 ds) : ∃ p : PN, ds = rowN p := by
  cases n with
  | zero => exact h.elim
  | succ n =>
    simp only [HT, Tryd.underlying58, List.forall_mem_cons, c_node, c_props, c_str] at h
    obtain ⟨hl, h0, h1, _⟩ := h
    match ds, hl with
    | [a, b], _ =>
      obtain ⟨x, hx⟩ := ht_str h0
      simp at hx h1
      cases n with
      | zero => exact h1.elim
      | succ n =>
        simp only [HT, Tryd.underlying56] at h1
        obtain ⟨rows, hr, _, hrow⟩ := h1
        simp at hr
        obtain ⟨l, rfl⟩ := maps_ex rowP rows (fun r hr => ht_prop (hrow r hr))
        exact ⟨⟨x, l⟩, by rw [hx, hr]; rfl⟩
set_option maxRecDepth 100000 in
theorem ht_edge {n : Nat} {ds : List DV} (h : HT Tryd.prog n 61 ds) : ∃ p : PE, ds = rowE p := by
  cases n with
  | zero => exact h.elim
  | succ n =>
    simp only [HT, Tryd.underlying61, List.forall_mem_cons, c_edge, c_int, c_str] at h
    obtain ⟨hl, h0, h1, h2, h3, _⟩ := h
    match ds, hl with
    | [a, b, c, d], _ =>
      obtain ⟨x, hx⟩ := ht_int h0
      obtain ⟨y, hy⟩ := ht_int h1
      obtain ⟨z, hz⟩ := ht_str h2
      obtain ⟨u, hu⟩ := ht_int h3
      simp at hx hy hz hu
      exact ⟨⟨x, y, z, u⟩, by rw [hx, hy, hz, hu]; rfl⟩
set_option maxRecDepth 100000 in
theorem ht_graph {n : Nat} {ds : List DV} (h : HT Tryd.prog n 51 ds) : ∃ g : PG, DV.agg ds = G2 g := by
  cases n with
  | zero => exact h.elim
  | succ n =>
    simp only [HT, Tryd.underlying51, List.forall_mem_cons, c_graph, c_nodes, c_edges] at h
    obtain ⟨hl, h0, h1, _⟩ := h
    match ds, hl with
    | [a, b], _ =>
      simp at h0 h1
      cases n with
      | zero => exact h1.elim
      | succ n =>
        simp only [HT, Tryd.underlying48] at h0
        simp only [HT, Tryd.underlying49] at h1
        obtain ⟨rows, hr, _, hrow⟩ := h0
        obtain ⟨rows', hr', _, hrow'⟩ := h1
        simp at hr hr'
        obtain ⟨l, rfl⟩ := maps_ex rowN rows (fun r hr => ht_node (hrow r hr))
        obtain ⟨l', rfl⟩ := maps_ex rowE rows' (fun r hr => ht_edge (hrow' r hr))
        exact ⟨⟨l, l'⟩, by rw [hr, hr']; rfl⟩
theorem graph_arg {H : Type} {enc : TypeId × Value → H} {W : World} {cs : Array Value} {d : DataW H} {ps : List MemPlace} (h : DataW.Trod enc Tryd.prog W 0 (fun _ => true) true 51 (.agg cs) d ps) : ∃ g : PG, RP (cellsF W) (.agg cs) (G2 g) := by
  obtain ⟨m, hm⟩ := h
  obtain ⟨ds, h1, h2, h3⟩ := typed tyS tyS_ok m _ _ _ (by decide) hm
  obtain ⟨g, hg⟩ := ht_graph h3
  refine ⟨g, ?_⟩
  rw [← hg]
  exact .agg (by have := h1.1; rw [← Array.length_toList]; exact this) (fun j x d hx hd => h1.2 j x d (by show cs.toList[j]? = _; rw [Array.getElem?_toList]; exact hx) hd)
end Go.Proofs.YtnlodeadhnonpaaDoor.D
