/- What a slice of pairs that comes in holds. Conditions: it can be read as data. -/
import Derived.Test.YtndlcfdlhliljaaRadixPairs
import Derived.Test.YtndlcfdlhliljaaArgs
import Derived.Deep.SlicePairs
import Derived.ChangeArms
namespace Go.Proofs.Ytndlcfdlhliljaa.Args
open Go.RowKit Go.ChangeShapes Go.WideShapes Go.Proofs.Ytndlcfdlhliljaa.Mem Go.Proofs.Ytndlcfdlhliljaa.Sl Go.Proofs.Ytndlcfdlhliljaa.Rx
set_option linter.unusedVariables false

theorem wf32 {a : Int} (h : (Lit.int .u32 a).wf = true) : 0 ≤ a ∧ a < 4294967296 := by
  simp [Lit.wf, IntKind.min, IntKind.max, IntKind.signed, IntKind.bits] at h
  omega
theorem rd_pairs {H : Type} {enc : TypeId × Value → H} {P : Program} {W : World} {base : Nat} {spare : Nat → Bool} {held : Bool} {t e : TypeId} {f0 f1 : Field} {a : Option Addr} {len cap : Nat} {d : DataW H} {ps : List MemPlace}
    (hu : P.underlying t = some (.slice e)) (he : P.underlying e = some (.struct #[f0, f1])) (ce : P.cellsOf e = 2) (o0 : f0.offset = 0) (o1 : f1.offset = 1) (c0 : P.cellsOf f0.type = 1) (c1 : P.cellsOf f1.type = 1)
    (u0 : P.underlying f0.type = some (.int .u32)) (u1 : P.underlying f1.type = some (.int .u32)) (h : DataW.Trod enc P W base spare held t (.slice a len cap) d ps) :
    ∃ l : List (Int × Int), Rd ep 2 W (.slice a len cap) l ∧ ∀ p ∈ l, In32 p := by
  obtain ⟨fuel, hf⟩ := h
  rcases Deep.open_slice_pairs hu he ce o0 o1 c0 c1 hf with ⟨hcs, _⟩ | ⟨x, l, c, m, n, V0, V1, D0, D1, P0, P1, hcs, _, hl, hm, hmm, _, hx⟩
  · simp [Value.cells] at hcs
    obtain ⟨rfl, rfl, rfl⟩ := hcs
    exact ⟨[], Rd.nil .., by simp⟩
  · simp [Value.cells] at hcs
    obtain ⟨rfl, rfl, rfl⟩ := hcs
    have hlm : len ≤ m := by rw [hmm]; split <;> omega
    have each : ∀ i, ∃ p : Int × Int, i < len → In32 p ∧ W.cell? (x.add (i * 2)) = some (.int .u32 p.1) ∧ W.cell? (x.add (i * 2 + 1)) = some (.int .u32 p.2) := by
      intro i
      by_cases hi : i < len
      · obtain ⟨g0, g1, t0, t1⟩ := hx i (by omega)
        obtain ⟨n0, e0, _, w0⟩ := DataW.trod_int u0 t0
        obtain ⟨n1, e1, _, w1⟩ := DataW.trod_int u1 t1
        injection e0 with e0
        injection e1 with e1
        have a0 := wf32 w0
        have a1 := wf32 w1
        exact ⟨(n0, n1), fun _ => ⟨⟨a0.1, a0.2, a1.1, a1.2⟩, by rw [g0, e0], by rw [g1, e1]⟩⟩
      · exact ⟨(0, 0), fun h => absurd h hi⟩
    obtain ⟨F, hF⟩ := Classical.axiomOfChoice each
    have hlen : ((List.range len).map F).length = len := by simp
    have hget : ∀ i p, ((List.range len).map F)[i]? = some p → i < len ∧ p = F i := by
      intro i p hp
      have hi : i < len := by have := (List.getElem?_eq_some_iff.1 hp).1; simpa using this
      refine ⟨hi, ?_⟩
      rw [List.getElem?_map, List.getElem?_range hi] at hp
      simpa using hp.symm
    refine ⟨(List.range len).map F, ⟨some x, cap, by rw [hlen], by rw [hlen]; exact hl, by rw [hlen]; unfold maxLen at hm; omega, fun hp => ?_⟩, fun p hp => ?_⟩
    · rw [hlen] at hp
      have hc0 := (hF 0 hp).2.1
      rw [Nat.zero_mul] at hc0
      obtain ⟨b, off, rfl⟩ := plain_addr hc0
      refine ⟨b, off, rfl, ?_, fun i p hp j u hu' => ?_⟩
      · have := World.block_lt_of_cell? W _ hc0
        rw [add_plain] at this
        exact this
      · obtain ⟨hi, rfl⟩ := hget i p hp
        obtain ⟨_, h1, h2⟩ := hF i hi
        rw [add_plain] at h1 h2
        match j with
        | 0 => have hu2 : u = .int .u32 (F i).1 := by simpa [ep] using hu'.symm
               rw [hu2, Nat.add_zero]; exact h1
        | 1 => have hu2 : u = .int .u32 (F i).2 := by simpa [ep] using hu'.symm
               rw [hu2]; exact h2
        | j + 2 => simp [ep] at hu'
    · obtain ⟨i, hi, rfl⟩ := List.mem_map.1 hp
      exact (hF i (by simpa using hi)).1
end Go.Proofs.Ytndlcfdlhliljaa.Args
