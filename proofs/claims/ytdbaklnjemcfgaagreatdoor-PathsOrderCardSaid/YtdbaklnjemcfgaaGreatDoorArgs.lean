/- What the slices that come in hold: numbers in a row of memory. Conditions: they can be read as data. -/
import Derived.Test.YtdbaklnjemcfgaaGreatDoorSl
import Derived.ChangeSlices
import Derived.SizedLaws
import Derived.WideShapes
namespace Go.Proofs.YtdbaklnjemcfgaaGreatDoor.Args
open Go.RowKit Go.ChangeShapes Go.WideShapes Go.Proofs.YtdbaklnjemcfgaaGreatDoor.Mem Go.Proofs.YtdbaklnjemcfgaaGreatDoor.Sl
set_option linter.unusedVariables false

/-- An address at which a cell is found, lies in a block. -/
theorem plain_addr {w : World} {x : Addr} {v : Value} (h : w.cell? (x.add 0) = some v) : ∃ b off, x = ⟨b, off, none⟩ := by
  obtain ⟨b, off, s⟩ := x
  have e : (⟨b, off, s⟩ : Addr).add 0 = ⟨b, off, s⟩ := rfl
  rw [e] at h
  cases s with
  | none => exact ⟨b, off, rfl⟩
  | some k =>
    unfold World.cell? at h
    split at h <;> simp at h
theorem add_plain (g j k : Nat) : (⟨g, j, none⟩ : Addr).add k = ⟨g, j + k, none⟩ := by unfold Addr.add; split <;> simp_all

theorem rd_ints {H : Type} {enc : TypeId × Value → H} {P : Program} {W : World} {base : Nat} {spare : Nat → Bool} {held : Bool} {t e : TypeId} {k : IntKind} {a : Option Addr} {len cap : Nat} {d : DataW H} {ps : List MemPlace}
    (hu : P.underlying t = some (.slice e)) (he : P.underlying e = some (.int k)) (hc : P.cellsOf e = 1) (h : DataW.Trod enc P W base spare held t (.slice a len cap) d ps) :
    ∃ xs : List Int, Rd (ei k) 1 W (.slice a len cap) xs ∧ xs.length = len ∧ ∀ x ∈ xs, (Lit.int k x).wf = true := by
  obtain ⟨fuel, hf⟩ := h
  rcases open_ints hu he hc hf with ⟨hcs, _⟩ | ⟨x, l, c, zs, hcs, _, hl, hm, hz, _, hcell, hwz⟩
  · simp [Value.cells] at hcs
    obtain ⟨rfl, rfl, rfl⟩ := hcs
    exact ⟨[], Rd.nil .., rfl, by simp⟩
  · simp [Value.cells] at hcs
    obtain ⟨rfl, rfl, rfl⟩ := hcs
    have hlz : len ≤ zs.length := by
      rw [hz]; split
      · exact hl
      · exact Nat.le_refl _
    have htl : (zs.take len).length = len := by rw [List.length_take]; omega
    refine ⟨zs.take len, ⟨some x, cap, by rw [htl], by rw [htl]; exact hl, by rw [htl]; unfold maxLen at hm; omega, fun hp => ?_⟩, htl, fun y hy => hwz y (List.mem_of_mem_take hy)⟩
    rw [htl] at hp
    obtain ⟨b, off, rfl⟩ := plain_addr (hcell 0 (by omega))
    refine ⟨b, off, rfl, ?_, fun i y hy j u hu' => ?_⟩
    · have := World.block_lt_of_cell? W _ (hcell 0 (by omega))
      rw [add_plain] at this
      exact this
    · have hi : i < len := by have := (List.getElem?_eq_some_iff.1 hy).1; omega
      have h1 := hcell i (by omega)
      rw [add_plain] at h1
      have hyz : zs.getD i 0 = y := by
        rw [List.getElem?_take, if_pos hi] at hy
        rw [List.getD_eq_getElem?_getD, hy]; rfl
      rw [hyz] at h1
      cases j with
      | zero =>
        have hu2 : u = .int k y := by simpa [ei] using hu'.symm
        rw [hu2, Nat.mul_one, Nat.add_zero]; exact h1
      | succ j => simp [ei] at hu'
end Go.Proofs.YtdbaklnjemcfgaaGreatDoor.Args
