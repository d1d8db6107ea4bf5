/- Words on what of a world has changed: Chg T w w': all blocks that were there, but those of T, stand as they were. Conditions: none. -/
import Derived.Below
import Derived.Deep.Draws
import Derived.Maps.OwnSet
import Derived.WalkKit
namespace Go.Proofs.YtdbaklnjemcfgaaGreatDoor.Mem
open Go.RowKit
/-- The blocks that were there, but those of T, stand. -/
structure Chg (T : Nat → Prop) (w w' : World) : Prop where
  os : w'.os = w.os
  tape : w'.tape = w.tape
  output : w'.output = w.output
  size : w.heap.size ≤ w'.heap.size
  block : ∀ k, k < w.heap.size → ¬ T k → w'.heap[k]? = w.heap[k]?

variable {T T' : Nat → Prop} {w w1 w2 : World}
theorem Chg.refl (T : Nat → Prop) (w : World) : Chg T w w := ⟨rfl, rfl, rfl, Nat.le_refl _, fun _ _ _ => rfl⟩
theorem Chg.trans (h : Chg T w w1) (k : Chg T' w1 w2) (ht : ∀ b, T' b → T b ∨ w.heap.size ≤ b) : Chg T w w2 :=
  ⟨k.os.trans h.os, k.tape.trans h.tape, k.output.trans h.output, Nat.le_trans h.size k.size, fun b hb hn =>
    (k.block b (Nat.lt_of_lt_of_le hb h.size) (fun h' => (ht b h').elim hn (fun h2 => absurd hb (Nat.not_lt.2 h2)))).trans (h.block b hb hn)⟩
theorem Chg.mono (h : Chg T w w1) (ht : ∀ b, T b → T' b) : Chg T' w w1 := ⟨h.os, h.tape, h.output, h.size, fun b hb hn => h.block b hb (fun x => hn (ht b x))⟩
theorem heap_alloc_new (w : World) (o : Obj) : (w.alloc o).heap[w.heap.size]? = some o := by
  show (w.heap.push o)[w.heap.size]? = _
  simp
theorem heap_alloc_lt (w : World) (o : Obj) {k : Nat} (h : k < w.heap.size) : (w.alloc o).heap[k]? = w.heap[k]? := by
  show (w.heap.push o)[k]? = _
  rw [Array.getElem?_push]
  rw [if_neg (by omega)]
theorem size_alloc (w : World) (o : Obj) : (w.alloc o).heap.size = w.heap.size + 1 := World.size_alloc ..
theorem Chg.alloc (h : Chg T w w1) (o : Obj) : Chg T w (w1.alloc o) :=
  ⟨h.os, h.tape, h.output, by rw [size_alloc]; have := h.size; omega, fun b hb hn => (heap_alloc_lt w1 o (Nat.lt_of_lt_of_le hb h.size)).trans (h.block b hb hn)⟩
theorem Chg.drew (h : Chg T w w1) : Chg T w w1.drew := ⟨h.os, h.tape, h.output, h.size, h.block⟩
theorem Chg.drewN (h : Chg T w w1) (n : Nat) : Chg T w (w1.drewN n) := ⟨h.os, h.tape, h.output, h.size, h.block⟩
theorem heap_setCell_ne (w : World) (p : Addr) (v : Value) {k : Nat} (h : k ≠ p.block) : (w.setCell p v).heap[k]? = w.heap[k]? := Below.heap_setCell _ _ _ _ h
theorem size_setCell (w : World) (p : Addr) (v : Value) : (w.setCell p v).heap.size = w.heap.size := by
  unfold World.setCell; simp
theorem heap_setCell_at (w : World) (b i : Nat) (v : Value) (c : Array Value) (t : TypeId) (f : Nat × Nat) (h : w.heap[b]? = some (.cells c t f)) :
    (w.setCell ⟨b, i, none⟩ v).heap[b]? = some (.cells (c.setIfInBounds i v) t f) := by
  have hb := (Array.getElem?_eq_some_iff.1 h).1
  unfold World.setCell
  simp [Array.getElem?_modify, h]
theorem Chg.setCell (h : Chg T w w1) (p : Addr) (v : Value) (hp : T p.block ∨ w.heap.size ≤ p.block) : Chg T w (w1.setCell p v) :=
  ⟨h.os, h.tape, h.output, by rw [size_setCell]; exact h.size, fun b hb hn => (heap_setCell_ne w1 p v (fun e => hp.elim (fun x => hn (by rw [e]; exact x)) (fun x => by omega))).trans (h.block b hb hn)⟩
theorem Chg.below (h : Chg T w w1) (ht : ∀ b, T b → w.heap.size ≤ b) : Below w.heap.size w w1 := ⟨h.os, h.tape, h.output, h.size, fun b hb => h.block b hb (fun x => by have := ht b x; omega)⟩
theorem Chg.of_below (h : Below w.heap.size w w1) (T : Nat → Prop) : Chg T w w1 := ⟨h.os, h.tape, h.output, h.size, fun b hb _ => h.block b hb⟩
theorem Chg.of_grown {row : Option Nat} (h : w.grownBy w1 row) : Chg (fun b => some b = row) w w1 := ⟨h.os, h.tape, h.output, h.size, fun b hb hn => h.block b hb (fun e => hn e)⟩
theorem Chg.grown {row : Option Nat} (h : Chg T w w1) (k : w1.grownBy w2 row) (ht : ∀ b, row = some b → T b ∨ w.heap.size ≤ b) : Chg T w w2 := h.trans (Chg.of_grown k) (fun b e => ht b e.symm)
theorem Chg.then_below (h : Chg T w w1) (k : Below w1.heap.size w1 w2) : Chg T w w2 := h.trans (Chg.of_below k (fun _ => False)) (fun _ f => f.elim)
theorem Chg.of_turned {b : Nat} (h : w.mapTurned w1 b) : Chg (fun k => k = b) w w1 := by
  obtain ⟨es, clock, es', clock', hb, rfl⟩ := h
  refine ⟨rfl, rfl, rfl, ?_, fun k _ hn => ?_⟩
  · show w.heap.size ≤ (w.heap.setIfInBounds b _).size
    simp
  · show (w.heap.setIfInBounds b _)[k]? = _
    exact Array.getElem?_setIfInBounds_ne (Ne.symm hn)
theorem Chg.heap {o : Option Obj} (h : Chg T w w1) {k : Nat} (hk : w.heap[k]? = o) (hlt : k < w.heap.size) (hn : ¬ T k) : w1.heap[k]? = o := (h.block k hlt hn).trans hk
theorem below_dn {B : Nat} (h : Below B w w1) (n : Nat) : Below B w (w1.drewN n) := ⟨h.os, h.tape, h.output, h.size, h.block⟩
theorem below_d1 {B : Nat} (h : Below B w w1) : Below B w w1.drew := ⟨h.os, h.tape, h.output, h.size, h.block⟩
theorem lt_of_heap {k : Nat} {o : Obj} (h : w.heap[k]? = some o) : k < w.heap.size := (Array.getElem?_eq_some_iff.1 h).1
end Go.Proofs.YtdbaklnjemcfgaaGreatDoor.Mem
