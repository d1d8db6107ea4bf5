/- How plain data lies in memory (Real), and what memory's changes leave of it. Conditions: none. -/
import Derived.Test.YtdbaklnjemcfgaaGreatDoorDOps
namespace Go.Proofs.YtdbaklnjemcfgaaGreatDoor.D
open Go.RowKit Go.Proofs.YtdbaklnjemcfgaaGreatDoor.Mem
set_option linter.unusedVariables false
set_option linter.unusedSimpArgs false

/-- How a slice that may grow lies in memory. -/
def TipOk (base : Nat) (F : Facts) (w : World) (e : TypeId) (sz : Nat) (u : Value) : Prop :=
  u = .slice none 0 0 ∨ ∃ b n c cur, u = .slice (some ⟨b, 0, none⟩) n c ∧ base ≤ b ∧ w.heap[b]? = some (.cells cur e (0, 0)) ∧ n ≤ c ∧ c ≤ maxLen ∧ cur.size = c * sz ∧ ∀ o x, n * sz ≤ o → ¬ F b o x

/-- A map's entry as data. -/
def ent (e : MapEntry) : DV := .tup [lit e.key, lit e.val]

structure WI (P : Program) (w0 : World) (F0 : Facts) (G : Gh) (s : St) (w : World) : Prop where
  below : Below w0.heap.size w0 w
  facts : G.F.ok w
  f0 : F0.sub G.F
  fnew : ∀ b o x, G.F b o x → F0 b o x ∨ w0.heap.size ≤ b
  box : ∀ k b, G.box k = some b → ∃ cells cs t, s.heap k = some cells ∧ w0.heap.size ≤ b ∧ w.heap[b]? = some (.cells cs t (0, 0)) ∧ RC G cs.toList cells ∧ ∀ o x, ¬ G.F b o x
  hbox : ∀ k cells, s.heap k = some cells → (∃ b, G.box k = some b) ∨ ∃ b, G.mp k = some b
  mp : ∀ k b, G.mp k = some b → G.box k = none ∧ w0.heap.size ≤ b ∧ ∃ es clk, s.heap k = some [.tup (es.toList.map ent)] ∧ w.heap[b]? = some (.map es clk)
  mp2 : ∀ k k' b, G.mp k = some b → G.mp k' = some b → k = k'
  tip : ∀ k v e u, G.tip k = some (v, e, u) → s.tip k = some (v, e) ∧ TipOk w0.heap.size G.F w e (P.cellsOf e) u
  htip : ∀ k v e, s.tip k = some (v, e) → ∃ u, G.tip k = some (v, e, u)
  box2 : ∀ k k' b, G.box k = some b → G.box k' = some b → k = k'
  tip2 : ∀ k k' v e u v' e' u' b, G.tip k = some (v, e, u) → G.tip k' = some (v', e', u') → u.ownBlock = some b → u'.ownBlock = some b → k = k'
  boxtip : ∀ k k' b v e u, G.box k = some b → G.tip k' = some (v, e, u) → u.ownBlock ≠ some b
  fresh : ∀ k : Key, s.gen k.1 ≤ k.2 → G.box k = none ∧ G.tip k = none ∧ G.mp k = none
  base : BaseOk F0 w0

section
variable {P : Program} {w0 w w' : World} {F0 : Facts} {G : Gh} {s : St}

theorem Facts.lt {F : Facts} (h : F.ok w) {b o : Nat} {x : Value} (hx : F b o x) : b < w.heap.size := by
  have := h b o x hx
  unfold World.cell? at this
  split at this
  · rename_i hq; exact lt_of_heap hq
  · cases this
theorem Facts.ok_below {F : Facts} (h : F.ok w) (hb : Below w.heap.size w w') : F.ok w' := fun b o x hx => (hb.cell (p := ⟨b, o, none⟩) (Facts.lt h hx)).trans (h b o x hx)
theorem WI.box_lt (h : WI P w0 F0 G s w) {k b} (hb : G.box k = some b) : b < w.heap.size := by
  obtain ⟨_, _, _, _, _, hh, _⟩ := h.box k b hb
  exact lt_of_heap hh
theorem WI.tip_lt (h : WI P w0 F0 G s w) {k v e u b} (ht : G.tip k = some (v, e, u)) (hb : u.ownBlock = some b) : b < w.heap.size := by
  rcases (h.tip k v e u ht).2 with rfl | ⟨b', n, c, cur, rfl, _, hh, _⟩
  · simp [Value.ownBlock] at hb
  · simp [Value.ownBlock] at hb; subst hb; exact lt_of_heap hh
theorem TipOk.of_heap {base : Nat} {F : Facts} {e : TypeId} {sz : Nat} {u : Value} (h : TipOk base F w e sz u) (hh : ∀ b, u.ownBlock = some b → w'.heap[b]? = w.heap[b]?) : TipOk base F w' e sz u := by
  rcases h with rfl | ⟨b, n, c, cur, rfl, h1, h2, h3⟩
  · exact .inl rfl
  · exact .inr ⟨b, n, c, cur, rfl, h1, (hh b rfl).trans h2, h3⟩

/-- Nothing that was there has changed. -/
theorem WI.old (h : WI P w0 F0 G s w) (hb : Below w.heap.size w w') : WI P w0 F0 G s w' where
  below := h.below.trans (hb.mono h.below.size)
  base := h.base
  facts := Facts.ok_below h.facts hb
  f0 := h.f0
  fnew := h.fnew
  box := fun k b hk => by
    obtain ⟨cells, cs, t, h1, h2, h3, h4⟩ := h.box k b hk
    exact ⟨cells, cs, t, h1, h2, (hb.block b (lt_of_heap h3)).trans h3, h4⟩
  hbox := h.hbox
  mp := fun k b hk => by
    obtain ⟨h0, h1, es, clk, h2, h3⟩ := h.mp k b hk
    exact ⟨h0, h1, es, clk, h2, (hb.block b (lt_of_heap h3)).trans h3⟩
  mp2 := h.mp2
  tip := fun k v e u hk => ⟨(h.tip k v e u hk).1, (h.tip k v e u hk).2.of_heap fun b hb' => hb.block b (h.tip_lt hk hb')⟩
  htip := h.htip
  box2 := h.box2
  tip2 := h.tip2
  boxtip := h.boxtip
  fresh := h.fresh
end
end Go.Proofs.YtdbaklnjemcfgaaGreatDoor.D
