/- Words on slices: what lies in a row of memory (Rd), what a call's own slice holds (Own), and what append does. Conditions: each element takes a fixed number of cells. -/
import Derived.Test.YtdbaklnjemcfgaaGreatDoorMem
import Derived.Maps.AppendAt
import Derived.OwnWalk
import Derived.Laws.OwnMore
import Derived.Deep.Upon
namespace Go.Proofs.YtdbaklnjemcfgaaGreatDoor.Sl
open Go.RowKit Go.Proofs.YtdbaklnjemcfgaaGreatDoor.Mem
set_option linter.unusedVariables false
set_option linter.unusedSimpArgs false

/-- The element at a place. -/
def nth {α : Type} (d : α) (xs : List α) (i : Nat) : α := xs.getD i d
theorem nth_eq {α : Type} (d : α) (xs : List α) (i : Nat) (h : i < xs.length) : nth d xs i = xs[i] := by simp [nth, h]
theorem nth_get {α : Type} (d : α) (xs : List α) (i : Nat) (h : i < xs.length) : xs[i]? = some (nth d xs i) := by rw [nth_eq d xs i h]; simp [h]
theorem take_nth {α : Type} (d : α) (xs : List α) (i : Nat) (h : i < xs.length) : xs.take (i + 1) = xs.take i ++ [nth d xs i] := by rw [nth_eq d xs i h, List.take_succ_eq_append_getElem h]
theorem drop_nth {α : Type} (d : α) (xs : List α) (i : Nat) (h : i < xs.length) : xs.drop i = nth d xs i :: xs.drop (i + 1) := by rw [nth_eq d xs i h, List.drop_eq_getElem_cons h]

/-- A fact that is kept out of the walk's sight. -/
structure Sec (p : Prop) : Prop where mk :: (out : p)

section
variable {α : Type} {enc : α → List Value} {sz : Nat} {w w1 : World} {v : Value} {xs : List α}

/-- Elements that lie in a row: element i's cells from i times sz on. -/
def Rd (enc : α → List Value) (sz : Nat) (w : World) (v : Value) (xs : List α) : Prop :=
  ∃ A c, v = .slice A xs.length c ∧ xs.length ≤ c ∧ xs.length ≤ 9223372036854775807 ∧ (0 < xs.length → ∃ b off, A = some ⟨b, off, none⟩ ∧ b < w.heap.size ∧
    ∀ i x, xs[i]? = some x → ∀ j u, (enc x)[j]? = some u → w.cell? ⟨b, off + i * sz + j, none⟩ = some u)

theorem Rd.below (h : Rd enc sz w v xs) (hb : Below w.heap.size w w1) : Rd enc sz w1 v xs := by
  obtain ⟨A, c, h1, h2, h3, h4⟩ := h
  refine ⟨A, c, h1, h2, h3, fun hp => ?_⟩
  obtain ⟨b, off, e, hlt, hc⟩ := h4 hp
  exact ⟨b, off, e, Nat.lt_of_lt_of_le hlt hb.size, fun i x hx j u hu => (hb.cell (p := ⟨b, off + i * sz + j, none⟩) hlt).trans (hc i x hx j u hu)⟩
theorem Rd.keep {T : Nat → Prop} (h : Rd enc sz w v xs) (hc : Chg T w w1) (hn : ∀ A n c, v = .slice (some A) n c → ¬ T A.block) : Rd enc sz w1 v xs := by
  obtain ⟨A, c, h1, h2, h3, h4⟩ := h
  refine ⟨A, c, h1, h2, h3, fun hp => ?_⟩
  obtain ⟨b, off, e, hlt, hcc⟩ := h4 hp
  refine ⟨b, off, e, Nat.lt_of_lt_of_le hlt hc.size, fun i x hx j u hu => ?_⟩
  have := hcc i x hx j u hu
  have hb := hc.block b hlt (by rw [e] at h1; exact hn _ _ _ h1)
  unfold World.cell? at this ⊢
  simp only [hb]
  exact this
theorem Rd.chg (h : Rd enc sz w v xs) (hc : Chg (fun b => w.heap.size ≤ b) w w1) : Rd enc sz w1 v xs :=
  h.below (hc.below (fun _ h => h))
theorem Rd.nil (enc : α → List Value) (sz : Nat) (w : World) : Rd enc sz w (.slice none 0 0) [] := ⟨none, 0, rfl, Nat.le_refl _, by simp, fun h => by simp at h⟩
/-- A row of at least one. -/
theorem Rd.at_ {A : Option Addr} {n c : Nat} (h : Rd enc sz w (.slice A n c) xs) : n = xs.length ∧ n ≤ c ∧ n ≤ 9223372036854775807 ∧
    (0 < n → ∃ b off, A = some ⟨b, off, none⟩ ∧ b < w.heap.size ∧ ∀ i x, xs[i]? = some x → ∀ j u, (enc x)[j]? = some u → w.cell? ⟨b, off + i * sz + j, none⟩ = some u) := by
  obtain ⟨A', c', h1, h2, h3, h4⟩ := h
  injection h1 with e1 e2 e3
  subst e1 e2 e3
  exact ⟨rfl, h2, h3, h4⟩
theorem Rd.slice (h : Rd enc sz w v xs) : ∃ A c, v = .slice A xs.length c := by
  obtain ⟨A, c, h1, _⟩ := h
  exact ⟨A, c, h1⟩

/-- A slice of the call's own, among the blocks from base on. -/
def Own (enc : α → List Value) (sz : Nat) (e : TypeId) (w : World) (base : Nat) (v : Value) (xs : List α) : Prop :=
  w.ownsRow base e sz v xs.length (xs.flatMap enc) ∧ ∀ x, (enc x).length = sz

theorem Own.nil (e : TypeId) (w : World) (base : Nat) (h : ∀ x, (enc x).length = sz) : Own enc sz e w base (.slice none 0 0) [] := ⟨World.ownsRow_nil .., h⟩
theorem Own.lt {e : TypeId} {base : Nat} (h : Own enc sz e w base v xs) : ∀ k, v.ownBlock = some k → base ≤ k ∧ k < w.heap.size := h.1.lt
theorem Own.keep {e : TypeId} {base : Nat} {T : Nat → Prop} (h : Own enc sz e w base v xs) (hc : Chg T w w1) (hn : ∀ k, v.ownBlock = some k → ¬ T k) : Own enc sz e w1 base v xs := by
  refine ⟨⟨h.1.1, ?_⟩, h.2⟩
  have hlt := h.lt
  rcases h.1.2 with h1 | ⟨g, cap, cur, rfl, hg, hh, r⟩
  · exact .inl h1
  · have := hlt g rfl
    exact .inr ⟨g, cap, cur, rfl, hg, (hc.block g this.2 (hn g rfl)).trans hh, r⟩
theorem Own.alloc {e : TypeId} {base : Nat} (h : Own enc sz e w base v xs) (o : Obj) : Own enc sz e (w.alloc o) base v xs := ⟨h.1.alloc o, h.2⟩
theorem Own.drew {e : TypeId} {base : Nat} (h : Own enc sz e w base v xs) : Own enc sz e w.drew base v xs := h
theorem Own.drewN {e : TypeId} {base : Nat} (h : Own enc sz e w base v xs) (n : Nat) : Own enc sz e (w.drewN n) base v xs := h
theorem Own.lower {e : TypeId} {base base' : Nat} (h : Own enc sz e w base v xs) (hb : base' ≤ base) : Own enc sz e w base' v xs := by
  refine ⟨⟨h.1.1, ?_⟩, h.2⟩
  rcases h.1.2 with h1 | ⟨g, cap, cur, e1, hg, r⟩
  · exact .inl h1
  · exact .inr ⟨g, cap, cur, e1, by omega, r⟩

theorem flat_at (hsz : ∀ x, (enc x).length = sz) : ∀ (xs : List α) (i : Nat) (x : α), xs[i]? = some x → ∀ j u, (enc x)[j]? = some u → (xs.flatMap enc)[i * sz + j]? = some u := by
  intro xs
  induction xs with
  | nil => intro i x h; simp at h
  | cons y ys ih =>
    intro i x h j u hu
    have hj : j < sz := by have := (List.getElem?_eq_some_iff.1 hu).1; rwa [hsz] at this
    rw [List.flatMap_cons]
    cases i with
    | zero =>
      simp at h; subst h
      rw [Nat.zero_mul, Nat.zero_add, List.getElem?_append_left (by rw [hsz]; exact hj)]
      exact hu
    | succ i =>
      simp at h
      have e : (i + 1) * sz + j = (enc y).length + (i * sz + j) := by rw [hsz, Nat.add_mul]; omega
      rw [e, List.getElem?_append_right (by omega), Nat.add_sub_cancel_left]
      exact ih i x h j u hu
theorem flat_length (hsz : ∀ x, (enc x).length = sz) (xs : List α) : (xs.flatMap enc).length = xs.length * sz := by
  induction xs with
  | nil => simp
  | cons y ys ih => rw [List.flatMap_cons, List.length_append, hsz, ih, List.length_cons, Nat.add_mul]; omega

theorem Own.rd {e : TypeId} {base : Nat} (h : Own enc sz e w base v xs) : Rd enc sz w v xs := by
  have hlt := h.lt
  rcases h.1.2 with ⟨rfl, h1⟩ | ⟨g, cap, cur, rfl, hg, hh, hn, hm, hs, ht⟩
  · have : xs = [] := List.eq_nil_of_length_eq_zero h1
    subst this
    exact Rd.nil ..
  · refine ⟨_, cap, rfl, hn, by unfold maxLen at hm; omega, fun _ => ⟨g, 0, rfl, (hlt g rfl).2, fun i x hx j u hu => ?_⟩⟩
    have h1 := flat_at h.2 xs i x hx j u hu
    rw [← ht] at h1
    have h2 : cur.toList[i * sz + j]? = some u := by
      rw [List.getElem?_take] at h1
      split at h1
      · exact h1
      · cases h1
    have h3 : cur[i * sz + j]? = some u := by simpa using h2
    simp [World.cell?, hh, h3]

/-- append(out, x): one element more; it lies in the same row, or in a new one. -/
theorem wpList_push {P : Program} {ops : Array Oper} {rest : List Oper} {o : Oper} {a : Act} {Q : Exit → Act → World → Prop} {W : World} (hgd : o.guard = none) (s x : Operand) (t : TypeId)
    (ho : o.op = .call { callee := .builtin .append, args := #[s, x], argTypes := #[t, t] })
    (base : Nat) (e : TypeId) (z : Value) (bytes : Nat) (ht : P.underlying t = some (.slice e)) (hinfo : (P.info? e).map (fun i => (i.zero, i.size, i.bytes)) = some (some z, sz, bytes))
    (hzs : z.cells.size = sz) (hsz : 0 < sz) (hs : a.eval s = v) (hown : Own enc sz e W base v xs) (y : α) (cs : Array Value) (e' : TypeId)
    (hx : a.eval x = .slice (some ⟨W.heap.size, 0, none⟩) 1 1) (hcs : cs.toList = enc y) (h1 : ∀ u ∈ enc y, u.oneCell' = true)
    (hbytes : (xs.length + 1) * bytes ≤ 140737488355328) (hb0 : 0 < bytes) (hbase : base ≤ W.heap.size)
    (h : ∀ v' w', Own enc sz e w' base v' (xs ++ [y]) → Chg (fun k => some k = v.ownBlock) W w' → (v'.ownBlock = v.ownBlock ∨ ∃ b, v'.ownBlock = some b ∧ W.heap.size ≤ b) → wpList P ops Q rest (a.put o.dst v') w') :
    wpList P ops Q (o :: rest) a (W.alloc (.cells cs e')) := by
  obtain ⟨i, hi, hz0, hz1, hz2⟩ := info_parts hinfo
  have hlen : xs.length + 1 ≤ 140737488355328 := Nat.le_trans (Nat.le_mul_of_pos_right _ hb0) hbytes
  obtain ⟨v', w', hr, h2, h3, h4, h5⟩ := run_append_own_at (P := P) (W.alloc (.cells cs e')) base t o.type e i z sz bytes ht hi hz0 hz1 hz2 hzs hsz v xs.length (xs.flatMap enc) (hown.1.alloc _) ⟨W.heap.size, 0, none⟩ 1 1 (enc y)
    (by rw [hown.2]; omega) (by
      intro j u hu
      rw [← hcs] at hu
      have hu' : cs[j]? = some u := by simpa using hu
      have e0 : (⟨W.heap.size, 0, none⟩ : Addr).add j = ⟨W.heap.size, j, none⟩ := by unfold Addr.add; split <;> simp_all
      rw [e0]
      have hh := heap_alloc_new W (.cells cs e')
      simp only [World.cell?, hh]
      simpa using hu') h1 (by unfold maxLen; omega) hbytes (by rw [size_alloc]; omega)
  refine wpList_plain hgd fun K hK => ?_
  unfold Oper.wp execOp
  simp only [ho, resolve, invoke, builtin, Sem.run_bind, Sem.run_pure, Result.andThen_ok, List.map_toArray, List.map_cons, List.map_nil, hs, hx, hr]
  refine hK _ _ (h v' w' ⟨?_, hown.2⟩ ?_ ?_)
  · rw [List.length_append, List.flatMap_append]
    simpa using h2
  · exact ((Chg.refl _ _).alloc _).trans (Chg.of_grown h3) (fun b hb => .inl hb)
  · rcases h5 with h5 | h5
    · exact .inl h5
    · exact .inr ⟨_, h5, by rw [size_alloc]; omega⟩

/-- append(out, x), as one step of a region that draws its order. -/
theorem step_push {P : Program} {ops : Array Oper} {o : Oper} {a : Act} {K : Act → World → Prop} {Q : Exit → Act → World → Prop} {E : Prop} {W : World} (hgd : o.guard = none) (s x : Operand) (t : TypeId)
    (ho : o.op = .call { callee := .builtin .append, args := #[s, x], argTypes := #[t, t] })
    (base : Nat) (e : TypeId) (z : Value) (bytes : Nat) (ht : P.underlying t = some (.slice e)) (hinfo : (P.info? e).map (fun i => (i.zero, i.size, i.bytes)) = some (some z, sz, bytes))
    (hzs : z.cells.size = sz) (hsz : 0 < sz) (hs : a.eval s = v) (hown : Own enc sz e W base v xs) (y : α) (cs : Array Value) (e' : TypeId)
    (hx : a.eval x = .slice (some ⟨W.heap.size, 0, none⟩) 1 1) (hcs : cs.toList = enc y) (h1 : ∀ u ∈ enc y, u.oneCell' = true)
    (hbytes : (xs.length + 1) * bytes ≤ 140737488355328) (hb0 : 0 < bytes) (hbase : base ≤ W.heap.size)
    (h : ∀ v' w', Own enc sz e w' base v' (xs ++ [y]) → Chg (fun k => some k = v.ownBlock) W w' → (v'.ownBlock = v.ownBlock ∨ ∃ b, v'.ownBlock = some b ∧ W.heap.size ≤ b) → K (a.put o.dst v') w') :
    if Region.wanted o (yielded ops a.tmps) = true then Oper.wp P o a (W.alloc (.cells cs e')) K Q else E := by
  have hwt : Region.wanted o (yielded ops a.tmps) = true := by simp [Region.wanted, hgd]
  rw [if_pos hwt]
  obtain ⟨i, hi, hz0, hz1, hz2⟩ := info_parts hinfo
  have hlen : xs.length + 1 ≤ 140737488355328 := Nat.le_trans (Nat.le_mul_of_pos_right _ hb0) hbytes
  obtain ⟨v', w', hr, h2, h3, h4, h5⟩ := run_append_own_at (P := P) (W.alloc (.cells cs e')) base t o.type e i z sz bytes ht hi hz0 hz1 hz2 hzs hsz v xs.length (xs.flatMap enc) (hown.1.alloc _) ⟨W.heap.size, 0, none⟩ 1 1 (enc y)
    (by rw [hown.2]; omega) (by
      intro j u hu
      rw [← hcs] at hu
      have hu' : cs[j]? = some u := by simpa using hu
      have e0 : (⟨W.heap.size, 0, none⟩ : Addr).add j = ⟨W.heap.size, j, none⟩ := by unfold Addr.add; split <;> simp_all
      rw [e0]
      have hh := heap_alloc_new W (.cells cs e')
      simp only [World.cell?, hh]
      simpa using hu') h1 (by unfold maxLen; omega) hbytes (by rw [size_alloc]; omega)
  unfold Oper.wp execOp
  simp only [ho, resolve, invoke, builtin, Sem.run_bind, Sem.run_pure, Result.andThen_ok, List.map_toArray, List.map_cons, List.map_nil, hs, hx, hr]
  refine h v' w' ⟨?_, hown.2⟩ ?_ ?_
  · rw [List.length_append, List.flatMap_append]
    simpa using h2
  · exact ((Chg.refl _ _).alloc _).trans (Chg.of_grown h3) (fun b hb => .inl hb)
  · rcases h5 with h5 | h5
    · exact .inl h5
    · exact .inr ⟨_, h5, by rw [size_alloc]; omega⟩

theorem flat_get (hsz : ∀ x, (enc x).length = sz) : ∀ (xs : List α) (j : Nat) (u : Value), (xs.flatMap enc)[j]? = some u → ∃ i x j', xs[i]? = some x ∧ (enc x)[j']? = some u ∧ j = i * sz + j' := by
  intro xs
  induction xs with
  | nil => intro j u h; simp at h
  | cons y ys ih =>
    intro j u h
    rw [List.flatMap_cons] at h
    by_cases hj : j < (enc y).length
    · rw [List.getElem?_append_left hj] at h
      exact ⟨0, y, j, rfl, h, by simp⟩
    · rw [List.getElem?_append_right (by omega)] at h
      obtain ⟨i, x, j', h1, h2, h3⟩ := ih _ _ h
      refine ⟨i + 1, x, j', h1, h2, ?_⟩
      rw [hsz] at h3 hj
      rw [Nat.add_mul]; omega
/-- append(out, xs...): all elements of another slice more. -/
theorem run_app {P : Program} {W : World} (t ty : TypeId) (base : Nat) (e : TypeId) (z : Value) (bytes : Nat) (ht : P.underlying t = some (.slice e)) (hinfo : (P.info? e).map (fun i => (i.zero, i.size, i.bytes)) = some (some z, sz, bytes))
    (hzs : z.cells.size = sz) (hsz : 0 < sz) (hown : Own enc sz e W base v xs) (u : Value) (ys : List α) (hu : Rd enc sz W u ys) (h1 : ∀ y, ∀ c ∈ enc y, c.oneCell' = true)
    (hbytes : (xs.length + ys.length) * bytes ≤ 140737488355328) (hb0 : 0 < bytes) (hbase : base ≤ W.heap.size) :
    ∃ v' w', (Builtin.append_ #[t, t] ty #[v, u]).run P W = .ok v' w' ∧ Own enc sz e w' base v' (xs ++ ys) ∧ Chg (fun k => some k = v.ownBlock) W w' ∧ (v'.ownBlock = v.ownBlock ∨ ∃ b, v'.ownBlock = some b ∧ W.heap.size ≤ b) := by
  obtain ⟨i, hi, hz0, hz1, hz2⟩ := info_parts hinfo
  have hlen : xs.length + ys.length ≤ 140737488355328 := Nat.le_trans (Nat.le_mul_of_pos_right _ hb0) hbytes
  obtain ⟨A, c, rfl, hc1, hc2, hc3⟩ := hu
  have some_case : ∀ ad : Addr, (∀ j w, (ys.flatMap enc)[j]? = some w → W.cell? (ad.add j) = some w) → ∃ v' w', (Builtin.append_ #[t, t] ty #[v, .slice (some ad) ys.length c]).run P W = .ok v' w' ∧ Own enc sz e w' base v' (xs ++ ys) ∧ Chg (fun k => some k = v.ownBlock) W w' ∧ (v'.ownBlock = v.ownBlock ∨ ∃ b, v'.ownBlock = some b ∧ W.heap.size ≤ b) := by
    intro ad had
    obtain ⟨v', w', hr, h2, h3, h4, h5⟩ := run_append_own_at (P := P) W base t ty e i z sz bytes ht hi hz0 hz1 hz2 hzs hsz v xs.length (xs.flatMap enc) hown.1 ad ys.length c (ys.flatMap enc)
      (flat_length hown.2 ys) had (fun w hw => by obtain ⟨y, _, hy⟩ := List.mem_flatMap.1 hw; exact h1 y w hy) (by unfold maxLen; omega) hbytes hbase
    refine ⟨v', w', hr, ⟨?_, hown.2⟩, Chg.of_grown h3, ?_⟩
    · rw [List.length_append, List.flatMap_append]; exact h2
    · rcases h5 with h5 | h5
      · exact .inl h5
      · exact .inr ⟨_, h5, Nat.le_refl _⟩
  cases ys with
  | nil =>
    cases A with
    | some ad => exact some_case ad (fun j w hw => by simp at hw)
    | none =>
      have hsl : ∃ B n k, v = .slice B n k ∧ n ≤ k := by
        rcases hown.1.2 with ⟨e1, _⟩ | ⟨g, cap, cur, e1, _, _, hn, _⟩
        · exact ⟨_, _, _, e1, Nat.le_refl _⟩
        · exact ⟨_, _, _, e1, hn⟩
      obtain ⟨B, n, k, rfl, hnk⟩ := hsl
      refine ⟨_, _, run_append_nothing W t t ty e i ht hi B n k hnk _ (Src.ofNil W ht c), ?_, Chg.refl _ _, .inl rfl⟩
      rw [List.append_nil]; exact hown
  | cons y ys =>
    obtain ⟨b, off, rfl, hbl, hcell⟩ := hc3 (by simp)
    refine some_case _ (fun j w hw => ?_)
    obtain ⟨i', x, j', g1, g2, g3⟩ := flat_get hown.2 _ j w hw
    have e0 : (⟨b, off, none⟩ : Addr).add j = ⟨b, off + j, none⟩ := by unfold Addr.add; split <;> simp_all
    rw [e0, g3, ← Nat.add_assoc]
    exact hcell i' x g1 j' w g2
theorem wpList_app {P : Program} {ops : Array Oper} {rest : List Oper} {o : Oper} {a : Act} {Q : Exit → Act → World → Prop} {W : World} (hgd : o.guard = none) (s x : Operand) (t : TypeId)
    (ho : o.op = .call { callee := .builtin .append, args := #[s, x], argTypes := #[t, t] })
    (base : Nat) (e : TypeId) (z : Value) (bytes : Nat) (ht : P.underlying t = some (.slice e)) (hinfo : (P.info? e).map (fun i => (i.zero, i.size, i.bytes)) = some (some z, sz, bytes))
    (hzs : z.cells.size = sz) (hsz : 0 < sz) (hs : a.eval s = v) (hown : Own enc sz e W base v xs) (u : Value) (ys : List α) (hx : a.eval x = u) (hu : Rd enc sz W u ys) (h1 : ∀ y, ∀ c ∈ enc y, c.oneCell' = true)
    (hbytes : (xs.length + ys.length) * bytes ≤ 140737488355328) (hb0 : 0 < bytes) (hbase : base ≤ W.heap.size)
    (h : ∀ v' w', Own enc sz e w' base v' (xs ++ ys) → Chg (fun k => some k = v.ownBlock) W w' → (v'.ownBlock = v.ownBlock ∨ ∃ b, v'.ownBlock = some b ∧ W.heap.size ≤ b) → wpList P ops Q rest (a.put o.dst v') w') :
    wpList P ops Q (o :: rest) a W := by
  obtain ⟨v', w', hr, h2, h3, h4⟩ := run_app t o.type base e z bytes ht hinfo hzs hsz hown u ys hu h1 hbytes hb0 hbase
  refine wpList_plain hgd fun K hK => ?_
  unfold Oper.wp execOp
  simp only [ho, resolve, invoke, builtin, Sem.run_bind, Sem.run_pure, Result.andThen_ok, List.map_toArray, List.map_cons, List.map_nil, hs, hx, hr]
  exact hK _ _ (h v' w' h2 h3 h4)
theorem step_app {P : Program} {ops : Array Oper} {o : Oper} {a : Act} {K : Act → World → Prop} {Q : Exit → Act → World → Prop} {E : Prop} {W : World} (hgd : o.guard = none) (s x : Operand) (t : TypeId)
    (ho : o.op = .call { callee := .builtin .append, args := #[s, x], argTypes := #[t, t] })
    (base : Nat) (e : TypeId) (z : Value) (bytes : Nat) (ht : P.underlying t = some (.slice e)) (hinfo : (P.info? e).map (fun i => (i.zero, i.size, i.bytes)) = some (some z, sz, bytes))
    (hzs : z.cells.size = sz) (hsz : 0 < sz) (hs : a.eval s = v) (hown : Own enc sz e W base v xs) (u : Value) (ys : List α) (hx : a.eval x = u) (hu : Rd enc sz W u ys) (h1 : ∀ y, ∀ c ∈ enc y, c.oneCell' = true)
    (hbytes : (xs.length + ys.length) * bytes ≤ 140737488355328) (hb0 : 0 < bytes) (hbase : base ≤ W.heap.size)
    (h : ∀ v' w', Own enc sz e w' base v' (xs ++ ys) → Chg (fun k => some k = v.ownBlock) W w' → (v'.ownBlock = v.ownBlock ∨ ∃ b, v'.ownBlock = some b ∧ W.heap.size ≤ b) → K (a.put o.dst v') w') :
    if Region.wanted o (yielded ops a.tmps) = true then Oper.wp P o a W K Q else E := by
  have hwt : Region.wanted o (yielded ops a.tmps) = true := by simp [Region.wanted, hgd]
  rw [if_pos hwt]
  obtain ⟨v', w', hr, h2, h3, h4⟩ := run_app t o.type base e z bytes ht hinfo hzs hsz hown u ys hu h1 hbytes hb0 hbase
  unfold Oper.wp execOp
  simp only [ho, resolve, invoke, builtin, Sem.run_bind, Sem.run_pure, Result.andThen_ok, List.map_toArray, List.map_cons, List.map_nil, hs, hx, hr]
  exact h v' w' h2 h3 h4
/-- A front part, and a back part, of a row. -/
theorem Rd.take {A : Option Addr} {n c : Nat} (h : Rd enc sz w (.slice A n c) xs) (k : Nat) (hk : k ≤ n) : Rd enc sz w (.slice A k c) (xs.take k) := by
  obtain ⟨h1, h2, h3, h4⟩ := h.at_
  have hl : (xs.take k).length = k := by rw [List.length_take]; omega
  refine ⟨A, c, by rw [hl], by omega, by omega, fun hp => ?_⟩
  obtain ⟨b, off, e, hb, hc⟩ := h4 (by omega)
  refine ⟨b, off, e, hb, fun i x hx j u hu => hc i x ?_ j u hu⟩
  rw [List.getElem?_take] at hx
  split at hx
  · exact hx
  · cases hx
theorem Rd.drop {b off n c k c' : Nat} {A : Option Addr} (h : Rd enc sz w (.slice (some ⟨b, off, none⟩) n c) xs) (hk : k ≤ n) (hA : k < n → A = some ⟨b, off + k * sz, none⟩) (hc' : n - k ≤ c') : Rd enc sz w (.slice A (n - k) c') (xs.drop k) := by
  obtain ⟨h1, h2, h3, h4⟩ := h.at_
  have hl : (xs.drop k).length = n - k := by rw [List.length_drop, ← h1]
  refine ⟨A, c', by rw [hl], by rw [hl]; exact hc', by rw [hl]; exact Nat.le_trans (Nat.sub_le _ _) h3, fun hp => ?_⟩
  rw [hl] at hp
  have hkn : k < n := Nat.lt_of_sub_pos hp
  obtain ⟨b', off', e, hb, hc⟩ := h4 (Nat.lt_of_le_of_lt (Nat.zero_le _) hkn)
  injection e with e
  injection e with e1 e2 _
  subst e1 e2
  refine ⟨b, off + k * sz, hA hkn, hb, fun i x hx j u hu => ?_⟩
  rw [List.getElem?_drop] at hx
  have := hc (k + i) x hx j u hu
  rw [Nat.add_mul, ← Nat.add_assoc] at this
  exact this

/-- A literal of elements. -/
theorem Own.lit (e : TypeId) (W : World) (base : Nat) (cs : Array Value) (xs : List α) (n : Nat) (hsz : ∀ x, (enc x).length = sz) (hcs : cs.toList = xs.flatMap enc) (hn : xs.length = n) (hb : base ≤ W.heap.size) (hm : n ≤ 9223372036854775807) :
    Own enc sz e (W.alloc (.cells cs e)) base (.slice (some ⟨W.heap.size, 0, none⟩) n n) xs := by
  subst hn
  have hl := flat_length hsz xs
  refine ⟨⟨hl, .inr ⟨W.heap.size, xs.length, cs, rfl, hb, heap_alloc_new _ _, Nat.le_refl _, by unfold maxLen; omega, ?_, ?_⟩⟩, hsz⟩
  · rw [← hl, ← hcs]; simp
  · rw [hcs, ← hl, List.take_length]

theorem Own.litAt (e : TypeId) (W : World) (B : Nat) (base : Nat) (cs : Array Value) (xs : List α) (n : Nat) (hB : B = W.heap.size) (hsz : ∀ x, (enc x).length = sz) (hcs : cs.toList = xs.flatMap enc) (hn : xs.length = n) (hb : base ≤ W.heap.size) (hm : n ≤ 9223372036854775807) :
    Own enc sz e (W.alloc (.cells cs e)) base (.slice (some ⟨B, 0, none⟩) n n) xs := by
  subst hB
  exact Own.lit e W base cs xs n hsz hcs hn hb hm

/-- A store of one cell into element i of a slice of one-cell elements. -/
theorem Own.set {e : TypeId} {base g cap n : Nat} (enc1 : α → Value) (h : Own (fun x => [enc1 x]) 1 e w base (.slice (some ⟨g, 0, none⟩) n cap) xs) (i : Nat) (x : α) :
    Own (fun x => [enc1 x]) 1 e (w.setCell ⟨g, i, none⟩ (enc1 x)) base (.slice (some ⟨g, 0, none⟩) n cap) (xs.set i x) := by
  refine ⟨⟨by rw [flat_length h.2], ?_⟩, h.2⟩
  rcases h.1.2 with ⟨h1, _⟩ | ⟨g', cap', cur, h1, hg, hh, hn, hm, hs, ht⟩
  · injection h1 with e1 e2 e3; cases e1
  · injection h1 with e1 e2 e3
    injection e1 with e1
    injection e1 with e1 _
    subst e1 e3
    refine .inr ⟨g, cap, _, ?_, hg, heap_setCell_at w g i (enc1 x) cur e (0, 0) hh, by rw [List.length_set]; exact hn, hm, by simpa using hs, ?_⟩
    · rw [List.length_set, ← e2]
    · rw [Nat.mul_one] at ht ⊢
      rw [List.length_set, Array.toList_setIfInBounds, List.take_set, ht]
      clear ht hs hn hm hh e2 h
      induction xs generalizing i with
      | nil => simp
      | cons y ys ih =>
        cases i with
        | zero => simp
        | succ i => simp [ih i]
/-- make([]T, n), elements of one cell. -/
theorem wpList_mk1 {P : Program} {ops : Array Oper} {rest : List Oper} {o : Oper} {a : Act} {Q : Exit → Act → World → Prop} {W : World} (enc1 : α → Value) (x0 : α) (hg : o.guard = none) (l c : Operand) (t : TypeId) (hop : o.op = Op.makeSlice t l c)
    (base : Nat) (e : TypeId) (bytes : Nat) (ht : P.underlying t = some (.slice e)) (hinfo : (P.info? e).map (fun i => (i.zero, i.size, i.bytes)) = some (some (enc1 x0), 1, bytes)) (hz : (enc1 x0).cells = #[enc1 x0])
    (n : Nat) (hl : a.eval l = .int .i64 (n : Int)) (hc : a.eval c = .int .i64 (n : Int)) (b2 : bytes * n ≤ 281474976710656) (b3 : n ≤ 9223372036854775807) (b4 : base ≤ W.heap.size)
    (hK : ∀ w', Own (fun x => [enc1 x]) 1 e w' base (.slice (some ⟨W.heap.size, 0, none⟩) n n) (List.replicate n x0) → Below W.heap.size W w' → wpList P ops Q rest (a.put o.dst (.slice (some ⟨W.heap.size, 0, none⟩) n n)) w') :
    wpList P ops Q (o :: rest) a W := by
  obtain ⟨i, hi, hz0, hz1, hz2⟩ := info_parts hinfo
  refine wpList_make_full W hg l c t hop base e i (enc1 x0) 1 ht hi hz0 hz1 .i64 .i64 n n n hl hc rfl rfl (by rw [hz2]; exact b2) (by unfold maxLen; omega) b4 ?_
  intro w' h1 h2
  refine hK w' ⟨?_, fun _ => rfl⟩ ⟨h2.os, h2.tape, h2.output, h2.size, fun k hk => h2.block k hk (by simp)⟩
  rw [hz, Nat.mul_one, toList_madeCells_one] at h1
  rw [List.length_replicate]
  have : (List.replicate n x0).flatMap (fun x => [enc1 x]) = List.replicate n (enc1 x0) := by
    clear h1 hK hl hc b2 b3
    induction n with
    | zero => rfl
    | succ n ih => rw [List.replicate_succ, List.flatMap_cons, ih, List.replicate_succ]; rfl
  rw [this]
  exact h1

theorem Own.row {e : TypeId} {base : Nat} (h : Own enc sz e w base v xs) (hp : 0 < xs.length) : ∃ g cap, v = .slice (some ⟨g, 0, none⟩) xs.length cap ∧ base ≤ g ∧ g < w.heap.size ∧ xs.length ≤ cap ∧ (∀ j, w.frozen? ⟨g, j, none⟩ = false) ∧
    ∀ i x, xs[i]? = some x → ∀ j u, (enc x)[j]? = some u → w.cell? ⟨g, i * sz + j, none⟩ = some u := by
  have hlt := h.lt
  have hrd := h.rd
  rcases h.1.2 with ⟨rfl, h1⟩ | ⟨g, cap, cur, rfl, hg, hh, hn, hm, hs, ht⟩
  · omega
  · refine ⟨g, cap, rfl, hg, (hlt g rfl).2, hn, fun j => by simp [World.frozen?, hh], ?_⟩
    obtain ⟨_, _, _, h4⟩ := hrd.at_
    obtain ⟨b, off, e1, _, h5⟩ := h4 hp
    injection e1 with e1
    injection e1 with e1 e2 _
    subst e1 e2
    intro i x hx j u hu
    have := h5 i x hx j u hu
    rwa [Nat.zero_add] at this
theorem Own.rowN {e : TypeId} {base n : Nat} (h : Own enc sz e w base v xs) (hn : xs.length = n) (hp : 0 < n) : ∃ g cap, v = .slice (some ⟨g, 0, none⟩) n cap ∧ base ≤ g ∧ g < w.heap.size ∧ n ≤ cap ∧ (∀ j, w.frozen? ⟨g, j, none⟩ = false) ∧
    ∀ i x, xs[i]? = some x → ∀ j u, (enc x)[j]? = some u → w.cell? ⟨g, i * sz + j, none⟩ = some u := by
  subst hn
  exact h.row hp
end
/-- Numbers. -/
def ei (k : IntKind) (x : Int) : List Value := [.int k x]
theorem ei_len (k : IntKind) (x : Int) : (ei k x).length = 1 := rfl
theorem ei_one (k : IntKind) (x : Int) : ∀ u ∈ ei k x, u.oneCell' = true := by intro u hu; simp [ei] at hu; subst hu; rfl
theorem Rd.int {k : IntKind} {w : World} {A : Option Addr} {n c : Nat} {xs : List Int} (h : Rd (ei k) 1 w (.slice A n c) xs) (i : Nat) (hi : i < n) : ∃ b off, A = some ⟨b, off, none⟩ ∧ b < w.heap.size ∧ w.cell? ⟨b, off + i, none⟩ = some (.int k (nth 0 xs i)) := by
  obtain ⟨h1, _, _, h4⟩ := h.at_
  obtain ⟨b, off, e, hlt, hc⟩ := h4 (by omega)
  have := hc i _ (nth_get 0 xs i (by omega)) 0 _ rfl
  exact ⟨b, off, e, hlt, by simpa using this⟩
end Go.Proofs.YtdbaklnjemcfgaaGreatDoor.Sl
