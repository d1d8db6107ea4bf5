/- A region whose order is drawn: all orders do the same (draw_sound). Conditions: drawOk. -/
import Derived.Test.YtdbaklnjemcfgaaGreatDoorDDraw
namespace Go.Proofs.YtdbaklnjemcfgaaGreatDoor.D
open Go.RowKit Go.Proofs.YtdbaklnjemcfgaaGreatDoor.Mem
set_option linter.unusedVariables false
set_option linter.unusedSimpArgs false

/-- Of one operation, those that must stand ahead of it, as bits. -/
def maskOf (acc : List Nat) (o : Oper) : Nat := o.after.toList.foldl (fun s e => if Region.binds .any e then s ||| 2 ^ e.on ||| acc.getD e.on 0 else s) 0
def ancTab (l : List Oper) : List Nat := l.foldl (fun acc o => acc ++ [maskOf acc o]) []
/-- All that may go either way does not meet. -/
def drawOk (ops : Array Oper) : Bool :=
  let t := ancTab ops.toList
  (List.range ops.size).all fun j => match ops[j]? with
    | some y => (y.after.toList.all fun e => !Region.binds .any e || decide (e.on < j)) && (List.range j).all fun i => (t.getD j 0).testBit i || match ops[i]? with
      | some x => freeD ops x y
      | none => true
    | none => true

theorem mask_bit (acc : List Nat) (k : Nat) : ∀ (l : List Edge) (s0 : Nat), (l.foldl (fun s e => if Region.binds .any e then s ||| 2 ^ e.on ||| acc.getD e.on 0 else s) s0).testBit k = true → s0.testBit k = true ∨ ∃ e ∈ l, Region.binds .any e = true ∧ (e.on = k ∨ (acc.getD e.on 0).testBit k = true) := by
  intro l
  induction l with
  | nil => intro s0 h; exact .inl h
  | cons e l ih =>
    intro s0 h
    rw [List.foldl_cons] at h
    rcases ih _ h with h | ⟨e', he', hb, hk⟩
    · split at h
      · rename_i hb
        rw [Nat.testBit_or, Nat.testBit_or, Bool.or_eq_true, Bool.or_eq_true] at h
        rcases h with (h | h) | h
        · exact .inl h
        · refine .inr ⟨e, by simp, hb, .inl ?_⟩
          rw [Nat.testBit_two_pow] at h
          exact of_decide_eq_true h
        · exact .inr ⟨e, by simp, hb, .inr h⟩
      · exact .inl h
    · exact .inr ⟨e', by simp [he'], hb, hk⟩
theorem ancTab_snoc (l : List Oper) (o : Oper) : ancTab (l ++ [o]) = ancTab l ++ [maskOf (ancTab l) o] := by simp [ancTab]
theorem ancTab_len (l : List Oper) : (ancTab l).length = l.length := by
  rw [← List.reverse_reverse l]
  induction l.reverse with
  | nil => rfl
  | cons o r ih => rw [List.reverse_cons, ancTab_snoc]; simp [ih]
theorem ancTab_at (l : List Oper) : ∀ (j : Nat) o, l[j]? = some o → (ancTab l).getD j 0 = maskOf (ancTab (l.take j)) o ∧ ∀ i, i < j → (ancTab (l.take j)).getD i 0 = (ancTab l).getD i 0 := by
  rw [← List.reverse_reverse l]
  induction l.reverse with
  | nil => intro j o h; simp at h
  | cons p r ih =>
    intro j o h
    rw [List.reverse_cons] at h ⊢
    have hl := ancTab_len r.reverse
    by_cases hj : j < r.reverse.length
    · rw [List.getElem?_append_left hj] at h
      obtain ⟨h1, h2⟩ := ih j o h
      have e1 : (r.reverse ++ [p]).take j = r.reverse.take j := List.take_append_of_le_length (by omega)
      rw [e1, ancTab_snoc]
      refine ⟨?_, fun i hi => ?_⟩
      · rw [List.getD_eq_getElem?_getD, List.getElem?_append_left (by omega), ← List.getD_eq_getElem?_getD]; exact h1
      · rw [h2 i hi, List.getD_eq_getElem?_getD, List.getD_eq_getElem?_getD, List.getElem?_append_left (by omega)]
    · have hj' : j = r.reverse.length := by
        have := (List.getElem?_eq_some_iff.1 h).1
        simp only [List.length_append, List.length_singleton] at this
        omega
      subst hj'
      rw [List.getElem?_append_right (Nat.le_refl _)] at h
      simp at h
      subst h
      have e1 : (r.reverse ++ [p]).take r.reverse.length = r.reverse := List.take_left
      rw [e1, ancTab_snoc]
      refine ⟨?_, fun i hi => ?_⟩
      · rw [List.getD_eq_getElem?_getD, List.getElem?_append_right (by omega), hl]; simp
      · rw [List.getD_eq_getElem?_getD, List.getD_eq_getElem?_getD, List.getElem?_append_left (by omega)]

section
variable {P : Program} {w0 w w' : World} {F0 : Facts} {G : Gh} {s s' : St} {nt : Nat} {a : Act} {ops : Array Oper} {Q : Exit → Act → World → Prop}

/-- What stands ahead of what is ready is done. -/
theorem anc_listed (L : Nat → Prop) (hedge : ∀ (j : Nat) o, ops[j]? = some o → ∀ e ∈ o.after, Region.binds .any e = true → e.on < j) (hL : ∀ (j : Nat) o, L j → ops[j]? = some o → ∀ e ∈ o.after, Region.binds .any e = true → L e.on) :
    ∀ (n j : Nat) (k : Nat), j < n → (∀ o, ops[j]? = some o → ∀ e ∈ o.after, Region.binds .any e = true → L e.on) → ((ancTab ops.toList).getD j 0).testBit k = true → L k := by
  intro n
  induction n with
  | zero => intro j k h; omega
  | succ n ih =>
    intro j k hj hr hb
    cases ho : ops[j]? with
    | none =>
      have : ops.size ≤ j := by simpa using ho
      rw [List.getD_eq_getElem?_getD, List.getElem?_eq_none (by rw [ancTab_len]; simpa using this)] at hb
      simp at hb
    | some o =>
      have ho' : ops.toList[j]? = some o := by simpa using ho
      obtain ⟨h1, h2⟩ := ancTab_at ops.toList j o ho'
      rw [h1] at hb
      rcases mask_bit _ k _ 0 hb with hb | ⟨e, he, hbi, hk⟩
      · simp at hb
      · have he' : e ∈ o.after := by simpa using he
        have hlt := hedge j o ho e he' hbi
        have hLe := hr o ho e he' hbi
        rcases hk with hk | hk
        · rw [← hk]; exact hLe
        · rw [h2 e.on hlt] at hk
          exact ih e.on k (by omega) (fun o' ho' => hL e.on o' hLe ho') hk

theorem Re.drew (h : Re P nt w0 F0 s a w) : Re P nt w0 F0 s a { w with drawn := w.drawn + 1 } := by
  obtain ⟨G, hR⟩ := h
  exact ⟨G, hR.size, hR.defers, hR.env, hR.mem.old ⟨rfl, rfl, rfl, Nat.le_refl _, fun _ _ => rfl⟩⟩

theorem pull (hok : dstOk nt ops = true) {i : Nat} {y : Oper} (hy : ops[i]? = some y) (post : List Nat) : ∀ (pre : List Nat) (s : St) (a : Act) (w : World), (∀ k ∈ pre, ∀ x, ops[k]? = some x → freeD ops x y = true) → RunD P ops (pre ++ i :: post) s s' → Re P nt w0 F0 s a w →
    ∃ s1, StepD P ops y s s1 ∧ RunD P ops (pre ++ post) s1 s' := by
  intro pre
  induction pre with
  | nil =>
    intro s a w _ h hR
    simp only [List.nil_append, RunD, hy] at h
    exact h
  | cons k pre ih =>
    intro s a w hfree h hR
    simp only [List.cons_append, RunD] at h ⊢
    cases hk : ops[k]? with
    | none =>
      rw [hk] at h
      obtain ⟨s1, h1, h2⟩ := ih s a w (fun k' hk' => hfree k' (by simp [hk'])) h hR
      exact ⟨s1, h1, h2⟩
    | some x =>
      rw [hk] at h
      obtain ⟨t, h1, h2⟩ := h
      obtain ⟨a', w', hR'⟩ := sat_step hR hok hk h1
      obtain ⟨t1, h3, h4⟩ := ih t a' w' (fun k' hk' => hfree k' (by simp [hk'])) h2 hR'
      obtain ⟨s1, h5, h6⟩ := swap hR (hfree k (by simp) x hk) h1 h3
      exact ⟨s1, h5, t1, h6, h4⟩

def left (listed : Array Bool) (n : Nat) : List Nat := (List.range n).filter fun i => !listed.getD i true

theorem any_sound (hok : dstOk nt ops = true) (hd : drawOk ops = true) (hQ : ∀ a' w', Re P nt w0 F0 s' a' w' → Q .normal a' w') : ∀ (fuel : Nat) (listed : Array Bool) (s : St) (a : Act) (w : World),
    listed.size = ops.size → (left listed ops.size).length ≤ fuel → (∀ (j : Nat) o, listed.getD j false = true → ops[j]? = some o → ∀ e ∈ o.after, Region.binds .any e = true → listed.getD e.on false = true) →
    RunD P ops (left listed ops.size) s s' → Re P nt w0 F0 s a w → wpAny P .any ops Q fuel listed a w := by
  have hedge : ∀ (j : Nat) o, ops[j]? = some o → ∀ e ∈ o.after, Region.binds .any e = true → e.on < j := by
    intro j o ho e he hb
    have hj : j ∈ List.range ops.size := by simpa using (Array.getElem?_eq_some_iff.1 ho).1
    have := List.all_eq_true.1 hd j hj
    rw [ho] at this
    simp only [Bool.and_eq_true] at this
    have := List.all_eq_true.1 this.1 e (by simpa using he)
    simpa [hb] using this
  have hpair : ∀ (i j : Nat) x y, i < j → ops[i]? = some x → ops[j]? = some y → ((ancTab ops.toList).getD j 0).testBit i = true ∨ freeD ops x y = true := by
    intro i j x y hij hx hy
    have hj : j ∈ List.range ops.size := by simpa using (Array.getElem?_eq_some_iff.1 hy).1
    have := List.all_eq_true.1 hd j hj
    rw [hy] at this
    simp only [Bool.and_eq_true] at this
    have := List.all_eq_true.1 this.2 i (by simpa using hij)
    rw [hx] at this
    simpa using this
  have mem_left : ∀ (listed : Array Bool) i, i ∈ left listed ops.size ↔ i < ops.size ∧ listed.getD i true = false := by
    intro listed i; simp [left]
  have finish : ∀ (listed : Array Bool) (s : St) (a : Act) (w : World), listed.size = ops.size → Region.ready .any ops listed = [] → RunD P ops (left listed ops.size) s s' → Re P nt w0 F0 s a w → Q .normal a w := by
    intro listed s a w hls hr h hR
    have hnil : left listed ops.size = [] := by
      cases hl : left listed ops.size with
      | nil => rfl
      | cons i l =>
        exfalso
        -- the first that is left is ready
        have hi : i ∈ left listed ops.size := by rw [hl]; simp
        obtain ⟨hin, hiu⟩ := (mem_left listed i).1 hi
        have hmin : ∀ k, k < i → listed.getD k false = true := by
          intro k hk
          cases hkk : listed.getD k false with
          | true => rfl
          | false =>
            exfalso
            have hkl : k ∈ left listed ops.size := by
              rw [mem_left]
              refine ⟨by omega, ?_⟩
              have hks : k < listed.size := by omega
              rw [Array.getD_eq_getD_getElem?, Array.getElem?_eq_getElem hks] at hkk ⊢
              exact hkk
            have hs : (left listed ops.size).Pairwise (· < ·) := List.pairwise_lt_range.filter _
            rw [hl] at hs hkl
            rcases List.mem_cons.1 hkl with h | h
            · omega
            · have := (List.pairwise_cons.1 hs).1 k h; omega
        have : i ∈ Region.ready .any ops listed := by
          rw [mem_ready]
          refine ⟨hiu, ops[i], Array.getElem?_eq_getElem hin, fun e he hb => hmin _ (hedge i _ (Array.getElem?_eq_getElem hin) e he hb)⟩
        rw [hr] at this
        cases this
    rw [hnil] at h
    simp only [RunD] at h
    subst h
    exact hQ a w hR
  intro fuel
  induction fuel with
  | zero =>
    intro listed s a w hls hle hcl h hR
    have hnil : left listed ops.size = [] := List.eq_nil_of_length_eq_zero (by omega)
    have hr : Region.ready .any ops listed = [] := by
      cases hq : Region.ready .any ops listed with
      | nil => rfl
      | cons i l =>
        exfalso
        have hi : i ∈ Region.ready .any ops listed := by rw [hq]; simp
        obtain ⟨h0, o, ho, _⟩ := mem_ready.1 hi
        have : i ∈ left listed ops.size := (mem_left _ _).2 ⟨(Array.getElem?_eq_some_iff.1 ho).1, h0⟩
        rw [hnil] at this
        cases this
    exact ⟨hr, finish listed s a w hls hr h hR⟩
  | succ fuel ih =>
    intro listed s a w hls hle hcl h hR
    refine ⟨fun hr => finish listed s a w hls hr h hR, fun i hi => ?_⟩
    obtain ⟨h0, y, hy, hall⟩ := mem_ready.1 hi
    have hin : i < ops.size := (Array.getElem?_eq_some_iff.1 hy).1
    have hil : i ∈ left listed ops.size := (mem_left _ _).2 ⟨hin, h0⟩
    obtain ⟨pre, post, hsplit⟩ := List.append_of_mem hil
    have hsort : (left listed ops.size).Pairwise (· < ·) := List.pairwise_lt_range.filter _
    rw [hsplit] at h hsort
    have hpre : ∀ k ∈ pre, k < i := fun k hk => (List.pairwise_append.1 hsort).2.2 k hk i (by simp)
    have hfree : ∀ k ∈ pre, ∀ x, ops[k]? = some x → freeD ops x y = true := by
      intro k hk x hx
      rcases hpair k i x y (hpre k hk) hx hy with hb | hb
      · exfalso
        have := anc_listed (ops := ops) (fun j => listed.getD j false = true) hedge hcl (i + 1) i k (Nat.lt_succ_self _) (fun o ho e he hbi => by rw [hy] at ho; injection ho with ho; subst ho; exact hall e he hbi) hb
        have hkl : k ∈ left listed ops.size := by rw [hsplit]; simp [hk]
        obtain ⟨hks, hku⟩ := (mem_left _ _).1 hkl
        have hks' : k < listed.size := by omega
        rw [Array.getD_eq_getD_getElem?, Array.getElem?_eq_getElem hks'] at this hku
        simp at this hku
        rw [this] at hku
        cases hku
      · exact hb
    obtain ⟨s1, h1, h2⟩ := pull hok hy post pre s a w hfree h hR
    obtain ⟨G, hR⟩ := hR
    have hnew : left (listed.setIfInBounds i true) ops.size = pre ++ post := by
      have hnd : (left listed ops.size).Nodup := (List.nodup_range).filter _
      have e : left (listed.setIfInBounds i true) ops.size = (left listed ops.size).filter (fun j => j != i) := by
        unfold left
        rw [List.filter_filter]
        apply List.filter_congr
        intro j hj
        by_cases hji : j = i
        · subst hji
          have : j < listed.size := by omega
          simp [this]
        · rw [getD_set_ne true (Ne.symm hji)]
          have : (j != i) = true := by simp [hji]
          rw [this, Bool.true_and]
      rw [e, hsplit, List.filter_append, List.filter_cons]
      rw [hsplit] at hnd
      have hn := List.nodup_append.1 hnd
      have hn1 : i ∉ pre := fun hm => hn.2.2 i hm i (by simp) rfl
      have hn2 : i ∉ post := (List.nodup_cons.1 hn.2.1).1
      have f1 : pre.filter (fun j => j != i) = pre := by rw [List.filter_eq_self]; intro j hj; simp; intro e; subst e; exact hn1 hj
      have f2 : post.filter (fun j => j != i) = post := by rw [List.filter_eq_self]; intro j hj; simp; intro e; subst e; exact hn2 hj
      rw [f1, f2]
      simp
    refine stepD_sound hR hok hy h1 fun a' w' hR' => ih _ s1 a' w' (by simp [hls]) ?_ ?_ (by rw [hnew]; exact h2) hR'
    · rw [hnew]
      rw [hsplit] at hle
      simp at hle ⊢
      omega
    · intro j o hj ho e he hb
      by_cases hji : j = i
      · subst hji
        rw [hy] at ho
        injection ho with ho
        subst ho
        exact getD_set_true (hall e he hb)
      · rw [getD_set_ne false (Ne.symm hji)] at hj
        exact getD_set_true (hcl j o hj ho e he hb)

theorem draw_sound (hm : P.follows .mixedOrders = true) (hok : dstOk nt ops = true) (hd : drawOk ops = true) (id : Nat) (h : RunD P ops (List.range ops.size) s s') (hR : Re P nt w0 F0 s a w) (hQ : ∀ a' w', Re P nt w0 F0 s' a' w' → Q .normal a' w') : (Code.region id ops true).wp P Q a w := by
  have hl : left (Array.replicate ops.size false) ops.size = List.range ops.size := by
    unfold left
    rw [List.filter_eq_self]
    intro i hi
    simp at hi
    simp [hi]
  refine wp_region_any hm (any_sound hok hd hQ ops.size _ s a _ (by simp) (by rw [hl]; simp) (fun j o hj => ?_) (by rw [hl]; exact h) hR.drew)
  exfalso
  simp [Array.getElem?_replicate] at hj
  split at hj <;> simp at hj
end
end Go.Proofs.YtdbaklnjemcfgaaGreatDoor.D
