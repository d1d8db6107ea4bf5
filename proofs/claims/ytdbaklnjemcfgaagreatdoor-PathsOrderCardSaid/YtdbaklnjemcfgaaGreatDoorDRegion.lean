/- A region's operations on plain data, in whatever order the model draws. Conditions: what may go either way is told by drawOk. -/
import Derived.Test.YtdbaklnjemcfgaaGreatDoorDStep3
namespace Go.Proofs.YtdbaklnjemcfgaaGreatDoor.D
open Go.RowKit Go.Proofs.YtdbaklnjemcfgaaGreatDoor.Mem
set_option linter.unusedVariables false
set_option linter.unusedSimpArgs false

/-- All slots that a region's operations write are there. -/
def dstOk (nt : Nat) (ops : Array Oper) : Bool := ops.all fun o => match o.dst with | some d => decide (d < nt) | none => true

section
variable {P : Program} {w0 w w' : World} {F0 : Facts} {G : Gh} {s s' : St} {nt : Nat} {a : Act} {ops : Array Oper} {Q : Exit → Act → World → Prop}

theorem dst_lt (h : dstOk nt ops = true) {j : Nat} {o : Oper} (ho : ops[j]? = some o) : ∀ d, o.dst = some d → d < nt := by
  intro d hd
  have := Array.all_eq_true_iff_forall_mem.1 h o (Array.mem_of_getElem? ho)
  simpa [hd] using this

theorem wanted_sound (hR : Real P nt w0 F0 G s a w) (hok : dstOk nt ops = true) (o : Oper) {b : Bool} (h : wantedD ops s o = some b) : Region.wanted o (yielded ops a.tmps) = b := by
  unfold wantedD at h
  unfold Region.wanted
  split at h
  · rename_i hg
    rw [hg]
    injection h
  · rename_i j want hg
    rw [hg]
    simp only
    cases hj : ops[j]? with
    | none => rw [hj] at h; simp at h; subst h; simp [yielded, hj]
    | some oj =>
      cases hd : oj.dst with
      | none => rw [hj] at h; simp [hd] at h; subst h; simp [yielded, hj, hd]
      | some t =>
        rw [hj] at h
        simp only [Option.bind_some, hd] at h
        have hlt : t < a.tmps.size := by rw [hR.size]; exact dst_lt hok hj t hd
        have hv := hR.env t
        rw [Array.getD_eq_getD_getElem?, Array.getElem?_eq_getElem hlt, Option.getD_some] at hv
        simp only [yielded, hj, Option.bind_some, hd, Array.getElem?_eq_getElem hlt]
        split at h
        · rename_i b' he
          rw [he] at hv
          rw [hv.raw]
          injection h with h
        · rename_i v' hnb he
          rw [he] at hv
          rw [hv.raw]
          injection h with h
          subst h
          cases v' <;> first | rfl | (exfalso; exact hnb _ rfl)
        · cases h

/-- One operation, guard and all. -/
theorem stepD_sound (hR : Real P nt w0 F0 G s a w) (hok : dstOk nt ops = true) {j : Nat} {o : Oper} (ho : ops[j]? = some o) (hs : StepD P ops o s s') {K : Act → World → Prop} (hK : ∀ a' w', Re P nt w0 F0 s' a' w' → K a' w') :
    wpOp P ops Q j K a w := by
  unfold wpOp
  rw [ho]
  simp only
  unfold StepD at hs
  split at hs
  · rename_i hw
    rw [wanted_sound hR hok o hw]
    exact .inl (step_sound hR (dst_lt hok ho) hs hK)
  · rename_i hw
    rw [wanted_sound hR hok o hw]
    subst hs
    exact hK _ _ ⟨G, hR.putV (Gh.le_refl _) hR.mem o.dst (dst_lt hok ho) _ undef (raw_rv _ rfl)⟩
  · exact hs.elim

/-- What is weakest is there. -/
theorem wp_ex {o : Oper} {K : Act → World → Prop} (h : o.wp P a w K (fun _ _ _ => False)) : ∃ a' w', K a' w' := by
  unfold Oper.wp at h
  generalize (execOp a.eval o).run P w = r at h
  cases r with
  | ok n w' =>
    cases n <;> simp only [Oper.upon] at h
    case value v => exact ⟨_, _, h⟩
    case skip => exact ⟨_, _, h⟩
    case defer d => exact ⟨_, _, h⟩
    case enter f args =>
      obtain ⟨e, w'', fr, hR, _⟩ := h []
      cases e with
      | returned v => exact ⟨_, _, hR⟩
      | panicked c => exact hR.elim
      | outgrown => obtain ⟨_, _, hf⟩ := hR; exact hf.elim
    case row row args =>
      obtain ⟨v, w'', hR, _⟩ := h default []
      exact ⟨_, _, hR⟩
  | halt x w' => cases x <;> simp only [Oper.upon] at h

theorem sat_step (hR : Re P nt w0 F0 s a w) (hok : dstOk nt ops = true) {j : Nat} {o : Oper} (ho : ops[j]? = some o) (hs : StepD P ops o s s') : ∃ a' w', Re P nt w0 F0 s' a' w' := by
  obtain ⟨G, hR⟩ := hR
  unfold StepD at hs
  split at hs
  · exact wp_ex (step_sound hR (dst_lt hok ho) hs (K := fun a' w' => Re P nt w0 F0 s' a' w') (fun _ _ h => h))
  · subst hs
    exact ⟨_, _, G, hR.putV (Gh.le_refl _) hR.mem o.dst (dst_lt hok ho) _ undef (raw_rv _ rfl)⟩
  · exact hs.elim

/-- Operations one behind the other. -/
def RunD (P : Program) (ops : Array Oper) : List Nat → St → St → Prop
  | [], s, s' => s' = s
  | i :: l, s, s' => match ops[i]? with
    | none => RunD P ops l s s'
    | some o => ∃ s1, StepD P ops o s s1 ∧ RunD P ops l s1 s'

theorem run_sound (hok : dstOk nt ops = true) : ∀ (l : List Nat) (s : St) (a : Act) (w : World), RunD P ops l s s' → Re P nt w0 F0 s a w → (∀ a' w', Re P nt w0 F0 s' a' w' → Q .normal a' w') → wpOps P ops Q l a w := by
  intro l
  induction l with
  | nil => intro s a w h hR hQ; simp only [RunD] at h; subst h; exact hQ a w hR
  | cons i l ih =>
    intro s a w h hR hQ
    rw [wpOps_cons]
    simp only [RunD] at h
    cases ho : ops[i]? with
    | none =>
      rw [ho] at h
      unfold wpOp
      rw [ho]
      exact ih s a w h hR hQ
    | some o =>
      rw [ho] at h
      obtain ⟨s1, h1, h2⟩ := h
      obtain ⟨G, hR⟩ := hR
      exact stepD_sound hR hok ho h1 (fun a' w' hR' => ih s1 a' w' h2 hR' hQ)
theorem region_sound (hok : dstOk nt ops = true) (id : Nat) (h : RunD P ops (List.range ops.size) s s') (hR : Re P nt w0 F0 s a w) (hQ : ∀ a' w', Re P nt w0 F0 s' a' w' → Q .normal a' w') : (Code.region id ops false).wp P Q a w :=
  wp_region (run_sound hok _ s a w h hR hQ)

/-! ### orders -/

theorem opD_congr {ρ ρ' : Operand → DV} (o : Oper) (h : ∀ x ∈ o.op.operands, ρ x = ρ' x) : opD P o ρ = opD P o ρ' := by
  unfold opD
  have hparts : ∀ ps : Array (Nat × Operand), (∀ x ∈ (ps.toList.map (·.2)).toArray, ρ x = ρ' x) → (ps.toList.map fun (i, x) => (i, ρ x)) = (ps.toList.map fun (i, x) => (i, ρ' x)) := by
    intro ps hp
    apply List.map_congr_left
    intro p hm
    show (p.1, ρ p.2) = (p.1, ρ' p.2)
    rw [hp p.2 (by simp; exact ⟨p.1, by simpa using hm⟩)]
  split <;> rename_i hop <;> simp only [hop, Op.operands] at h
  case h_1 => rw [h _ (by simp)]
  case h_2 => rw [h _ (by simp)]
  case h_3 => rw [h _ (by simp), h _ (by simp), h _ (by simp)]
  case h_4 => rw [h _ (by simp)]
  case h_5 => rfl
  case h_6 => rw [hparts _ h]
  case h_7 => rw [hparts _ h]
  case h_8 => rw [h _ (by simp), h _ (by simp)]
  case h_9 => rw [h _ (by simp)]
  case h_10 => rw [h _ (by simp), h _ (by simp)]
  case h_11 => rw [h _ (by simp)]
  case h_12 => rw [h _ (by simp), h _ (by simp)]
  case h_13 => rw [h _ (by simp)]
  case h_14 => rw [h _ (by simp)]
  case h_15 t x lo hi =>
    have e1 : lo.map ρ = lo.map ρ' := by cases lo with | none => rfl | some y => simp; exact h y (by simp)
    have e2 : hi.map ρ = hi.map ρ' := by cases hi with | none => rfl | some y => simp; exact h y (by simp)
    rw [h x (by simp), e1, e2]
  case h_16 => rw [h _ (by simp)]
  case h_17 => rw [h _ (by simp)]
  case h_18 => rw [h _ (by simp), h _ (by simp)]
  case h_19 => rw [h _ (by simp), h _ (by simp)]
  case h_20 => rw [h _ (by simp)]
  case h_21 c =>
    have hargs : ∀ x ∈ c.args.toList, ρ x = ρ' x := fun x hx => h x (by simp [Call.operands]; right; simpa using hx)
    have hm : c.args.toList.map ρ = c.args.toList.map ρ' := List.map_congr_left hargs
    unfold callD
    split
    · split
      · rename_i x hx; rw [hargs x (by rw [hx]; simp)]
      · rfl
    · split
      · rename_i s x hx; rw [hargs x (by rw [hx]; simp), hargs s (by rw [hx]; simp)]
      · rfl
    · rename_i f hc
      rw [h f (by simp [Call.operands, hc]), hm]
    · rfl
  case h_22 => rfl
  case h_23 => rw [h _ (by simp), h _ (by simp)]
  case h_24 => rw [h _ (by simp), h _ (by simp), h _ (by simp)]
  case h_25 fn first caps =>
    have e1 : first.toList.map ρ = first.toList.map ρ' := List.map_congr_left fun x hx => h x (by simp; left; simpa using hx)
    have e2 : caps.toList.map ρ = caps.toList.map ρ' := List.map_congr_left fun x hx => h x (by simp; right; simpa using hx)
    rw [e1, e2]
  case h_26 => rfl

/-- What one step changes. -/
structure Upd where
  d : DV
  h : Option (Key × List DV)
  t : Option (Key × (Nat × TypeId))
  g : Bool
def Upd.app (U : Upd) (dst : Option Tmp) (s : St) : St where
  env := match dst with | some x => upd s.env x U.d | none => s.env
  heap := match U.h with | some (k, c) => updK s.heap k (some c) | none => s.heap
  tip := match U.t with | some (k, c) => updK s.tip k (some c) | none => s.tip
  gen := match dst with | some x => if U.g then upd s.gen x (s.gen x + 1) else s.gen | none => s.gen
def Pre (P : Program) (dst : Option Tmp) (s : St) (U : Upd) : Out → Prop
  | .val c d => c ∧ U = ⟨d, none, none, false⟩
  | .box t cells => ∃ x, dst = some x ∧ U = ⟨.ref (x, s.gen x) 0, some ((x, s.gen x), cells), none, true⟩
  | .fresh c e rows => c ∧ ∃ x, dst = some x ∧ U = ⟨.own (x, s.gen x) 0 rows, none, some ((x, s.gen x), (0, e)), true⟩
  | .load k off n agg => ∃ cells, s.heap k = some cells ∧ off + n ≤ cells.length ∧ U = ⟨mk agg ((cells.drop off).take n), none, none, false⟩
  | .store k off n new => ∃ cells, s.heap k = some cells ∧ new.length = n ∧ off + n ≤ cells.length ∧ storable new ∧ U = ⟨.raw undef, some (k, splice cells off new), none, false⟩
  | .grow c k ver e rows add => c ∧ s.tip k = some (ver, e) ∧ ∃ x, dst = some x ∧ U = ⟨.own k (ver + 1) (rows ++ add), none, some (k, (ver + 1, e)), false⟩
  | .call f args => ∃ xs b r, seenAll s args = some (xs, b) ∧ FnD P f xs r ∧ (b = true → flatT r = true) ∧ U = ⟨r, none, none, false⟩
  | .map => ∃ x, dst = some x ∧ U = ⟨.mref (x, s.gen x), some ((x, s.gen x), [.tup []]), none, true⟩
  | .look k f => ∃ cells d, s.heap k = some cells ∧ f cells = some d ∧ U = ⟨d, none, none, false⟩
  | .turn k f => ∃ cells cells', s.heap k = some cells ∧ f cells = some cells' ∧ U = ⟨.raw undef, some (k, cells'), none, false⟩
  | .bad => False
theorem step_iff {o : Out} {dst : Option Tmp} : o.step P dst s s' ↔ ∃ U, Pre P dst s U o ∧ s' = U.app dst s := by
  cases o <;> simp only [Out.step, Pre]
  · constructor
    · rintro ⟨hc, rfl⟩; exact ⟨_, ⟨hc, rfl⟩, by cases dst <;> rfl⟩
    · rintro ⟨U, ⟨hc, rfl⟩, rfl⟩; exact ⟨hc, by cases dst <;> rfl⟩
  · constructor
    · rintro ⟨d, rfl, rfl⟩; exact ⟨_, ⟨d, rfl, rfl⟩, rfl⟩
    · rintro ⟨U, ⟨d, rfl, rfl⟩, rfl⟩; exact ⟨d, rfl, rfl⟩
  · constructor
    · rintro ⟨hc, d, rfl, rfl⟩; exact ⟨_, ⟨hc, d, rfl, rfl⟩, rfl⟩
    · rintro ⟨U, ⟨hc, d, rfl, rfl⟩, rfl⟩; exact ⟨hc, d, rfl, rfl⟩
  · constructor
    · rintro ⟨c, h1, h2, rfl⟩; exact ⟨_, ⟨c, h1, h2, rfl⟩, by cases dst <;> rfl⟩
    · rintro ⟨U, ⟨c, h1, h2, rfl⟩, rfl⟩; exact ⟨c, h1, h2, by cases dst <;> rfl⟩
  · constructor
    · rintro ⟨c, h1, h2, h3, h4, rfl⟩; exact ⟨_, ⟨c, h1, h2, h3, h4, rfl⟩, by cases dst <;> rfl⟩
    · rintro ⟨U, ⟨c, h1, h2, h3, h4, rfl⟩, rfl⟩; exact ⟨c, h1, h2, h3, h4, by cases dst <;> rfl⟩
  · constructor
    · rintro ⟨hc, ht, d, rfl, rfl⟩; exact ⟨_, ⟨hc, ht, d, rfl, rfl⟩, rfl⟩
    · rintro ⟨U, ⟨hc, ht, d, rfl, rfl⟩, rfl⟩; exact ⟨hc, ht, d, rfl, rfl⟩
  · constructor
    · rintro ⟨xs, b, r, h1, h2, h3, rfl⟩; exact ⟨_, ⟨xs, b, r, h1, h2, h3, rfl⟩, by cases dst <;> rfl⟩
    · rintro ⟨U, ⟨xs, b, r, h1, h2, h3, rfl⟩, rfl⟩; exact ⟨xs, b, r, h1, h2, h3, by cases dst <;> rfl⟩
  · constructor
    · rintro ⟨d, rfl, rfl⟩; exact ⟨_, ⟨d, rfl, rfl⟩, rfl⟩
    · rintro ⟨U, ⟨d, rfl, rfl⟩, rfl⟩; exact ⟨d, rfl, rfl⟩
  · constructor
    · rintro ⟨c, d, h1, h2, rfl⟩; exact ⟨_, ⟨c, d, h1, h2, rfl⟩, by cases dst <;> rfl⟩
    · rintro ⟨U, ⟨c, d, h1, h2, rfl⟩, rfl⟩; exact ⟨c, d, h1, h2, by cases dst <;> rfl⟩
  · constructor
    · rintro ⟨c, c', h1, h2, rfl⟩; exact ⟨_, ⟨c, c', h1, h2, rfl⟩, by cases dst <;> rfl⟩
    · rintro ⟨U, ⟨c, c', h1, h2, rfl⟩, rfl⟩; exact ⟨c, c', h1, h2, by cases dst <;> rfl⟩
  · constructor
    · exact False.elim
    · rintro ⟨U, h, _⟩; exact h.elim

def refKey : DV → Option Key
  | .ref k _ => some k
  | _ => none
/-- All things of the call's own that a value names. -/
def keysOf : DV → List Key
  | .ref k _ => [k]
  | .mref k => [k]
  | .clo _ caps => caps.filterMap refKey
  | _ => []
/-- Which boxes, and which slices that grow, an outcome looks at. -/
def Hr : Out → List Key
  | .load k _ _ _ => [k]
  | .store k _ _ _ => [k]
  | .call _ args => args.filterMap refKey
  | .look k _ => [k]
  | .turn k _ => [k]
  | _ => []
def Tr : Out → List Key
  | .grow _ k _ _ _ _ => [k]
  | _ => []

theorem seen_congr {t : St} (d : DV) (h : ∀ k, refKey d = some k → s.heap k = t.heap k) : seen s d = seen t d := by
  cases d with
  | ref k off => simp only [seen, seen0]; rw [h k rfl]
  | raw v =>
    show seen0 s (.raw v) = seen0 t (.raw v)
    unfold seen0
    split <;> first | rfl | (rename_i hq; cases hq)
  | _ => rfl
theorem seenAll_congr {t : St} : ∀ (ds : List DV), (∀ k ∈ ds.filterMap refKey, s.heap k = t.heap k) → seenAll s ds = seenAll t ds := by
  intro ds
  induction ds with
  | nil => intro _; rfl
  | cons d ds ih =>
    intro h
    simp only [seenAll]
    rw [seen_congr d (fun k hk => h k (by rw [List.mem_filterMap]; exact ⟨d, by simp, hk⟩)), ih (fun k hk => h k (by rw [List.mem_filterMap] at hk ⊢; obtain ⟨x, hx, hxk⟩ := hk; exact ⟨x, by simp [hx], hxk⟩))]

theorem Pre.congr {dst : Option Tmp} {t : St} {U : Upd} {o : Out} (hg : ∀ x, dst = some x → s.gen x = t.gen x) (hh : ∀ k ∈ Hr o, s.heap k = t.heap k) (ht : ∀ k ∈ Tr o, s.tip k = t.tip k) (h : Pre P dst s U o) : Pre P dst t U o := by
  cases o with
  | val c d => exact h
  | box ty cells => obtain ⟨x, hx, rfl⟩ := h; exact ⟨x, hx, by rw [hg x hx]⟩
  | fresh c e rows => obtain ⟨hc, x, hx, rfl⟩ := h; exact ⟨hc, x, hx, by rw [hg x hx]⟩
  | load k off n agg => obtain ⟨c, h1, h2, rfl⟩ := h; exact ⟨c, by rw [← hh k (by simp [Hr])]; exact h1, h2, rfl⟩
  | store k off n new => obtain ⟨c, h1, h2, h3, h4, rfl⟩ := h; exact ⟨c, by rw [← hh k (by simp [Hr])]; exact h1, h2, h3, h4, rfl⟩
  | grow c k ver e rows add => obtain ⟨hc, h1, x, hx, rfl⟩ := h; exact ⟨hc, by rw [← ht k (by simp [Tr])]; exact h1, x, hx, rfl⟩
  | call f args => obtain ⟨xs, b, r, h1, h2, h3, rfl⟩ := h; exact ⟨xs, b, r, by rw [← seenAll_congr args hh]; exact h1, h2, h3, rfl⟩
  | map => obtain ⟨x, hx, rfl⟩ := h; exact ⟨x, hx, by rw [hg x hx]⟩
  | look k f => obtain ⟨c, d, h1, h2, rfl⟩ := h; exact ⟨c, d, by rw [← hh k (by simp [Hr])]; exact h1, h2, rfl⟩
  | turn k f => obtain ⟨c, c', h1, h2, rfl⟩ := h; exact ⟨c, c', by rw [← hh k (by simp [Hr])]; exact h1, h2, rfl⟩
  | bad => exact h.elim

/-- Where what an outcome looks at comes from. -/
theorem hr_from {o : Oper} {ρ : Operand → DV} {k : Key} (h : k ∈ Hr (opD P o ρ)) : ∃ x, k ∈ keysOf (ρ x) := by
  unfold opD at h
  split at h <;> rename_i hop <;> (try (simp only [Hr, List.not_mem_nil] at h; done))
  case h_9 t a =>
    unfold loadD at h
    split at h
    · simp [Hr] at h
    · rename_i k' off n b g ha ht
      split at h
      · simp [Hr] at h; subst h; exact ⟨a, by rw [ha]; simp [keysOf]⟩
      · simp [Hr] at h
    · simp [Hr] at h
  case h_10 t a v =>
    unfold storeD at h
    split at h
    · rename_i k' off n b g ha ht
      split at h
      · simp [Hr] at h; subst h; exact ⟨a, by rw [ha]; simp [keysOf]⟩
      · simp [Hr] at h
    · simp [Hr] at h
  case h_21 c =>
    unfold callD at h
    split at h
    · split at h
      · rename_i x hx
        unfold lenD at h
        split at h
        · split at h
          · simp [Hr] at h
          · split at h <;> simp [Hr] at h
          · simp [Hr] at h
          · rename_i hm; simp [Hr] at h; subst h; exact ⟨x, by rw [hm]; simp [keysOf]⟩
          · simp [Hr] at h
        · simp [Hr] at h
      · simp [Hr] at h
    · split at h
      · unfold appendD at h
        repeat' (first | split at h | (simp [Hr] at h; done))
      · simp [Hr] at h
    · rename_i fx hcal
      split at h
      · split at h
        · simp only [Hr, List.mem_filterMap, List.mem_map] at h
          obtain ⟨d, ⟨x, hx, rfl⟩, hk⟩ := h
          cases hd : ρ x with
          | ref k' off => rw [hd] at hk; simp [refKey] at hk; subst hk; exact ⟨x, by rw [hd]; simp [keysOf]⟩
          | _ => rw [hd] at hk; simp [refKey] at hk
        · simp [Hr] at h
      · rename_i f' caps hfx
        simp only [Hr, List.mem_filterMap, List.mem_append, List.mem_map] at h
        obtain ⟨d, ⟨x, hx, rfl⟩ | hd, hk⟩ := h
        · cases hd : ρ x with
          | ref k' off => rw [hd] at hk; simp [refKey] at hk; subst hk; exact ⟨x, by rw [hd]; simp [keysOf]⟩
          | _ => rw [hd] at hk; simp [refKey] at hk
        · exact ⟨fx, by rw [hfx]; simp only [keysOf, List.mem_filterMap]; exact ⟨d, hd, hk⟩⟩
      · simp [Hr] at h
    · simp [Hr] at h
  case h_23 t m kk ok =>
    unfold lookupD at h
    split at h
    · split at h
      · rename_i hm
        split at h
        · simp [Hr] at h; subst h; exact ⟨m, by rw [hm]; simp [keysOf]⟩
        · simp [Hr] at h
      · split at h <;> simp [Hr] at h
      · simp [Hr] at h
    · simp [Hr] at h
  case h_24 t m kk x =>
    unfold updateD at h
    split at h
    · rename_i hm
      split at h
      · split at h
        · simp [Hr] at h; subst h; exact ⟨m, by rw [hm]; simp [keysOf]⟩
        · simp [Hr] at h
      · simp [Hr] at h
    · simp [Hr] at h
  all_goals
    exfalso
    clear hop
    first
      | (simp [Hr] at h; done)
      | (split at h <;> simp [Hr] at h; done)
      | (unfold loadD at h; repeat' (first | split at h | (simp [Hr] at h; done)))
      | (unfold storeD at h; repeat' (first | split at h | (simp [Hr] at h; done)))
      | (unfold buildD at h; repeat' (first | split at h | (simp [Hr] at h; done)))
      | (unfold buildSliceD at h; repeat' (first | split at h | (simp [Hr] at h; done)))
      | (unfold makeSliceD at h; repeat' (first | split at h | (simp [Hr] at h; done)))
      | (unfold binD intD strD at h; repeat' (first | split at h | (simp [Hr] at h; done)))
      | (unfold unD at h; repeat' (first | split at h | (simp [Hr] at h; done)))
      | (unfold convD at h; repeat' (first | split at h | (simp [Hr] at h; done)))
      | (unfold sliceD sliceS sliceR at h; repeat' (first | split at h | (simp [Hr] at h; done)))
      | (unfold fieldAddrD at h; repeat' (first | split at h | (simp [Hr] at h; done)))
      | (unfold fieldD at h; repeat' (first | split at h | (simp [Hr] at h; done)))
      | (unfold indexAddrD at h; repeat' (first | split at h | (simp [Hr] at h; done)))
      | (unfold indexD at h; repeat' (first | split at h | (simp [Hr] at h; done)))
      | (unfold callD lenD appendD at h; repeat' (first | split at h | (simp [Hr] at h; done)))
      | (unfold lookupD at h; repeat' (first | split at h | (simp [Hr] at h; done)))
      | (unfold updateD at h; repeat' (first | split at h | (simp [Hr] at h; done)))
      | (unfold funcD at h; repeat' (first | split at h | (simp [Hr] at h; done)))
      | (repeat' (first | split at h | (simp [Hr] at h; done)))
theorem tr_from {o : Oper} {ρ : Operand → DV} {k : Key} (h : k ∈ Tr (opD P o ρ)) : ∃ x ver rows, ρ x = .own k ver rows := by
  unfold opD at h
  split at h <;> rename_i hop <;> (try (simp only [Tr, List.not_mem_nil] at h; done))
  case h_21 c =>
    unfold callD at h
    split at h
    · split at h
      · unfold lenD at h
        repeat' (first | split at h | (simp [Tr] at h; done))
      · simp [Tr] at h
    · split at h
      · rename_i sx x hx
        unfold appendD at h
        split at h
        · split at h
          · split at h
            · split at h
              · split at h
                · simp [Tr] at h
                · rename_i kk vv rr hs
                  simp [Tr] at h; subst h; exact ⟨sx, vv, rr, hs⟩
                · simp [Tr] at h
              · simp [Tr] at h
            · simp [Tr] at h
          · simp [Tr] at h
        · simp [Tr] at h
      · simp [Tr] at h
    · repeat' (first | split at h | (simp [Tr] at h; done))
    · simp [Tr] at h
  all_goals
    exfalso
    clear hop
    first
      | (simp [Tr] at h; done)
      | (split at h <;> simp [Tr] at h; done)
      | (unfold loadD at h; repeat' (first | split at h | (simp [Tr] at h; done)))
      | (unfold storeD at h; repeat' (first | split at h | (simp [Tr] at h; done)))
      | (unfold buildD at h; repeat' (first | split at h | (simp [Tr] at h; done)))
      | (unfold buildSliceD at h; repeat' (first | split at h | (simp [Tr] at h; done)))
      | (unfold makeSliceD at h; repeat' (first | split at h | (simp [Tr] at h; done)))
      | (unfold binD intD strD at h; repeat' (first | split at h | (simp [Tr] at h; done)))
      | (unfold unD at h; repeat' (first | split at h | (simp [Tr] at h; done)))
      | (unfold convD at h; repeat' (first | split at h | (simp [Tr] at h; done)))
      | (unfold sliceD sliceS sliceR at h; repeat' (first | split at h | (simp [Tr] at h; done)))
      | (unfold fieldAddrD at h; repeat' (first | split at h | (simp [Tr] at h; done)))
      | (unfold fieldD at h; repeat' (first | split at h | (simp [Tr] at h; done)))
      | (unfold indexAddrD at h; repeat' (first | split at h | (simp [Tr] at h; done)))
      | (unfold indexD at h; repeat' (first | split at h | (simp [Tr] at h; done)))
      | (unfold callD lenD appendD at h; repeat' (first | split at h | (simp [Tr] at h; done)))
      | (unfold lookupD at h; repeat' (first | split at h | (simp [Tr] at h; done)))
      | (unfold updateD at h; repeat' (first | split at h | (simp [Tr] at h; done)))
      | (unfold funcD at h; repeat' (first | split at h | (simp [Tr] at h; done)))
      | (repeat' (first | split at h | (simp [Tr] at h; done)))

theorem RL.keys_some (hW : WI P w0 F0 G s w) {v : Value} {d : DV} (h : RL G v d) {k : Key} (hk : k ∈ keysOf d) : s.heap k ≠ none := by
  cases h with
  | imm hi => cases hi <;> simp [keysOf] at hk
  | own => simp [keysOf] at hk
  | ref _ hb =>
    simp [keysOf] at hk; subst hk
    obtain ⟨cells, _, _, h1, _⟩ := hW.box _ _ hb
    rw [h1]; simp
  | mref hb =>
    simp [keysOf] at hk; subst hk
    obtain ⟨_, _, es, clk, h1, _⟩ := hW.mp _ _ hb
    rw [h1]; simp
  | clo f hn hc =>
    simp only [keysOf, List.mem_filterMap] at hk
    obtain ⟨d, hd, hk⟩ := hk
    obtain ⟨j, hj⟩ := List.mem_iff_getElem?.1 hd
    have hlt : j < _ := (List.getElem?_eq_some_iff.1 hj).1
    rw [← hn] at hlt
    have hR := hc j _ d (Array.getElem?_eq_getElem hlt) hj
    cases d with
    | ref k' off =>
      simp [refKey] at hk; subst hk
      generalize hvv : (‹Array Value›)[j] = vv at hR
      cases hR with
      | imm hi => cases hi
      | ref _ hb =>
        obtain ⟨cells, _, _, h1, _⟩ := hW.box _ _ hb
        rw [h1]; simp
    | _ => simp [refKey] at hk
theorem Real.heap_some (hR : Real P nt w0 F0 G s a w) {x : Operand} {k : Key} (h : k ∈ keysOf (s.ev x)) : s.heap k ≠ none := by
  have hv := hR.ev x
  generalize a.eval x = vv at hv
  generalize s.ev x = dd at hv h
  cases hv with
  | leaf hl => exact hl.keys_some hR.mem h
  | agg => simp [keysOf] at h
  | tup => simp [keysOf] at h
  | junk => simp [keysOf] at h
theorem Real.tip_some (hR : Real P nt w0 F0 G s a w) {x : Operand} {k : Key} {ver : Nat} {rows : List (List DV)} (h : s.ev x = .own k ver rows) : s.tip k ≠ none := by
  have hv := hR.ev x
  rw [h] at hv
  generalize a.eval x = vv at hv
  cases hv with
  | leaf hl => cases hl with
    | imm hi => cases hi
    | own _ ht _ =>
      obtain ⟨v, e, u, hk, _⟩ := ht
      rw [(hR.mem.tip _ _ _ _ hk).1]; simp
theorem Real.fresh_none (hR : Real P nt w0 F0 G s a w) (x : Nat) : s.heap (x, s.gen x) = none ∧ s.tip (x, s.gen x) = none := by
  have hf := hR.mem.fresh (x, s.gen x) (Nat.le_refl _)
  refine ⟨?_, ?_⟩
  · cases h : s.heap (x, s.gen x) with
    | none => rfl
    | some c => rcases hR.mem.hbox _ _ h with ⟨b, hb⟩ | ⟨b, hb⟩ <;> (first | (rw [hf.1] at hb; cases hb; done) | (rw [hf.2.2] at hb; cases hb; done))
  · cases h : s.tip (x, s.gen x) with
    | none => rfl
    | some c => obtain ⟨u, hb⟩ := hR.mem.htip _ c.1 c.2 h; rw [hf.2.1] at hb; cases hb
end
end Go.Proofs.YtdbaklnjemcfgaaGreatDoor.D
