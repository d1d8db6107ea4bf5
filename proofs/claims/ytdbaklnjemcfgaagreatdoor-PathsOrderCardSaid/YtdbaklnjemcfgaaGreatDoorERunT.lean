/- What the machine for the kernel says of code, and of a call, is what the model does (evCall_sound). Conditions: what is known of calls (lib) is true. -/
import Derived.Test.YtdbaklnjemcfgaaGreatDoorERunS
namespace Go.Proofs.YtdbaklnjemcfgaaGreatDoor.E
open Go.RowKit Go.Proofs.YtdbaklnjemcfgaaGreatDoor.Mem Go.Proofs.YtdbaklnjemcfgaaGreatDoor.D
set_option linter.unusedVariables false
set_option linter.unusedSimpArgs false

section
variable {P : Program}

def CallOk (P : Program) (call : CallF) : Prop := ∀ f args h n d h' n', call f args h n = .ok (d, h', n') → CallE P f args (absH h) n d (absH h') n' ∧ Dom h h' n n'
theorem merge_self {h h' : Tr EO} {n n' : Nat} (hd : Dom h h' n n') : merge (absH h) (absH h) (absH h') n n' = absH h' := by
  funext k
  unfold merge
  split
  · rfl
  · rename_i hc
    simp only [Bool.or_eq_true, Bool.and_eq_true, decide_eq_true_eq, not_or] at hc
    have : h.get k = none := by simpa [absH] using hc.1
    show h.get k = h'.get k
    rw [this, hd k this hc.2]
theorem Dom.trans {h h1 h2 : Tr EO} {n n1 n2 : Nat} (a : Dom h h1 n n1) (b : Dom h1 h2 n1 n2) (p : n ≤ n1) (q : n1 ≤ n2) : Dom h h2 n n2 := fun k hk hn => b k (a k hk (fun e => hn ⟨e.1, by omega⟩)) (fun e => hn ⟨by omega, e.2⟩)
theorem Dom.refl (h : Tr EO) (n n' : Nat) : Dom h h n n' := fun _ hk _ => hk

/-- A label that fits an operation's form. -/
def KL (lab : Lab) (o : Oper) : Prop :=
  match lab with
  | .quiet => True
  | .new _ => kindO o.op = 1
  | .look _ => kindO o.op = 2
  | .eff _ _ => kindO o.op = 3
def outK (out : OutB) (k : Nat) : Prop :=
  match out with
  | .val _ => True
  | .new _ _ => k = 1
  | .look _ _ => k = 2
  | .eff _ => k = 3
  | .call _ _ => k = 3
  | .bad => True
theorem delegB_k (o : Oper) (ρ : Operand → EV) (k : Nat) : outK (delegB P o ρ) k := by
  rcases delegB_sound (P := P) (o := o) (ρ := ρ) rfl with h | ⟨d, c, h, _⟩ <;> (rw [h]; trivial)
theorem okB_k {b : Bool} {out : OutB} {k : Nat} (h : outK out k) : outK (okB b out) k := by
  cases b
  · trivial
  · exact h
theorem extCB_k (c : Call) (ρ : Operand → EV) : outK (extCB P c ρ) (kindO (.call c)) := by
  unfold extCB
  split
  · rename_i hc
    unfold invokeB
    split
    · split
      · show kindO (.call c) = 3
        simp only [kindO, hc]
      · trivial
    · trivial
  · rename_i hc
    have hk : kindO (.call c) = 3 := by simp only [kindO, hc]
    split
    · unfold copyB
      split <;> (try split) <;> (try split) <;> (try split) <;> first | trivial | exact hk
    · trivial
  · rename_i hc
    have hk : kindO (.call c) = 3 := by simp only [kindO, hc]
    split
    · unfold clearB
      split <;> (try split) <;> (try split) <;> (try split) <;> first | trivial | exact hk
    · trivial
  · split
    · unfold capB
      split <;> (try split) <;> trivial
    · trivial
  · trivial
theorem extB_k (o : Oper) (ρ : Operand → EV) (k : Nat) : outK (extB P o ρ) k := by
  unfold extB ifaceB
  repeat' (first | trivial | split)
theorem opB_kind (o : Oper) (ρ : Operand → EV) : outK (opB P o ρ) (kindO o.op) := by
  unfold opB
  split <;> rename_i hop <;> simp only [hop, kindO]
  case h_1 => trivial
  case h_2 => trivial
  case h_3 => split <;> trivial
  case h_4 => split <;> first | trivial | rfl
  case h_5 => split <;> (try split) <;> first | trivial | rfl
  case h_6 => unfold buildB; split <;> trivial
  case h_7 => unfold buildSliceB; split <;> first | trivial | rfl
  case h_8 =>
    unfold makeSliceB
    split
    · split
      · split
        · exact okB_k rfl
        · trivial
      · trivial
    · trivial
  case h_9 =>
    split
    · unfold loadB; split <;> (try split) <;> first | trivial | rfl
    · exact delegB_k _ _ _
  case h_10 =>
    split
    · unfold storeB; split <;> (try split) <;> first | trivial | rfl
    · trivial
  case h_11 => split <;> first | trivial | exact delegB_k _ _ _
  case h_12 => unfold binB; split <;> (try split) <;> first | trivial | exact delegB_k _ _ _
  case h_13 t x lo hi mx =>
    have hs : ∀ k t x lo hi mx, outK (sliceNoneB P t x lo hi mx) k := by
      intro k t x lo hi mx
      unfold sliceNoneB
      split <;> (try split) <;> first | trivial | exact okB_k trivial
    split
    · unfold sliceB
      split
      · split
        · split
          · exact okB_k trivial
          · split
            · exact okB_k trivial
            · trivial
        · trivial
      · trivial
    · exact hs _ _ _ _ _ _
    · split
      · unfold sliceArrB
        split
        · split
          · rfl
          · trivial
        · trivial
      · trivial
    · split
      · exact delegB_k _ _ _
      · exact hs _ _ _ _ _ _
  case h_14 =>
    split
    · unfold fieldAddrB; split <;> (try split) <;> (try split) <;> first | trivial | exact okB_k trivial
    · exact delegB_k _ _ _
  case h_15 => unfold fieldB; split <;> (try split) <;> (try split) <;> first | trivial | exact okB_k trivial
  case h_16 =>
    split
    · exact delegB_k _ _ _
    · unfold indexAddrB; split <;> (try split) <;> first | trivial | exact okB_k trivial
  case h_17 =>
    split
    · unfold indexB; split <;> (try split) <;> first | trivial | exact okB_k trivial
    · exact delegB_k _ _ _
  case h_18 => split <;> (try split) <;> trivial
  case h_19 cl =>
    unfold callB
    split
    · rename_i hc
      simp only [hc]
      split
      · unfold lenB
        split
        · split <;> first | trivial | rfl | exact delegB_k _ _ _
        · trivial
      · trivial
    · rename_i hc
      simp only [hc]
      split
      · unfold appendB
        split <;> (try split) <;> (try split) <;> (try split) <;> (try unfold appZeroB) <;> (try split) <;> (try split) <;> first | trivial | rfl
      · trivial
    · rename_i hc
      simp only [hc]
      split
      · unfold mmB; split <;> first | trivial | rfl
      · trivial
    · rename_i hc
      simp only [hc]
      split
      · unfold mmB; split <;> first | trivial | rfl
      · trivial
    · rename_i hc
      simp only [hc]
      split
      · split <;> first | trivial | rfl
      · rfl
      · rfl
      · trivial
    · exact extCB_k cl ρ
  case h_20 => rfl
  case h_21 => unfold lookupB; split <;> (try split) <;> (try split) <;> (try split) <;> first | trivial | rfl
  case h_22 => unfold updateB; split <;> (try split) <;> first | trivial | rfl
  case h_23 => unfold entryB; split <;> (try split) <;> (try split) <;> first | trivial | rfl
  case h_24 => unfold entryStoreB; split <;> first | trivial | rfl
  case h_25 => unfold funcB; split <;> (try split) <;> trivial
  case h_26 => exact delegB_k _ _ _
  case h_27 =>
    split
    · unfold bytesB; split <;> first | trivial | rfl
    · unfold bytesNoneB; split <;> trivial
    · unfold bytesNoneB; split <;> trivial
    · exact delegB_k _ _ _
  case h_28 => exact extB_k o ρ _
theorem compat_kinds {x y : Oper} {lx ly : Lab} (hx : KL lx x) (hy : KL ly y) (hm : meets (kindO x.op) (kindO y.op) = false) : Compat lx ly := by
  cases lx <;> cases ly <;> first | trivial | (simp only [KL] at hx hy; rw [hx, hy] at hm; cases hm)

variable {call : CallF} {ops : Array Oper}
theorem wantedB_abs (s : RS) (o : Oper) : wantedE ops s.abs o = wantedB ops s o := rfl

/-- A step of the machine. -/
structure StepOk (P : Program) (ops : Array Oper) (id : Nat) (o : Oper) (s s' : RS) (lab : Lab) : Prop where
  step : StepL P ops lab o s.abs s'.abs
  id_ : ∀ i, lab = .new i → i = id
  kl : KL lab o
  next : s.next ≤ s'.next
  dom : ∀ k, s.heap.get k = none → k ≠ id → ¬ (s.next ≤ k ∧ k < s'.next) → s'.heap.get k = none

theorem step_val {s s' : RS} {o : Oper} {id : Nat} {d : EV} (hw : wantedB ops s o = some true) (ho : opB P o s.ev = .val d) (hp : putS s o.dst d = .ok s') : StepOk P ops id o s s' .quiet := by
  obtain ⟨h1, h2, h3⟩ := putS_abs hp
  have hm := opB_sound (P := P) o s.ev
  rw [ho] at hm
  obtain ⟨c, he, hc⟩ := hm
  refine ⟨?_, fun i e => (by cases e), trivial, by omega, fun k hk _ _ => by rw [h2]; exact hk⟩
  unfold StepL
  rw [wantedB_abs, hw]
  exact ⟨d, _, _, ⟨c, by rw [ev_abs']; exact he, hc, rfl, rfl⟩, h1⟩
theorem step_skip {s s' : RS} {o : Oper} {id : Nat} (hw : wantedB ops s o = some false) (hp : putS s o.dst (er undef) = .ok s') : StepOk P ops id o s s' .quiet := by
  obtain ⟨h1, h2, h3⟩ := putS_abs hp
  refine ⟨?_, fun i e => (by cases e), trivial, by omega, fun k hk _ _ => by rw [h2]; exact hk⟩
  unfold StepL
  rw [wantedB_abs, hw]
  exact ⟨rfl, h1⟩
theorem step_new {s s' : RS} {o : Oper} {id : Nat} {ob : EO} {mk : Nat → EV} (hw : wantedB ops s o = some true) (ho : opB P o s.ev = .new ob mk) (hf : fits id = true) (hp : putS ⟨s.env, Tr.set (some ob) deep s.heap id, s.next⟩ o.dst (mk id) = .ok s') : StepOk P ops id o s s' (.new id) := by
  obtain ⟨h1, h2, h3⟩ := putS_abs hp
  have hm := opB_sound (P := P) o s.ev
  have hk := opB_kind (P := P) o s.ev
  rw [ho] at hm hk
  obtain ⟨c, he, hc⟩ := hm
  refine ⟨?_, fun i e => (by cases e; rfl), hk, by rw [h3]; exact Nat.le_refl _, fun k hk hne _ => by rw [h2, Tr.get_set _ deep _ _ _ (fits_lt hf), if_neg hne]; exact hk⟩
  unfold StepL
  rw [wantedB_abs, hw]
  refine ⟨mk id, upd (absH s.heap) id (some ob), s.next, ⟨c, ob, mk, by rw [ev_abs']; exact he, hc, rfl, rfl, rfl⟩, ?_⟩
  rw [h1, ← absH_set hf]
  rfl
theorem step_look {s s' : RS} {o : Oper} {id k : Nat} {f : EO → Option EV} {ob : EO} {d : EV} (hw : wantedB ops s o = some true) (ho : opB P o s.ev = .look k f) (hk : s.heap.get k = some ob) (hf : f ob = some d) (hp : putS s o.dst d = .ok s') : StepOk P ops id o s s' (.look k) := by
  obtain ⟨h1, h2, h3⟩ := putS_abs hp
  have hm := opB_sound (P := P) o s.ev
  have hkk := opB_kind (P := P) o s.ev
  rw [ho] at hm hkk
  obtain ⟨r, he, hr⟩ := hm
  refine ⟨?_, fun i e => (by cases e), hkk, by omega, fun k hk _ _ => by rw [h2]; exact hk⟩
  unfold StepL
  rw [wantedB_abs, hw]
  exact ⟨d, _, _, ⟨r, ob, by rw [ev_abs']; exact he, hk, hr ob d hf, rfl, rfl⟩, h1⟩
/-- What changes when an effect is run. -/
def Wof (h h' : Tr EO) (n n' k : Nat) : Prop := h'.get k ≠ h.get k ∨ (n ≤ k ∧ k < n')
theorem evEff_sound (hcall : CallOk P call) {o : Oper} {ρ : Operand → EV} {h h' : Tr EO} {n n' : Nat} {d : EV} (he : evEff call (opB P o ρ) h n = .ok (d, h', n')) : Eff P (opE P o ρ) (absH h) n d (absH h') n' ∧ n ≤ n' ∧ Dom h h' n n' ∧ kindO o.op = 3 := by
  have hm := opB_sound (P := P) o ρ
  have hk := opB_kind (P := P) o ρ
  unfold evEff at he
  split at he
  · rename_i f ho
    rw [ho] at hm hk
    obtain ⟨r, h1, h2⟩ := hm
    split at he
    · rename_i x hx
      injection he with he
      subst he
      rw [h1]
      obtain ⟨q1, q2, q3⟩ := h2 _ _ _ _ _ hx
      exact ⟨q1, q2, q3, hk⟩
    · cases he
  · rename_i f args ho
    rw [ho] at hm hk
    split at he
    · rename_i x hx
      injection he with he
      subst he
      rw [show opE P o ρ = .call f args from hm]
      obtain ⟨q1, q2⟩ := hcall _ _ _ _ _ _ _ hx
      exact ⟨q1, q1.1, q2, hk⟩
    · cases he
  · cases he
theorem step_eff (hcall : CallOk P call) {s s' : RS} {o : Oper} {id : Nat} {h' : Tr EO} {n' : Nat} {d : EV} (hw : wantedB ops s o = some true) (he : evEff call (opB P o s.ev) s.heap s.next = .ok (d, h', n')) (hp : putS ⟨s.env, h', n'⟩ o.dst d = .ok s') :
    StepOk P ops id o s s' (.eff (Wof s.heap h' s.next n') (fun _ => False)) := by
  obtain ⟨h1, h2, h3⟩ := putS_abs hp
  obtain ⟨q1, q2, q3, q4⟩ := evEff_sound hcall he
  refine ⟨?_, fun i e => (by cases e), q4, by rw [h3]; exact q2, fun k hk _ hn => by rw [h2]; rw [h3] at hn; exact q3 k hk hn⟩
  unfold StepL
  rw [wantedB_abs, hw]
  refine ⟨d, absH h', n', ⟨absH s.heap, absH h', fun k o hk => ⟨hk, fun f => f⟩, by rw [ev_abs']; exact q1, fun k hk => ?_, fun k a b => .inr ⟨a, b⟩, q2, (merge_self q3).symm⟩, h1⟩
  show h'.get k = s.heap.get k
  exact Classical.byContradiction fun hne => hk (.inl hne)

theorem evOp_sound (hcall : CallOk P call) {s s' : RS} {o : Oper} {id : Nat} (h : evOp P call ops id o s = .ok s') : ∃ lab, StepOk P ops id o s s' lab := by
  unfold evOp at h
  split at h
  · cases h
  · rename_i hw
    exact ⟨_, step_skip hw h⟩
  · rename_i hw
    split at h
    · rename_i d ho
      exact ⟨_, step_val hw ho h⟩
    · rename_i ob mk ho
      cases hf : fits id with
      | false => rw [hf] at h; cases h
      | true =>
        rw [hf] at h
        simp only [cond_true, Tr.put_eq] at h
        exact ⟨_, step_new hw ho hf h⟩
    · rename_i k f ho
      split at h
      · rename_i ob hk
        split at h
        · rename_i d hd
          exact ⟨_, step_look hw ho hk hd h⟩
        · cases h
      · cases h
    · rename_i f ho
      split at h
      · rename_i d h' n' hf
        exact ⟨_, step_eff hcall hw (h' := h') (n' := n') (d := d) (by rw [ho]; simp only [evEff, hf]) h⟩
      · cases h
    · rename_i f args ho
      split at h
      · rename_i d h' n' hf
        exact ⟨_, step_eff hcall hw (h' := h') (n' := n') (d := d) (by rw [ho]; simp only [evEff, hf]) h⟩
      · cases h
    · cases h

theorem runL_congr {lab lab' : Nat → Lab} : ∀ (l : List Nat) (s s' : SE), (∀ i ∈ l, lab i = lab' i) → RunL P ops lab l s s' → RunL P ops lab' l s s' := by
  intro l
  induction l with
  | nil => intro s s' _ h; exact h
  | cons i l ih =>
    intro s s' hl h
    simp only [RunL] at h ⊢
    split
    · rename_i ho
      rw [ho] at h
      exact ih s s' (fun j hj => hl j (by simp [hj])) h
    · rename_i o ho
      rw [ho] at h
      obtain ⟨s1, h1, h2⟩ := h
      exact ⟨s1, by rw [← hl i (by simp)]; exact h1, ih s1 s' (fun j hj => hl j (by simp [hj])) h2⟩

/-- A run of the machine through a region. -/
structure RunOk (P : Program) (ops : Array Oper) (base j n : Nat) (s s' : RS) (lab : Nat → Lab) : Prop where
  run : RunL P ops lab (List.range' j n) s.abs s'.abs
  id_ : ∀ i id, lab i = .new id → id = base + i
  kl : ∀ i o, ops[i]? = some o → KL (lab i) o
  next : s.next ≤ s'.next
  dom : ∀ k, s.heap.get k = none → ¬ (base ≤ k ∧ k < base + ops.size) → ¬ (s.next ≤ k ∧ k < s'.next) → s'.heap.get k = none
theorem RunOk.cons {base j n : Nat} {s s1 s' : RS} {o : Oper} {lb : Lab} {lab : Nat → Lab} (ho : ops[j]? = some o) (h1 : StepOk P ops (base + j) o s s1 lb) (h2 : RunOk P ops base (j + 1) n s1 s' lab) : RunOk P ops base j (n + 1) s s' (fun i => if i = j then lb else lab i) := by
  have hj : j < ops.size := (Array.getElem?_eq_some_iff.1 ho).1
  refine ⟨?_, fun i id hi => ?_, fun i o' hi => ?_, Nat.le_trans h1.next h2.next, fun k hk hb hn => ?_⟩
  · rw [List.range'_succ]
    simp only [RunL, ho]
    refine ⟨s1.abs, by simpa using h1.step, runL_congr _ _ _ (fun i hi => ?_) h2.run⟩
    have := List.mem_range'.1 hi
    obtain ⟨q, _, rfl⟩ := this
    rw [if_neg (by omega)]
  · split at hi
    · rename_i e; subst e; exact h1.id_ id hi
    · exact h2.id_ i id hi
  · split
    · rename_i e; subst e; rw [ho] at hi; injection hi with hi; subst hi; exact h1.kl
    · exact h2.kl i o' hi
  · have a1 := h1.next
    have a2 := h2.next
    refine h2.dom k (h1.dom k hk (fun e => hb ⟨by omega, by omega⟩) (fun e => hn ⟨e.1, by omega⟩)) hb (fun e => hn ⟨by omega, e.2⟩)
theorem RunOk.nil (base j : Nat) (s : RS) : RunOk P ops base j 0 s s (fun _ => .quiet) := ⟨rfl, fun i id h => (by cases h), fun _ _ _ => trivial, Nat.le_refl _, fun k hk _ _ => hk⟩

theorem evOps_sound (hcall : CallOk P call) {base : Nat} : ∀ (l : List Oper) (j : Nat) (s s' : RS), (∀ i, l[i]? = ops[j + i]?) → evOps P call ops base l j s = .ok s' → ∃ lab, RunOk P ops base j l.length s s' lab := by
  intro l
  induction l with
  | nil => intro j s s' _ h; simp only [evOps] at h; injection h with h; subst h; exact ⟨_, RunOk.nil base j s⟩
  | cons o l ih =>
    intro j s s' hl h
    have ho : ops[j]? = some o := by simpa using (hl 0).symm
    have hl' : ∀ i, l[i]? = ops[j + 1 + i]? := fun i => by have := hl (i + 1); simpa [Nat.add_assoc, Nat.add_comm 1 i] using this
    simp only [evOps] at h
    split at h
    · rename_i s1 h1
      obtain ⟨lb, hlb⟩ := evOp_sound hcall h1
      obtain ⟨lab, hlab⟩ := ih (j + 1) s1 s' hl' h
      exact ⟨_, hlab.cons ho hlb⟩
    · cases h

/-! ### what may go either way and meets -/
theorem eqV0_eq {a b : Value} (h : eqV0 a b = true) : a = b := by
  unfold eqV0 at h
  split at h
  · simp only [Bool.and_eq_true, decide_eq_true_eq] at h; rw [h.1, h.2]
  · simp only [decide_eq_true_eq] at h; rw [h]
  · simp only [decide_eq_true_eq] at h; rw [bs_ext h]
  · rfl
  · rfl
  · rfl
  · rfl
  · cases h
theorem eqE0_eq {a b : EV} (h : eqE0 a b = true) : a = b := by
  unfold eqE0 at h
  split at h
  · rw [eqV0_eq h]
  · simp only [Bool.and_eq_true, beq_iff_eq] at h; rw [h.1, h.2]
  · simp only [Bool.and_eq_true, beq_iff_eq] at h; obtain ⟨⟨⟨⟨⟨rfl, rfl⟩, rfl⟩, rfl⟩, rfl⟩, rfl⟩ := h; rfl
  · rfl
  · simp only [beq_iff_eq] at h; rw [h]
  · cases h
theorem eqE0L_eq : ∀ (a b : List EV), eqE0L a b = true → a = b := by
  intro a
  induction a with
  | nil => intro b h; cases b with
    | nil => rfl
    | cons => cases h
  | cons x xs ih => intro b h; cases b with
    | nil => cases h
    | cons y ys => simp only [eqE0L, Bool.and_eq_true] at h; rw [eqE0_eq h.1, ih ys h.2]
theorem eqE1_eq {a b : EV} (h : eqE1 a b = true) : a = b := by
  unfold eqE1 at h
  split at h
  · rw [eqE0L_eq _ _ h]
  · exact eqE0_eq h
theorem eqEM_eq : ∀ (a b : List (EV × EV × Nat)), eqEM a b = true → a = b := by
  intro a
  induction a with
  | nil => intro b h; cases b with
    | nil => rfl
    | cons => cases h
  | cons x xs ih => intro b h; cases b with
    | nil => cases h
    | cons y ys =>
      obtain ⟨x1, x2, x3⟩ := x
      obtain ⟨y1, y2, y3⟩ := y
      simp only [eqEM, Bool.and_eq_true, beq_iff_eq] at h
      rw [eqE1_eq h.1.1.1, eqE1_eq h.1.1.2, h.1.2, ih ys h.2]
theorem eqO_eq {a b : EO} (h : eqO a b = true) : a = b := by
  unfold eqO at h
  split at h
  · rw [eqE0L_eq _ _ h]
  · simp only [Bool.and_eq_true, beq_iff_eq] at h; rw [eqEM_eq _ _ h.1, h.2]
  · cases h
theorem sameAt_W {h h' : Tr EO} {n n' k : Nat} (hs : sameAt h h' n k = true) : ¬ Wof h h' n n' k := by
  unfold sameAt at hs
  split at hs
  · rename_i a b ha hb
    simp only [Bool.and_eq_true] at hs
    have hlt : k < n := Nat.le_of_ble_eq_true hs.1
    have := eqO_eq hs.2
    subst this
    rintro (hw | hw)
    · exact hw (hb.trans ha.symm)
    · omega
  · cases hs
theorem get_dropT : ∀ (l : List Nat) (h : Tr EO) (k : Nat), (∀ i ∈ l, fits i = true) → (dropT l h).get k = if k ∈ l then none else h.get k := by
  intro l
  induction l with
  | nil => intro h k _; simp [dropT]
  | cons i l ih =>
    intro h k hf
    simp only [dropT]
    rw [ih _ _ (fun j hj => hf j (by simp [hj])), Tr.get_set _ deep _ _ _ (fits_lt (hf i (by simp)))]
    by_cases h1 : k ∈ l
    · simp [h1]
    · by_cases h2 : k = i <;> simp [h1, h2]
theorem get_keepT (h0 : Tr EO) : ∀ (l : List Nat) (h : Tr EO) (k : Nat), (∀ i ∈ l, fits i = true) → (keepT h0 l h).get k = if k ∈ l then h0.get k else h.get k := by
  intro l
  induction l with
  | nil => intro h k _; simp [keepT]
  | cons i l ih =>
    intro h k hf
    simp only [keepT]
    rw [ih _ _ (fun j hj => hf j (by simp [hj])), Tr.get_set _ deep _ _ _ (fits_lt (hf i (by simp)))]
    by_cases h1 : k ∈ l
    · simp [h1]
    · by_cases h2 : k = i
      · subst h2; simp [h1]
      · simp [h1, h2]
theorem step_hot (hcall : CallOk P call) {s s' : RS} {o : Oper} {id : Nat} {h' : Tr EO} {n' : Nat} {d : EV} {X : List Nat} (hX : ∀ i ∈ X, fits i = true ∧ i < s.next) (hw : wantedB ops s o = some true) (he : evEff call (opB P o s.ev) (dropT X s.heap) s.next = .ok (d, h', n')) (hp : putS ⟨s.env, keepT s.heap X h', n'⟩ o.dst d = .ok s') :
    StepOk P ops id o s s' (.eff (Wof (dropT X s.heap) h' s.next n') (fun k => k ∈ X)) := by
  obtain ⟨h1, h2, h3⟩ := putS_abs hp
  obtain ⟨q1, q2, q3, q4⟩ := evEff_sound hcall he
  have hfit : ∀ i ∈ X, fits i = true := fun i hi => (hX i hi).1
  refine ⟨?_, fun i e => (by cases e), q4, by rw [h3]; exact q2, fun k hk _ hn => ?_⟩
  · unfold StepL
    rw [wantedB_abs, hw]
    refine ⟨d, absH (keepT s.heap X h'), n', ⟨absH (dropT X s.heap), absH h', fun k o hk => ?_, by rw [ev_abs']; exact q1, fun k hk => ?_, fun k a b => .inr ⟨a, b⟩, q2, ?_⟩, h1⟩
    · simp only [absH, get_dropT X s.heap k hfit] at hk
      split at hk
      · cases hk
      · rename_i hn; exact ⟨hk, hn⟩
    · show h'.get k = (dropT X s.heap).get k
      exact Classical.byContradiction fun hne => hk (.inl hne)
    · funext k
      show (keepT s.heap X h').get k = merge (absH s.heap) (absH (dropT X s.heap)) (absH h') s.next n' k
      rw [get_keepT s.heap X h' k hfit]
      unfold merge
      have hd := get_dropT X s.heap k hfit
      by_cases hk : k ∈ X
      · rw [if_pos hk, if_neg]
        · rfl
        · have := (hX k hk).2
          simp [absH, hd, hk]
          omega
      · rw [if_neg hk]
        split
        · rfl
        · rename_i hc
          simp only [Bool.or_eq_true, Bool.and_eq_true, decide_eq_true_eq, not_or] at hc
          have hn : (dropT X s.heap).get k = none := by simpa [absH] using hc.1
          rw [q3 k hn hc.2]
          rw [hd, if_neg hk] at hn
          exact hn.symm
  · rw [h2, get_keepT s.heap X h' k hfit]
    rw [h3] at hn
    split
    · exact hk
    · rename_i hkX
      exact q3 k (by rw [get_dropT X s.heap k hfit, if_neg hkX]; exact hk) hn

/-- What has been recorded of the steps so far. -/
def Recd (rc : List (Nat × RecH)) (j : Nat) (lab0 : Nat → Lab) : Prop :=
  ∀ i, i < j → match lab0 i with
    | .quiet => True
    | .new _ => True
    | .look k => (i, RecH.look k) ∈ rc
    | .eff W _ => ∃ h h' n, (i, RecH.eff h h' n) ∈ rc ∧ ∀ k, sameAt h h' n k = true → ¬ W k
theorem meetL_sound {hots : List (Nat × Nat)} {j k : Nat} : ∀ {rc : List (Nat × RecH)}, meetL hots j k rc = true → ∀ i h h' n, (i, RecH.eff h h' n) ∈ rc → hots.contains (i, j) = true → sameAt h h' n k = true := by
  intro rc
  induction rc with
  | nil => intro _ i h h' n hm; cases hm
  | cons x rc ih =>
    intro hm i h h' n hmem hh
    obtain ⟨i0, r⟩ := x
    cases r with
    | look k0 =>
      simp only [meetL] at hm
      rcases List.mem_cons.1 hmem with e | e
      · cases e
      · exact ih hm i h h' n e hh
    | eff a b c =>
      simp only [meetL, Bool.and_eq_true, Bool.or_eq_true, Bool.not_eq_true'] at hm
      rcases List.mem_cons.1 hmem with e | e
      · injection e with e1 e2
        injection e2 with e2 e3 e4
        subst e1 e2 e3 e4
        rcases hm.1 with q | q
        · rw [hh] at q; cases q
        · exact q
      · exact ih hm.2 i h h' n e hh
theorem meetE_sound {hots : List (Nat × Nat)} {j : Nat} {h h' : Tr EO} {n : Nat} : ∀ {rc : List (Nat × RecH)}, meetE hots j h h' n rc = true → (∀ i k, (i, RecH.look k) ∈ rc → hots.contains (i, j) = true → sameAt h h' n k = true) ∧ (∀ i a b c, (i, RecH.eff a b c) ∈ rc → hots.contains (i, j) = false) := by
  intro rc
  induction rc with
  | nil => intro _; exact ⟨fun i k hm => (by cases hm), fun i a b c hm => (by cases hm)⟩
  | cons x rc ih =>
    intro hm
    obtain ⟨i0, r⟩ := x
    cases r with
    | look k0 =>
      simp only [meetE, Bool.and_eq_true, Bool.or_eq_true, Bool.not_eq_true'] at hm
      obtain ⟨p1, p2⟩ := ih hm.2
      refine ⟨fun i k hmem hh => ?_, fun i a b c hmem => ?_⟩
      · rcases List.mem_cons.1 hmem with e | e
        · injection e with e1 e2
          injection e2 with e2
          subst e1 e2
          rcases hm.1 with q | q
          · rw [hh] at q; cases q
          · exact q
        · exact p1 i k e hh
      · rcases List.mem_cons.1 hmem with e | e
        · cases e
        · exact p2 i a b c e
    | eff a0 b0 c0 =>
      simp only [meetE, Bool.and_eq_true, Bool.not_eq_true'] at hm
      obtain ⟨p1, p2⟩ := ih hm.2
      refine ⟨fun i k hmem hh => ?_, fun i a b c hmem => ?_⟩
      · rcases List.mem_cons.1 hmem with e | e
        · cases e
        · exact p1 i k e hh
      · rcases List.mem_cons.1 hmem with e | e
        · injection e with e1 e2
          subst e1
          exact hm.1
        · exact p2 i a b c e

theorem evHot_sound (hcall : CallOk P call) {hots : List (Nat × Nat)} (hhots : ∀ i j x y, i < j → ops[i]? = some x → ops[j]? = some y → ((ancTab ops.toList).getD j 0).testBit i = false → meets (kindO x.op) (kindO y.op) = true → hots.contains (i, j) = true)
    {base : Nat} : ∀ (l : List Oper) (j : Nat) (rc : List (Nat × RecH)) (s s' : RS) (lab0 : Nat → Lab), (∀ i, l[i]? = ops[j + i]?) → Recd rc j lab0 → (∀ i o, i < j → ops[i]? = some o → KL (lab0 i) o) → evHot P call ops hots base l j rc s = .ok s' →
    ∃ lab, RunOk P ops base j l.length s s' lab ∧ ∀ i1 i2 x y, i1 < i2 → j ≤ i2 → i2 < j + l.length → ops[i1]? = some x → ops[i2]? = some y → ((ancTab ops.toList).getD i2 0).testBit i1 = false → (∀ i id, i < j → lab0 i = .new id → id = base + i) → Compat (if i1 < j then lab0 i1 else lab i1) (lab i2) := by
  intro l
  induction l with
  | nil =>
    intro j rc s s' lab0 _ _ _ h
    simp only [evHot] at h
    injection h with h
    subst h
    exact ⟨_, RunOk.nil base j s, fun i1 i2 x y h1 h2 h3 => by simp at h3; omega⟩
  | cons o l ih =>
    intro j rc s s' lab0 hl hrc hkl0 h
    have ho : ops[j]? = some o := by simpa using (hl 0).symm
    have hl' : ∀ i, l[i]? = ops[j + 1 + i]? := fun i => by have := hl (i + 1); simpa [Nat.add_assoc, Nat.add_comm 1 i] using this
    -- one step, and the rest
    have fin : ∀ (lb : Lab) (rc' : List (Nat × RecH)) (s1 : RS), StepOk P ops (base + j) o s s1 lb → (∀ x ∈ rc, x ∈ rc') → (match lb with | .quiet => True | .new _ => True | .look k => (j, RecH.look k) ∈ rc' | .eff W _ => ∃ h h' n, (j, RecH.eff h h' n) ∈ rc' ∧ ∀ k, sameAt h h' n k = true → ¬ W k) →
        (∀ i1 x, i1 < j → ops[i1]? = some x → ((ancTab ops.toList).getD j 0).testBit i1 = false → (∀ i id, i < j → lab0 i = .new id → id = base + i) → Compat (lab0 i1) lb) → evHot P call ops hots base l (j + 1) rc' s1 = .ok s' →
        ∃ lab, RunOk P ops base j (l.length + 1) s s' lab ∧ ∀ i1 i2 x y, i1 < i2 → j ≤ i2 → i2 < j + (l.length + 1) → ops[i1]? = some x → ops[i2]? = some y → ((ancTab ops.toList).getD i2 0).testBit i1 = false → (∀ i id, i < j → lab0 i = .new id → id = base + i) → Compat (if i1 < j then lab0 i1 else lab i1) (lab i2) := by
      intro lb rc' s1 hstep hsub hlb hcomp hrest
      obtain ⟨lab, hrun, hc⟩ := ih (j + 1) rc' s1 s' (fun i => if i = j then lb else lab0 i) hl' (fun i hi => by
        by_cases e : i = j
        · subst e; simp only [if_true]; exact hlb
        · simp only [if_neg e]
          have := hrc i (by omega)
          split <;> rename_i hq <;> rw [hq] at this
          · trivial
          · trivial
          · exact hsub _ this
          · obtain ⟨a, b, c, p1, p2⟩ := this
            exact ⟨a, b, c, hsub _ p1, p2⟩) (fun i o' hi ho' => by
        by_cases e : i = j
        · subst e; simp only [if_true]; rw [ho] at ho'; injection ho' with ho'; subst ho'; exact hstep.kl
        · simp only [if_neg e]; exact hkl0 i o' (by omega) ho') hrest
      refine ⟨_, hrun.cons ho hstep, fun i1 i2 x y h12 hj2 hlt hx hy hb hnew => ?_⟩
      by_cases e2 : i2 = j
      · subst e2
        rw [if_pos h12, if_pos rfl]
        exact hcomp i1 x h12 hx hb hnew
      · rw [if_neg e2]
        have hcc := hc i1 i2 x y h12 (by omega) (by omega) hx hy hb (fun i id hi hid => by
          by_cases e : i = j
          · subst e; simp only [if_true] at hid; exact hstep.id_ id hid
          · simp only [if_neg e] at hid; exact hnew i id (by omega) hid)
        by_cases h1 : i1 < j
        · rw [if_pos h1]
          rw [if_pos (by omega)] at hcc
          simp only [if_neg (show ¬ i1 = j by omega)] at hcc
          exact hcc
        · rw [if_neg h1]
          by_cases e : i1 = j
          · subst e
            rw [if_pos (by omega)] at hcc
            simp only [if_true] at hcc ⊢
            exact hcc
          · rw [if_neg e]
            rw [if_neg (by omega)] at hcc
            exact hcc
    have quiet : ∀ {x : Lab}, Compat x .quiet := by intro x; cases x <;> trivial
    have newC : ∀ {x : Lab} {id : Nat}, Compat x (.new id) := by intro x id; cases x <;> trivial
    have inHot : ∀ i1 x, i1 < j → ops[i1]? = some x → ((ancTab ops.toList).getD j 0).testBit i1 = false → meets (kindO x.op) (kindO o.op) = true → hots.contains (i1, j) = true := fun i1 x h1 hx hb hm => hhots i1 j x o h1 hx ho hb hm
    unfold evHot at h
    split at h
    · cases h
    · rename_i hw
      split at h
      · rename_i s1 hp
        exact fin .quiet rc s1 (step_skip hw hp) (fun x hx => hx) trivial (fun _ _ _ _ _ _ => quiet) h
      · cases h
    · rename_i hw
      split at h
      · rename_i d hop
        split at h
        · rename_i s1 hp
          exact fin .quiet rc s1 (step_val hw hop hp) (fun x hx => hx) trivial (fun _ _ _ _ _ _ => quiet) h
        · cases h
      · rename_i ob mk hop
        cases hf : fits (base + j) with
        | false => rw [hf] at h; cases h
        | true =>
          rw [hf] at h
          simp only [cond_true] at h
          split at h
          · rename_i s1 hp
            exact fin (.new (base + j)) rc s1 (step_new hw hop hf hp) (fun x hx => hx) trivial (fun _ _ _ _ _ _ => newC) h
          · cases h
      · rename_i k f hop
        split at h
        · rename_i ob hk
          split at h
          · rename_i d hd
            cases hm : meetL hots j k rc with
            | false => rw [hm] at h; cases h
            | true =>
              rw [hm] at h
              simp only [cond_true] at h
              split at h
              · rename_i s1 hp
                have hstep := step_look (id := base + j) hw hop hk hd hp
                refine fin (.look k) _ s1 hstep (fun x hx => by simp [hx]) (by simp) (fun i1 x h1 hx hb hnew => ?_) h
                have hkx := hkl0 i1 x h1 hx
                have hr := hrc i1 h1
                cases hlb : lab0 i1 with
                | quiet => trivial
                | new id => trivial
                | look k' => trivial
                | eff W X =>
                  rw [hlb] at hr hkx
                  obtain ⟨a, b, c, p1, p2⟩ := hr
                  have hko := hstep.kl
                  simp only [KL] at hko hkx
                  exact p2 k (meetL_sound hm i1 a b c p1 (inHot i1 x h1 hx hb (by rw [hkx, hko]; rfl)))
              · cases h
          · cases h
        · cases h
      · cases h
      · rename_i hnv hnn hnl hnb
        split at h
        · rename_i d h' n' he
          cases hm : (meetE hots j (dropT (setAside ops hots base j) s.heap) h' s.next rc && (setAside ops hots base j).all fun i => fits i && Nat.blt i s.next) with
          | false => rw [hm] at h; cases h
          | true =>
            rw [hm] at h
            simp only [cond_true] at h
            simp only [Bool.and_eq_true] at hm
            have hX : ∀ i ∈ setAside ops hots base j, fits i = true ∧ i < s.next := fun i hi => by
              have := List.all_eq_true.1 hm.2 i hi
              simp only [Bool.and_eq_true] at this
              exact ⟨this.1, Nat.le_of_ble_eq_true this.2⟩
            split at h
            · rename_i s1 hp
              have hstep := step_hot (id := base + j) hcall hX hw he hp
              refine fin _ _ s1 hstep (fun x hx => by simp [hx]) ⟨_, _, _, List.mem_cons_self, fun k hk => sameAt_W hk⟩ (fun i1 x h1 hx hb hnew => ?_) h
              have hkx := hkl0 i1 x h1 hx
              have hr := hrc i1 h1
              have hko := hstep.kl
              simp only [KL] at hko
              cases hlb : lab0 i1 with
              | quiet => trivial
              | look k' =>
                rw [hlb] at hr hkx
                simp only [KL] at hkx
                exact sameAt_W ((meetE_sound hm.1).1 i1 k' hr (inHot i1 x h1 hx hb (by rw [hkx, hko]; rfl)))
              | new id =>
                rw [hlb] at hkx
                simp only [KL] at hkx
                have hid := hnew i1 id h1 hlb
                subst hid
                show base + i1 ∈ setAside ops hots base j
                unfold setAside
                rw [List.mem_filterMap]
                refine ⟨(i1, j), by simpa using inHot i1 x h1 hx hb (by rw [hkx, hko]; rfl), ?_⟩
                simp [hx, isNewO, hkx]
              | eff W X =>
                rw [hlb] at hr hkx
                simp only [KL] at hkx
                obtain ⟨a, b, c, p1, p2⟩ := hr
                have := (meetE_sound hm.1).2 i1 a b c p1
                rw [inHot i1 x h1 hx hb (by rw [hkx, hko]; rfl)] at this
                cases this
            · cases h
        · cases h

theorem mem_hot {i j : Nat} {x y : Oper} (hij : i < j) (hx : ops[i]? = some x) (hy : ops[j]? = some y) (hb : ((ancTab ops.toList).getD j 0).testBit i = false) (hm : meets (kindO x.op) (kindO y.op) = true) : (i, j) ∈ hot ops := by
  unfold hot
  rw [List.mem_flatMap]
  refine ⟨j, by simpa using (Array.getElem?_eq_some_iff.1 hy).1, ?_⟩
  rw [List.mem_filterMap]
  exact ⟨i, by simpa using hij, by rw [if_neg (by rw [hb]; decide)]; simp [hx, hy, hm]⟩

theorem evReg_sound (hcall : CallOk P call) {nt : Nat} {draw : Bool} {s s' : RS} (h : evReg P call nt ops draw s = .ok s') : (∀ K : SE → Prop, K s'.abs → RegE P nt ops draw s.abs K) ∧ s.next ≤ s'.next ∧ Dom s.heap s'.heap s.next s'.next := by
  unfold evReg at h
  cases h1 : (dstOk nt ops && (!draw || regOk ops)) with
  | false => rw [h1] at h; cases h
  | true =>
    rw [h1] at h
    simp only [cond_true] at h
    simp only [Bool.and_eq_true, Bool.or_eq_true, Bool.not_eq_true'] at h1
    have hrange : List.range ops.size = List.range' 0 ops.toList.length := by rw [List.range_eq_range', Array.length_toList]
    have fin : ∀ lab, RunOk P ops s.next 0 ops.toList.length ⟨s.env, s.heap, s.next + ops.size⟩ s' lab → (draw = true → ∀ i j x y, i < j → ops[i]? = some x → ops[j]? = some y → ((ancTab ops.toList).getD j 0).testBit i = false → Compat (lab i) (lab j)) →
        (∀ K : SE → Prop, K s'.abs → RegE P nt ops draw s.abs K) ∧ s.next ≤ s'.next ∧ Dom s.heap s'.heap s.next s'.next := by
      intro lab hrun hc
      have hn := hrun.next
      refine ⟨fun K hK => ⟨h1.1, lab, s'.abs, fun j id e => hrun.id_ j id e, by rw [hrange]; exact hrun.run, fun hd => ⟨?_, hc hd⟩, hK⟩, by simp only at hn; omega, fun k hk hne => ?_⟩
      · rcases h1.2 with q | q
        · rw [hd] at q; cases q
        · exact q
      · simp only at hn
        exact hrun.dom k hk (fun e => hne ⟨e.1, by omega⟩) (fun e => hne ⟨by have := e.1; simp only at this; omega, e.2⟩)
    cases h2 : (!draw || (hot ops).isEmpty) with
    | true =>
      rw [h2] at h
      simp only [cond_true] at h
      obtain ⟨lab, hrun⟩ := evOps_sound hcall ops.toList 0 _ s' (fun i => by simp) h
      refine fin lab hrun (fun hd i j x y hij hx hy hb => ?_)
      simp only [Bool.or_eq_true, Bool.not_eq_true', List.isEmpty_iff] at h2
      refine compat_kinds (hrun.kl i x hx) (hrun.kl j y hy) ?_
      cases hm : meets (kindO x.op) (kindO y.op) with
      | false => rfl
      | true =>
        exfalso
        have := mem_hot hij hx hy hb hm
        rcases h2 with q | q
        · rw [hd] at q; cases q
        · rw [q] at this; cases this
    | false =>
      rw [h2] at h
      simp only [cond_false] at h
      obtain ⟨lab, hrun, hc⟩ := evHot_sound hcall (hots := hot ops) (fun i j x y hij hx hy hb hm => by simpa using mem_hot hij hx hy hb hm) ops.toList 0 [] _ s' (fun _ => .quiet) (fun i => by simp) (fun i hi => by omega) (fun i o hi => by omega) h
      refine fin lab hrun (fun hd i j x y hij hx hy hb => ?_)
      have := hc i j x y hij (Nat.zero_le _) (by have := (Array.getElem?_eq_some_iff.1 hy).1; simpa using this) hx hy hb (fun i id hi => by omega)
      simpa using this

theorem evC_sound (hcall : CallOk P call) {nt : Nat} : ∀ (n : Nat) (c : Code) (s s' : RS) (e : Exit), evC P nt call n c s = .ok (e, s') → (∀ Q : Exit → SE → Prop, Q e s'.abs → wpE P nt c Q s.abs) ∧ s.next ≤ s'.next ∧ Dom s.heap s'.heap s.next s'.next := by
  intro n
  induction n with
  | zero => intro c s s' e h; simp only [evC] at h; cases h
  | succ n ih =>
    intro c s s' e h
    have triv : ∀ {Q : Exit → SE → Prop} {x : Exit}, .ok (x, s) = (Rz.ok (e, s') : Rz (Exit × RS)) → (∀ c', (∀ Q : Exit → SE → Prop, Q x s.abs → wpE P nt c' Q s.abs) → (∀ Q : Exit → SE → Prop, Q e s'.abs → wpE P nt c' Q s.abs) ∧ s.next ≤ s'.next ∧ Dom s.heap s'.heap s.next s'.next) := by
      intro Q x hx c' hc'
      injection hx with hx
      injection hx with h1 h2
      subst h1 h2
      exact ⟨hc', Nat.le_refl _, Dom.refl _ _ _⟩
    cases c with
    | skip => exact triv (Q := fun _ _ => True) (by simpa only [evC] using h) _ (fun Q hq => hq)
    | label l => exact triv (Q := fun _ _ => True) (by simpa only [evC] using h) _ (fun Q hq => hq)
    | exit id => exact triv (Q := fun _ _ => True) (by simpa only [evC] using h) _ (fun Q hq => hq)
    | ret => exact triv (Q := fun _ _ => True) (by simpa only [evC] using h) _ (fun Q hq => hq)
    | region id ops draw =>
      simp only [evC] at h
      split at h
      · rename_i s1 h1
        injection h with h
        injection h with e1 e2
        subst e1 e2
        obtain ⟨q1, q2, q3⟩ := evReg_sound hcall h1
        exact ⟨fun Q hq => q1 _ hq, q2, q3⟩
      · cases h
    | seq x y =>
      simp only [evC] at h
      split at h
      · rename_i s1 h1
        obtain ⟨a1, a2, a3⟩ := ih x s s1 _ h1
        obtain ⟨b1, b2, b3⟩ := ih y s1 s' e h
        exact ⟨fun Q hq => a1 _ (b1 Q hq), Nat.le_trans a2 b2, a3.trans b3 a2 b2⟩
      · rename_i hne
        obtain ⟨a1, a2, a3⟩ := ih x s s' e h
        refine ⟨fun Q hq => a1 _ ?_, a2, a3⟩
        cases e with
        | normal => exact absurd h (hne s')
        | _ => exact hq
    | cond c x y =>
      simp only [evC] at h
      split at h
      · rename_i t ht
        cases t with
        | true =>
          obtain ⟨a1, a2, a3⟩ := ih x s s' e h
          exact ⟨fun Q hq => ⟨true, by rw [ev_abs]; exact ht, fun _ => a1 Q hq, fun e => (by cases e)⟩, a2, a3⟩
        | false =>
          obtain ⟨a1, a2, a3⟩ := ih y s s' e h
          exact ⟨fun Q hq => ⟨false, by rw [ev_abs]; exact ht, fun e => (by cases e), fun _ => a1 Q hq⟩, a2, a3⟩
      · cases h
    | block id b =>
      simp only [evC] at h
      split at h
      · rename_i i s1 h1
        obtain ⟨a1, a2, a3⟩ := ih b s s1 _ h1
        cases hb : Nat.beq i id with
        | true =>
          rw [hb] at h
          injection h with h
          injection h with e1 e2
          subst e1 e2
          refine ⟨fun Q hq => a1 _ ?_, a2, a3⟩
          simp only [blockE]
          rw [if_pos (Nat.eq_of_beq_eq_true hb)]
          exact hq
        | false =>
          rw [hb] at h
          injection h with h
          injection h with e1 e2
          subst e1 e2
          refine ⟨fun Q hq => a1 _ ?_, a2, a3⟩
          simp only [blockE]
          rw [if_neg (fun e => by subst e; simp at hb)]
          exact hq
      · rename_i hne
        obtain ⟨a1, a2, a3⟩ := ih b s s' e h
        refine ⟨fun Q hq => a1 _ ?_, a2, a3⟩
        cases e with
        | exit i => exact absurd h (hne i s')
        | _ => exact hq
    | loop b =>
      simp only [evC] at h
      split at h
      · rename_i s1 h1
        obtain ⟨a1, a2, a3⟩ := ih b s s1 _ h1
        obtain ⟨b1, b2, b3⟩ := ih (.loop b) s1 s' e h
        refine ⟨fun Q hq => ?_, Nat.le_trans a2 b2, a3.trans b3 a2 b2⟩
        obtain ⟨I, m, hI, hr⟩ := b1 Q hq
        refine ⟨fun k t => (k = m + 1 ∧ t = s.abs) ∨ I k t, m + 1, .inl ⟨rfl, rfl⟩, fun k t ht => ?_⟩
        rcases ht with ⟨rfl, rfl⟩ | ht
        · exact a1 _ ⟨m, Nat.lt_succ_self _, .inr hI⟩
        · refine wpE_mono (fun e2 s2 h2 => ?_) (hr k t ht)
          cases e2 with
          | normal => obtain ⟨m', hm', hI'⟩ := h2; exact ⟨m', hm', .inr hI'⟩
          | _ => exact h2
      · rename_i hne
        obtain ⟨a1, a2, a3⟩ := ih b s s' e h
        refine ⟨fun Q hq => ⟨fun k t => t = s.abs, 0, rfl, fun k t ht => ?_⟩, a2, a3⟩
        subst ht
        refine a1 _ ?_
        cases e with
        | normal => exact absurd h (hne s')
        | _ => exact hq
    | rangeFunc => simp only [evC] at h; cases h
    | scope => simp only [evC] at h; cases h
    | goto => simp only [evC] at h; cases h
    | refuse => simp only [evC] at h; cases h

theorem startT_get : ∀ (l : List EV) (i : Nat) (t : Tr EV) (j : Nat), i + l.length ≤ 1000000 → (startT l i t).get j = if i ≤ j ∧ j < i + l.length then l[j - i]? else t.get j := by
  intro l
  induction l with
  | nil => intro i t j _; simp only [startT, List.length_nil, Nat.add_zero]; rw [if_neg (by omega)]
  | cons d l ih =>
    intro i t j hl
    simp only [List.length_cons] at hl
    simp only [startT]
    rw [ih (i + 1) _ j (by omega), Tr.get_set _ deep _ _ _ (by unfold deep; omega)]
    by_cases h1 : i + 1 ≤ j ∧ j < i + 1 + l.length
    · rw [if_pos h1, if_pos (by simp only [List.length_cons]; omega)]
      have : j - i = (j - (i + 1)) + 1 := by omega
      rw [this, List.getElem?_cons_succ]
    · rw [if_neg h1]
      by_cases h2 : j = i
      · subst h2
        rw [if_pos rfl, if_pos (by simp only [List.length_cons]; omega)]
        simp
      · rw [if_neg h2, if_neg (by simp only [List.length_cons]; omega)]
theorem start_abs (args : List EV) (h : Tr EO) (n : Nat) (hl : args.length ≤ 1000) : (RS.mk (startT args 0 .nil) h n).abs = SE.start args (absH h) n := by
  simp only [RS.abs, SE.start]
  congr 1
  funext t
  simp only [RS.at, startT_get args 0 .nil t (by omega), Nat.zero_le, true_and, Nat.zero_add, Nat.sub_zero, List.getD_eq_getElem?_getD]
  by_cases ht : t < args.length
  · rw [if_pos ht, List.getElem?_eq_getElem ht]; rfl
  · rw [if_neg ht, List.getElem?_eq_none (by omega)]; rfl

theorem resB_sound {s : RS} {r : ResultVar} {d : EV} (h : resB P s r = some d) : resE P s.abs r d := by
  cases r with
  | tmp t => simp only [resB] at h; injection h with h; exact h.symm
  | cell b t =>
    simp only [resB] at h
    split at h
    · rename_i k off n bb g he ht
      split at h
      · rename_i cs hk
        cases hb : ((g || n == 1) && Nat.ble (off + n) cs.length) with
        | false => rw [hb] at h; cases h
        | true =>
          rw [hb] at h
          injection h with h
          simp only [Bool.and_eq_true] at hb
          exact ⟨k, off, n, _, g, cs, he, ht, hb.1, hk, Nat.le_of_ble_eq_true hb.2, h.symm⟩
      · cases h
    · cases h
theorem resLB_sound {s : RS} : ∀ (l : List ResultVar) (ds : List EV), resLB P s l = some ds → resLE P s.abs l ds := by
  intro l
  induction l with
  | nil => intro ds h; simp only [resLB] at h; injection h with h; subst h; trivial
  | cons r l ih =>
    intro ds h
    simp only [resLB] at h
    split at h
    · rename_i d ds' h1 h2
      injection h with h
      subst h
      exact ⟨resB_sound h1, ih ds' h2⟩
    · cases h

def LibOk (P : Program) (lib : LibF) : Prop := ∀ f args h n d h' n', lib f args h n = some (d, h', n') → CallE P f args (absH h) n d (absH h') n' ∧ Dom h h' n n'
theorem libOk_none : LibOk P (fun _ _ _ _ => none) := by intro f args h n d h' n' he; cases he
/-- What the machine says of a call is what the model does. -/
theorem evCall_sound (hm : P.follows .mixedOrders = true) {lib : LibF} (hlib : LibOk P lib) : ∀ n, CallOk P (evCall P lib n) := by
  intro n
  induction n with
  | zero => intro f args h nx d h' n' he; simp only [evCall] at he; cases he
  | succ n ih =>
    intro f args h nx d h' n' he
    simp only [evCall] at he
    split at he
    · rename_i r hr
      injection he with he
      subst he
      exact hlib f args h nx d h' n' hr
    · split at he
      · rename_i fn hf
        split at he
        · rename_i c hb
          cases hc : (!(fn.name == "runtime.NumGoroutine") && Nat.ble args.length fn.ntmps && Nat.ble args.length 1000) with
          | false => rw [hc] at he; cases he
          | true =>
            rw [hc] at he
            simp only [Bool.and_eq_true, Bool.not_eq_true'] at hc
            simp only [cond_true] at he
            have hlen := Nat.le_of_ble_eq_true hc.1.2
            have hlen2 := Nat.le_of_ble_eq_true hc.2
            have fin : ∀ (e : Exit) (s : RS) (ds : List EV), evC P fn.ntmps (evCall P lib n) 1000000 c ⟨startT args 0 .nil, h, nx⟩ = .ok (e, s) → (e = .normal ∨ e = .ret) → resLB P s fn.results.toList = some ds → Rz.ok (tupE ds, s.heap, s.next) = .ok (d, h', n') → CallE P f args (absH h) nx d (absH h') n' ∧ Dom h h' nx n' := by
              intro e s ds hev hee hres heq
              injection heq with heq
              injection heq with h1 h2
              injection h2 with h2 h3
              subst h1 h2 h3
              obtain ⟨q1, q2, q3⟩ := evC_sound ih 1000000 c _ s e hev
              rw [start_abs args h nx hlen2] at q1
              exact ⟨callE_intro hm hf hc.1.1 hb hlen (q1 _ ⟨hee, ⟨ds, resLB_sound _ _ hres, rfl⟩, rfl, rfl, q2⟩) q2, q3⟩
            split at he
            · rename_i s hev
              split at he
              · rename_i ds hres; exact fin _ s ds hev (.inl rfl) hres he
              · cases he
            · rename_i s hev
              split at he
              · rename_i ds hres; exact fin _ s ds hev (.inr rfl) hres he
              · cases he
            · cases he
            · cases he
        · cases he
      · cases he
end
end Go.Proofs.YtdbaklnjemcfgaaGreatDoor.E
