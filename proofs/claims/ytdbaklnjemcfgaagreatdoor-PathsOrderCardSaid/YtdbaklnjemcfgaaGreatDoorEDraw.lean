/- A region of which the order is drawn: all orders do the same (drawE_sound). Conditions: regOk, and what may go either way is Compat. -/
import Derived.Test.YtdbaklnjemcfgaaGreatDoorERegion
namespace Go.Proofs.YtdbaklnjemcfgaaGreatDoor.E
open Go.RowKit Go.Proofs.YtdbaklnjemcfgaaGreatDoor.Mem Go.Proofs.YtdbaklnjemcfgaaGreatDoor.D
set_option linter.unusedVariables false
set_option linter.unusedSimpArgs false

section
variable {P : Program} {G G' : Gg} {w w' w0 : World} {T R : Nat → Prop} {h : Hp} {B : Ctx} {V V' : Nat → Prop} {s s' s1 s2 : SE} {a : Act} {ops : Array Oper} {Q : Exit → Act → World → Prop}

theorem put_env (s : SE) (dst : Option Tmp) (d : EV) : (s.put dst d).heap = s.heap ∧ (s.put dst d).next = s.next := by cases dst <;> exact ⟨rfl, rfl⟩
theorem ev_put {o y : Oper} {d : EV} (h : ∀ t, o.dst = some t → t ∉ y.looksAt ops) : ∀ x ∈ y.op.operands, (s.put o.dst d).ev x = s.ev x := by
  intro x hx
  cases x with
  | tmp t =>
    cases hd : o.dst with
    | none => rfl
    | some t0 =>
      have hne : t ≠ t0 := fun e => h t0 hd (by subst e; simp only [Oper.looksAt, List.mem_append, List.mem_filterMap]; exact .inl ⟨.tmp t, by simpa using hx, rfl⟩)
      simp only [SE.ev, SE.put]
      exact upd_ne _ _ hne
  | _ => cases o.dst <;> rfl
theorem wanted_put {o y : Oper} {d : EV} (h : ∀ t, o.dst = some t → t ∉ y.looksAt ops) : wantedE ops (s.put o.dst d) y = wantedE ops s y := by
  unfold wantedE
  cases hg : y.guard with
  | none => rfl
  | some g =>
    obtain ⟨j, want⟩ := g
    simp only
    cases hj : (ops[j]?).bind (·.dst) with
    | none => rfl
    | some t =>
      cases hd : o.dst with
      | none => rfl
      | some t0 =>
        have hne : t ≠ t0 := fun e => h t0 hd (by subst e; simp only [Oper.looksAt, hg, List.mem_append, Option.mem_toList]; exact .inr hj)
        simp only [SE.put]
        rw [upd_ne _ _ hne]
theorem wanted_env {y : Oper} (h h' : Hp) (n n' : Nat) (e : Nat → EV) : wantedE ops { env := e, heap := h, next := n } y = wantedE ops { env := e, heap := h', next := n' } y := rfl

/-- A step: what it yields, and what it does to memory. -/
structure CoreS (P : Program) (ops : Array Oper) (lab : Lab) (o : Oper) (s : SE) (d : EV) (h' : Hp) (n' : Nat) : Prop where
  ex : (wantedE ops s o = some true ∧ CoreL P (opE P o s.ev) lab s.heap s.next d h' n') ∨ (wantedE ops s o = some false ∧ lab = .quiet ∧ d = er undef ∧ h' = s.heap ∧ n' = s.next)
theorem stepL_iff {lab : Lab} {o : Oper} : StepL P ops lab o s s' ↔ ∃ d h' n', CoreS P ops lab o s d h' n' ∧ s' = ({ env := s.env, heap := h', next := n' } : SE).put o.dst d := by
  unfold StepL
  constructor
  · intro h
    split at h
    · exact h.elim
    · rename_i hw
      obtain ⟨rfl, rfl⟩ := h
      exact ⟨_, _, _, ⟨.inr ⟨hw, rfl, rfl, rfl, rfl⟩⟩, by cases o.dst <;> rfl⟩
    · rename_i hw
      obtain ⟨d, h', n', hc, rfl⟩ := h
      exact ⟨d, h', n', ⟨.inl ⟨hw, hc⟩⟩, rfl⟩
  · rintro ⟨d, h', n', ⟨⟨hw, hc⟩ | ⟨hw, rfl, rfl, rfl, rfl⟩⟩, rfl⟩
    · rw [hw]; exact ⟨d, h', n', hc, rfl⟩
    · rw [hw]; exact ⟨rfl, by cases o.dst <;> rfl⟩

theorem merge_at {hf hf' : Hp} {n n' k : Nat} (hk : hf k = none) (hn : k < n) : merge h hf hf' n n' k = h k := by
  unfold merge
  rw [if_neg]
  simp [hk]
  omega
/-- What is read stands, where nothing of it changes. -/
theorem merge_look {hf hf' : Hp} {n n' k : Nat} {W X : Nat → Prop} (h1 : ∀ k o, hf k = some o → h k = some o ∧ ¬ X k) (h3 : ∀ k, ¬ W k → hf' k = hf k) (h4 : ∀ k, n ≤ k → k < n' → W k) (hW : ¬ W k) : merge h hf hf' n n' k = h k := by
  unfold merge
  split
  · rename_i hc
    simp only [Bool.or_eq_true, Bool.and_eq_true, decide_eq_true_eq] at hc
    rcases hc with hc | hc
    · rw [h3 k hW]
      cases hq : hf k with
      | none => rw [hq] at hc; cases hc
      | some o => exact (h1 k o hq).1.symm
    · exact absurd (h4 k hc.1 hc.2) hW
  · rfl

/-- Two changes of memory that may go either way do. -/
theorem core_swap {ox oy : OutE} {lx ly : Lab} {h h1 h2 : Hp} {n n1 n2 : Nat} {dx dy : EV} (hx : CoreL P ox lx h n dx h1 n1) (hy : CoreL P oy ly h1 n1 dy h2 n2) (hc : Compat lx ly)
    (fx : ∀ id, lx = .new id → h id = none ∧ id < n) (fy : ∀ id, ly = .new id → h id = none ∧ id < n ∧ lx ≠ .new id) (gx : ∀ id k, lx = .new id → ly = .look k → k ≠ id) :
    ∃ h1' n1', CoreL P oy ly h n dy h1' n1' ∧ CoreL P ox lx h1' n1' dx h2 n2 := by
  cases lx with
  | quiet =>
    obtain ⟨c, rfl, hcc, rfl, rfl⟩ := hx
    exact ⟨h2, n2, hy, c, rfl, hcc, rfl, rfl⟩
  | look k =>
    obtain ⟨r, ob, rfl, hk, hr, rfl, rfl⟩ := hx
    refine ⟨h2, n2, hy, r, ob, rfl, ?_, hr, rfl, rfl⟩
    cases ly with
    | quiet => obtain ⟨_, _, _, rfl, rfl⟩ := hy; exact hk
    | look k' => obtain ⟨_, _, _, _, _, rfl, rfl⟩ := hy; exact hk
    | new id =>
      obtain ⟨_, _, _, _, _, _, rfl, rfl⟩ := hy
      have hne : k ≠ id := fun e => by subst e; rw [(fy k rfl).1] at hk; cases hk
      rw [upd_ne _ _ hne]
      exact hk
    | eff W X =>
      obtain ⟨hf, hf', q1, q2, q3, q4, q5, rfl⟩ := hy
      rw [merge_look q1 q3 q4 hc]
      exact hk
  | new id =>
    obtain ⟨c, ob, mk, rfl, hcc, rfl, rfl, rfl⟩ := hx
    obtain ⟨fx1, fx2⟩ := fx id rfl
    cases ly with
    | quiet =>
      obtain ⟨c', rfl, hcc', rfl, rfl⟩ := hy
      exact ⟨h, n2, ⟨c', rfl, hcc', rfl, rfl⟩, c, ob, mk, rfl, hcc, rfl, rfl, rfl⟩
    | look k' =>
      obtain ⟨r, ob', rfl, hk, hr, rfl, rfl⟩ := hy
      rw [upd_ne _ _ (gx id k' rfl rfl)] at hk
      exact ⟨h, n2, ⟨r, ob', rfl, hk, hr, rfl, rfl⟩, c, ob, mk, rfl, hcc, rfl, rfl, rfl⟩
    | new id' =>
      obtain ⟨c', ob', mk', rfl, hcc', rfl, rfl, rfl⟩ := hy
      have hne : id ≠ id' := fun e => (fy id' rfl).2.2 (by rw [e])
      refine ⟨upd h id' (some ob'), n2, ⟨c', ob', mk', rfl, hcc', rfl, rfl, rfl⟩, c, ob, mk, rfl, hcc, rfl, ?_, rfl⟩
      funext i
      by_cases h1 : i = id
      · subst h1; rw [upd_ne _ _ hne, upd_same, upd_same]
      · by_cases h2 : i = id'
        · subst h2; rw [upd_same, upd_ne _ _ h1, upd_same]
        · rw [upd_ne _ _ h2, upd_ne _ _ h1, upd_ne _ _ h1, upd_ne _ _ h2]
    | eff W X =>
      obtain ⟨hf, hf', q1, q2, q3, q4, q5, rfl⟩ := hy
      have hid : hf id = none := by
        cases hq : hf id with
        | none => rfl
        | some o => exact absurd hc (q1 id o hq).2
      refine ⟨merge h hf hf' _ n2, n2, ⟨hf, hf', fun k o hk => ⟨?_, (q1 k o hk).2⟩, q2, q3, q4, q5, rfl⟩, c, ob, mk, rfl, hcc, rfl, ?_, rfl⟩
      · have hne : k ≠ id := fun e => by subst e; rw [hid] at hk; cases hk
        have := (q1 k o hk).1
        rw [upd_ne _ _ hne] at this
        exact this
      · funext i
        by_cases hi : i = id
        · subst hi
          rw [merge_at hid fx2, upd_same, upd_same]
        · rw [upd_ne _ _ hi]
          unfold merge
          split
          · rfl
          · rw [upd_ne _ _ hi]
  | eff W X =>
    obtain ⟨hf, hf', q1, q2, q3, q4, q5, rfl⟩ := hx
    cases ly with
    | quiet =>
      obtain ⟨c', rfl, hcc', rfl, rfl⟩ := hy
      exact ⟨h, n, ⟨c', rfl, hcc', rfl, rfl⟩, hf, hf', q1, q2, q3, q4, q5, rfl⟩
    | look k' =>
      obtain ⟨r, ob', rfl, hk, hr, rfl, rfl⟩ := hy
      rw [merge_look q1 q3 q4 hc] at hk
      exact ⟨h, n, ⟨r, ob', rfl, hk, hr, rfl, rfl⟩, hf, hf', q1, q2, q3, q4, q5, rfl⟩
    | new id =>
      obtain ⟨c', ob', mk', rfl, hcc', rfl, rfl, rfl⟩ := hy
      obtain ⟨f1, f2, _⟩ := fy id rfl
      have hid : hf id = none := by
        cases hq : hf id with
        | none => rfl
        | some o => rw [(q1 id o hq).1] at f1; cases f1
      refine ⟨upd h id (some ob'), n, ⟨c', ob', mk', rfl, hcc', rfl, rfl, rfl⟩, hf, hf', fun k o hk => ⟨?_, (q1 k o hk).2⟩, q2, q3, q4, q5, ?_⟩
      · have hne : k ≠ id := fun e => by subst e; rw [hid] at hk; cases hk
        rw [upd_ne _ _ hne]
        exact (q1 k o hk).1
      · funext i
        by_cases hi : i = id
        · subst hi
          rw [upd_same, merge_at hid f2, upd_same]
        · rw [upd_ne _ _ hi]
          unfold merge
          split
          · rfl
          · rw [upd_ne _ _ hi]
    | eff W' X' => exact hc.elim

/-- Two operations that may go either way do. -/
theorem swapL (hR : ReE B V s a w) {x y : Oper} {lx ly : Lab} (hap : x.apart ops y = true) (hc : Compat lx ly) (vx : ∀ id, lx = .new id → V id) (vy : ∀ id, ly = .new id → V id ∧ lx ≠ .new id) (h1 : StepL P ops lx x s s1) (h2 : StepL P ops ly y s1 s2) :
    ∃ s1', StepL P ops ly y s s1' ∧ StepL P ops lx x s1' s2 := by
  obtain ⟨G, hR⟩ := hR
  obtain ⟨a1, a2, a3⟩ := Oper.apart_spec hap
  obtain ⟨dx, hx1, nx1, cx, rfl⟩ := stepL_iff.1 h1
  obtain ⟨dy, hy2, ny2, cy, rfl⟩ := stepL_iff.1 h2
  have hfree : ∀ id, V id → s.heap id = none ∧ id < s.next := by
    intro id hV
    refine ⟨?_, (hR.vlt id hV).2⟩
    cases hq : s.heap id with
    | none => rfl
    | some o =>
      obtain ⟨p, hp, _⟩ := hR.mem.obj id o hq
      rw [hR.mem.fresh id (.inr hV)] at hp
      cases hp
  -- y, ahead of x
  have hev : opE P y (({ env := s.env, heap := hx1, next := nx1 } : SE).put x.dst dx).ev = opE P y s.ev := opE_congr y (ev_put (ops := ops) (s := { env := s.env, heap := hx1, next := nx1 }) a1)
  have hwy : wantedE ops (({ env := s.env, heap := hx1, next := nx1 } : SE).put x.dst dx) y = wantedE ops s y := wanted_put (s := { env := s.env, heap := hx1, next := nx1 }) a1
  have key : ∃ h1' n1', CoreS P ops ly y s dy h1' n1' ∧ (∀ e, (∀ z ∈ x.op.operands, ∀ s3 : SE, s3.env = e → s3.ev z = s.ev z) → wantedE ops { env := e, heap := h1', next := n1' } x = wantedE ops s x → CoreS P ops lx x { env := e, heap := h1', next := n1' } dx hy2 ny2) := by
    have lift : ∀ {h1' : Hp} {n1' : Nat}, ((wantedE ops s x = some true ∧ CoreL P (opE P x s.ev) lx h1' n1' dx hy2 ny2) ∨ (wantedE ops s x = some false ∧ lx = .quiet ∧ dx = er undef ∧ hy2 = h1' ∧ ny2 = n1')) → ∀ e, (∀ z ∈ x.op.operands, ∀ s3 : SE, s3.env = e → s3.ev z = s.ev z) → wantedE ops { env := e, heap := h1', next := n1' } x = wantedE ops s x → CoreS P ops lx x { env := e, heap := h1', next := n1' } dx hy2 ny2 := by
      intro h1' n1' hh e he hw
      rcases hh with ⟨hw1, hcore⟩ | ⟨hw1, q1, q2, q3, q4⟩
      · refine ⟨.inl ⟨hw.trans hw1, ?_⟩⟩
        rw [opE_congr (P := P) x (ρ := ({ env := e, heap := h1', next := n1' } : SE).ev) (ρ' := s.ev) (fun z hz => he z hz _ rfl)]
        exact hcore
      · exact ⟨.inr ⟨hw.trans hw1, q1, q2, q3, q4⟩⟩
    rcases cy.ex with ⟨hw2, hc2⟩ | ⟨hw2, rfl, rfl, e1, e2⟩
    · rw [hev, (put_env _ _ _).1, (put_env _ _ _).2] at hc2
      rcases cx.ex with ⟨hw1, hc1⟩ | ⟨hw1, rfl, rfl, rfl, rfl⟩
      · obtain ⟨h1', n1', p1, p2⟩ := core_swap hc1 hc2 hc (fun id e => hfree id (vx id e)) (fun id e => ⟨(hfree id (vy id e).1).1, (hfree id (vy id e).1).2, (vy id e).2⟩) (fun id k e1 e2 => by
          subst e1 e2
          obtain ⟨r, ob, ho, _⟩ := hc2
          obtain ⟨p, hp⟩ := look_named (P := P) (G := G) (ρ := a.eval) hR.ev ho
          intro e
          subst e
          rw [hR.mem.fresh k (.inr (vx k rfl))] at hp
          cases hp)
        exact ⟨h1', n1', ⟨.inl ⟨hwy ▸ hw2, p1⟩⟩, lift (.inl ⟨hw1, p2⟩)⟩
      · exact ⟨hy2, ny2, ⟨.inl ⟨hwy ▸ hw2, hc2⟩⟩, lift (.inr ⟨hw1, rfl, rfl, rfl, rfl⟩)⟩
    · rw [(put_env _ _ _).1] at e1
      rw [(put_env _ _ _).2] at e2
      subst e1 e2
      refine ⟨s.heap, s.next, ⟨.inr ⟨hwy ▸ hw2, rfl, rfl, rfl, rfl⟩⟩, lift cx.ex⟩
  obtain ⟨h1', n1', hy', hx'⟩ := key
  refine ⟨_, stepL_iff.2 ⟨dy, h1', n1', hy', rfl⟩, stepL_iff.2 ⟨dx, hy2, ny2, ?_, ?_⟩⟩
  · have henv : (({ env := s.env, heap := h1', next := n1' } : SE).put y.dst dy) = { env := (({ env := s.env, heap := h1', next := n1' } : SE).put y.dst dy).env, heap := h1', next := n1' } := by cases y.dst <;> rfl
    rw [henv]
    refine hx' _ (fun z hz s3 hs3 => ?_) ?_
    · have := ev_put (ops := ops) (s := { env := s.env, heap := h1', next := n1' }) (o := y) (y := x) (d := dy) a3 z hz
      cases z with
      | tmp t => simp only [SE.ev] at this ⊢; rw [hs3]; exact this
      | _ => rfl
    · rw [← henv]
      exact wanted_put (s := { env := s.env, heap := h1', next := n1' }) a3
  · cases hx : x.dst with
    | none => cases hy : y.dst <;> rfl
    | some d =>
      cases hy : y.dst with
      | none => rfl
      | some d' =>
        have hne : d ≠ d' := fun e => a2 d hx (by rw [hy, e])
        simp only [SE.put]
        congr 1
        funext i
        by_cases h1 : i = d
        · subst h1; rw [upd_ne _ _ hne, upd_same, upd_same]
        · by_cases h2 : i = d'
          · subst h2; rw [upd_same, upd_ne _ _ h1, upd_same]
          · rw [upd_ne _ _ h2, upd_ne _ _ h1, upd_ne _ _ h1, upd_ne _ _ h2]

/-- Operations one behind the other. -/
def RunL (P : Program) (ops : Array Oper) (lab : Nat → Lab) : List Nat → SE → SE → Prop
  | [], s, s' => s' = s
  | i :: l, s, s' => match ops[i]? with
    | none => RunL P ops lab l s s'
    | some o => ∃ s1, StepL P ops (lab i) o s s1 ∧ RunL P ops lab l s1 s'
/-- The numbers that are set aside for operations. -/
def Aside (base : Nat) (l : List Nat) (k : Nat) : Prop := ∃ j ∈ l, k = base + j

theorem run_soundE (hok : dstOk B.nt ops = true) {base : Nat} {lab : Nat → Lab} (hl : ∀ j id, lab j = .new id → id = base + j) : ∀ (l : List Nat) (s : SE) (a : Act) (w : World), l.Nodup → RunL P ops lab l s s' → ReE B (Aside base l) s a w → (∀ a' w', ReE B (fun _ => False) s' a' w' → Q .normal a' w') → wpOps P ops Q l a w := by
  intro l
  induction l with
  | nil => intro s a w _ h hR hQ; simp only [RunL] at h; subst h; exact hQ a w (hR.less (fun k hk => hk.elim))
  | cons i l ih =>
    intro s a w hnd h hR hQ
    rw [wpOps_cons]
    simp only [RunL] at h
    have hnd' := List.nodup_cons.1 hnd
    cases ho : ops[i]? with
    | none =>
      rw [ho] at h
      unfold wpOp
      rw [ho]
      exact ih s a w hnd'.2 h (hR.less (fun k ⟨j, hj, e⟩ => ⟨j, by simp [hj], e⟩)) hQ
    | some o =>
      rw [ho] at h
      obtain ⟨s1, h1, h2⟩ := h
      obtain ⟨G, hR⟩ := hR
      refine stepL_sound hR hok ho (fun id e => ⟨i, by simp, hl i id e⟩) h1 (fun a' w' hR' => ih s1 a' w' hnd'.2 h2 (hR'.less fun k ⟨j, hj, e⟩ => ?_) hQ)
      have hin : Aside base (i :: l) k := ⟨j, by simp [hj], e⟩
      cases hlab : lab i with
      | new id =>
        refine ⟨hin, fun e2 => ?_⟩
        have := hl i id hlab
        have : j = i := by omega
        subst this
        exact hnd'.1 hj
      | _ => exact hin

theorem pullL (hok : dstOk B.nt ops = true) {base : Nat} {lab : Nat → Lab} (hl : ∀ j id, lab j = .new id → id = base + j) {i : Nat} {y : Oper} (hy : ops[i]? = some y) (post : List Nat) : ∀ (pre : List Nat) (s : SE) (a : Act) (w : World), (pre ++ i :: post).Nodup →
    (∀ k ∈ pre, ∀ x, ops[k]? = some x → x.apart ops y = true ∧ Compat (lab k) (lab i)) → RunL P ops lab (pre ++ i :: post) s s' → ReE B (Aside base (pre ++ i :: post)) s a w →
    ∃ s1, StepL P ops (lab i) y s s1 ∧ RunL P ops lab (pre ++ post) s1 s' := by
  intro pre
  induction pre with
  | nil =>
    intro s a w _ _ h hR
    simp only [List.nil_append, RunL, hy] at h
    exact h
  | cons k pre ih =>
    intro s a w hnd hfree h hR
    simp only [List.cons_append, RunL] at h ⊢
    have hnd' := List.nodup_cons.1 (by simpa using hnd : (k :: (pre ++ i :: post)).Nodup)
    have hki : k ≠ i := fun e => hnd'.1 (by simp [e])
    cases hk : ops[k]? with
    | none =>
      rw [hk] at h
      obtain ⟨s1, h1, h2⟩ := ih s a w hnd'.2 (fun k' hk' => hfree k' (by simp [hk'])) h (hR.less (fun x ⟨j, hj, e⟩ => ⟨j, by simp at hj ⊢; right; exact hj, e⟩))
      exact ⟨s1, h1, h2⟩
    | some x =>
      rw [hk] at h
      obtain ⟨t, h1, h2⟩ := h
      have vk : ∀ id, lab k = .new id → Aside base (k :: pre ++ i :: post) id := fun id e => ⟨k, by simp, hl k id e⟩
      obtain ⟨a', w', hR'⟩ := satL hR hok hk vk h1
      have hR'' : ReE B (Aside base (pre ++ i :: post)) t a' w' := hR'.less fun z ⟨j, hj, e⟩ => by
        have hin : Aside base (k :: pre ++ i :: post) z := ⟨j, by simp at hj ⊢; right; exact hj, e⟩
        cases hlab : lab k with
        | new id =>
          refine ⟨hin, fun e2 => ?_⟩
          have := hl k id hlab
          have : j = k := by omega
          subst this
          exact hnd'.1 hj
        | _ => exact hin
      obtain ⟨t1, h3, h4⟩ := ih t a' w' hnd'.2 (fun k' hk' => hfree k' (by simp [hk'])) h2 hR''
      obtain ⟨f1, f2⟩ := hfree k (by simp) x hk
      obtain ⟨s1, h5, h6⟩ := swapL hR f1 f2 vk (fun id e => ⟨⟨i, by simp, hl i id e⟩, fun e2 => hki (by have := hl i id e; have := hl k id e2; omega)⟩) h1 h3
      exact ⟨s1, h5, t1, h6, h4⟩

/-- The edges of a region, and that what may go either way has slots of its own. -/
def regOk (ops : Array Oper) : Bool :=
  let t := ancTab ops.toList
  (List.range ops.size).all fun j => match ops[j]? with
    | some y => (y.after.toList.all fun e => !Region.binds .any e || decide (e.on < j)) && (List.range j).all fun i => (t.getD j 0).testBit i || match ops[i]? with
      | some x => x.apart ops y
      | none => true
    | none => true

theorem ReE.drew (h : ReE B V s a w) : ReE B V s a { w with drawn := w.drawn + 1 } := by
  obtain ⟨G, hR⟩ := h
  refine ⟨G, hR.size, hR.defers, hR.env, ⟨hR.mem.chg.trans (T' := fun _ => False) ⟨rfl, rfl, rfl, Nat.le_refl _, fun _ _ _ => rfl⟩ (fun _ f => f.elim), hR.mem.facts, fun k o hk => ?_, hR.mem.noF, hR.mem.apart, hR.mem.fresh, hR.mem.base.keep (Facts.sub_refl _) (fun _ _ _ => rfl)⟩, hR.vlt, hR.ext, hR.nge⟩
  obtain ⟨p, h1, h2, h3⟩ := hR.mem.obj k o hk
  exact ⟨p, h1, h2, h3.mono (Gg.le_refl (fun _ => False) G) rfl⟩

theorem anyE_sound (hok : dstOk B.nt ops = true) (hd : regOk ops = true) {base : Nat} {lab : Nat → Lab} (hl : ∀ j id, lab j = .new id → id = base + j)
    (hcomp : ∀ i j x y, i < j → ops[i]? = some x → ops[j]? = some y → ((ancTab ops.toList).getD j 0).testBit i = false → Compat (lab i) (lab j)) (hQ : ∀ a' w', ReE B (fun _ => False) s' a' w' → Q .normal a' w') : ∀ (fuel : Nat) (listed : Array Bool) (s : SE) (a : Act) (w : World),
    listed.size = ops.size → (left listed ops.size).length ≤ fuel → (∀ (j : Nat) o, listed.getD j false = true → ops[j]? = some o → ∀ e ∈ o.after, Region.binds .any e = true → listed.getD e.on false = true) →
    RunL P ops lab (left listed ops.size) s s' → ReE B (Aside base (left listed ops.size)) s a w → wpAny P .any ops Q fuel listed a w := by
  have hedge : ∀ (j : Nat) o, ops[j]? = some o → ∀ e ∈ o.after, Region.binds .any e = true → e.on < j := by
    intro j o ho e he hb
    have hj : j ∈ List.range ops.size := by simpa using (Array.getElem?_eq_some_iff.1 ho).1
    have := List.all_eq_true.1 hd j hj
    rw [ho] at this
    simp only [Bool.and_eq_true] at this
    have := List.all_eq_true.1 this.1 e (by simpa using he)
    simpa [hb] using this
  have hpair : ∀ (i j : Nat) x y, i < j → ops[i]? = some x → ops[j]? = some y → ((ancTab ops.toList).getD j 0).testBit i = true ∨ (x.apart ops y = true ∧ Compat (lab i) (lab j)) := by
    intro i j x y hij hx hy
    cases hb : ((ancTab ops.toList).getD j 0).testBit i with
    | true => exact .inl rfl
    | false =>
      refine .inr ⟨?_, hcomp i j x y hij hx hy hb⟩
      have hj : j ∈ List.range ops.size := by simpa using (Array.getElem?_eq_some_iff.1 hy).1
      have := List.all_eq_true.1 hd j hj
      rw [hy] at this
      simp only [Bool.and_eq_true] at this
      have := List.all_eq_true.1 this.2 i (by simpa using hij)
      rw [hx] at this
      simp only [Bool.or_eq_true] at this
      rcases this with ht | ht
      · rw [hb] at ht; cases ht
      · exact ht
  have mem_left : ∀ (listed : Array Bool) i, i ∈ left listed ops.size ↔ i < ops.size ∧ listed.getD i true = false := by
    intro listed i; simp [left]
  have hnodup : ∀ listed : Array Bool, (left listed ops.size).Nodup := fun listed => (List.nodup_range).filter _
  have finish : ∀ (listed : Array Bool) (s : SE) (a : Act) (w : World), listed.size = ops.size → Region.ready .any ops listed = [] → RunL P ops lab (left listed ops.size) s s' → ReE B (Aside base (left listed ops.size)) s a w → Q .normal a w := by
    intro listed s a w hls hr h hR
    have hnil : left listed ops.size = [] := by
      cases hl : left listed ops.size with
      | nil => rfl
      | cons i l =>
        exfalso
        -- the first that is left is ready
        have hi : i ∈ left listed ops.size := by rw [hl]; simp
        obtain ⟨hin, hiu⟩ := (mem_left listed i).1 hi
        have hmin : ∀ k, k < i → listed.getD k false = true := by
          intro k hk
          cases hkk : listed.getD k false with
          | true => rfl
          | false =>
            exfalso
            have hkl : k ∈ left listed ops.size := by
              rw [mem_left]
              refine ⟨by omega, ?_⟩
              have hks : k < listed.size := by omega
              rw [Array.getD_eq_getD_getElem?, Array.getElem?_eq_getElem hks] at hkk ⊢
              exact hkk
            have hs : (left listed ops.size).Pairwise (· < ·) := List.pairwise_lt_range.filter _
            rw [hl] at hs hkl
            rcases List.mem_cons.1 hkl with h | h
            · omega
            · have := (List.pairwise_cons.1 hs).1 k h; omega
        have : i ∈ Region.ready .any ops listed := by
          rw [mem_ready]
          refine ⟨hiu, ops[i], Array.getElem?_eq_getElem hin, fun e he hb => hmin _ (hedge i _ (Array.getElem?_eq_getElem hin) e he hb)⟩
        rw [hr] at this
        cases this
    rw [hnil] at h
    simp only [RunL] at h
    subst h
    exact hQ a w (hR.less (fun k hk => hk.elim))
  intro fuel
  induction fuel with
  | zero =>
    intro listed s a w hls hle hcl h hR
    have hnil : left listed ops.size = [] := List.eq_nil_of_length_eq_zero (by omega)
    have hr : Region.ready .any ops listed = [] := by
      cases hq : Region.ready .any ops listed with
      | nil => rfl
      | cons i l =>
        exfalso
        have hi : i ∈ Region.ready .any ops listed := by rw [hq]; simp
        obtain ⟨h0, o, ho, _⟩ := mem_ready.1 hi
        have : i ∈ left listed ops.size := (mem_left _ _).2 ⟨(Array.getElem?_eq_some_iff.1 ho).1, h0⟩
        rw [hnil] at this
        cases this
    exact ⟨hr, finish listed s a w hls hr h hR⟩
  | succ fuel ih =>
    intro listed s a w hls hle hcl h hR
    refine ⟨fun hr => finish listed s a w hls hr h hR, fun i hi => ?_⟩
    obtain ⟨h0, y, hy, hall⟩ := mem_ready.1 hi
    have hin : i < ops.size := (Array.getElem?_eq_some_iff.1 hy).1
    have hil : i ∈ left listed ops.size := (mem_left _ _).2 ⟨hin, h0⟩
    obtain ⟨pre, post, hsplit⟩ := List.append_of_mem hil
    have hsort : (left listed ops.size).Pairwise (· < ·) := List.pairwise_lt_range.filter _
    have hnd := hnodup listed
    rw [hsplit] at h hsort hR hnd
    have hpre : ∀ k ∈ pre, k < i := fun k hk => (List.pairwise_append.1 hsort).2.2 k hk i (by simp)
    have hfree : ∀ k ∈ pre, ∀ x, ops[k]? = some x → x.apart ops y = true ∧ Compat (lab k) (lab i) := by
      intro k hk x hx
      rcases hpair k i x y (hpre k hk) hx hy with hb | hb
      · exfalso
        have := anc_listed (ops := ops) (fun j => listed.getD j false = true) hedge hcl (i + 1) i k (Nat.lt_succ_self _) (fun o ho e he hbi => by rw [hy] at ho; injection ho with ho; subst ho; exact hall e he hbi) hb
        have hkl : k ∈ left listed ops.size := by rw [hsplit]; simp [hk]
        obtain ⟨hks, hku⟩ := (mem_left _ _).1 hkl
        have hks' : k < listed.size := by omega
        rw [Array.getD_eq_getD_getElem?, Array.getElem?_eq_getElem hks'] at this hku
        simp at this hku
        rw [this] at hku
        cases hku
      · exact hb
    obtain ⟨s1, h1, h2⟩ := pullL hok hl hy post pre s a w hnd hfree h hR
    obtain ⟨G, hR⟩ := hR
    have hn1 : i ∉ pre := fun hm => (List.nodup_append.1 hnd).2.2 i hm i (by simp) rfl
    have hn2 : i ∉ post := (List.nodup_cons.1 (List.nodup_append.1 hnd).2.1).1
    have hnew : left (listed.setIfInBounds i true) ops.size = pre ++ post := by
      have e : left (listed.setIfInBounds i true) ops.size = (left listed ops.size).filter (fun j => j != i) := by
        unfold left
        rw [List.filter_filter]
        apply List.filter_congr
        intro j hj
        by_cases hji : j = i
        · subst hji
          have : j < listed.size := by omega
          simp [this]
        · rw [getD_set_ne true (Ne.symm hji)]
          have : (j != i) = true := by simp [hji]
          rw [this, Bool.true_and]
      rw [e, hsplit, List.filter_append, List.filter_cons]
      have f1 : pre.filter (fun j => j != i) = pre := by rw [List.filter_eq_self]; intro j hj; simp; intro e; subst e; exact hn1 hj
      have f2 : post.filter (fun j => j != i) = post := by rw [List.filter_eq_self]; intro j hj; simp; intro e; subst e; exact hn2 hj
      rw [f1, f2]
      simp
    refine stepL_sound hR hok hy (fun id e => ⟨i, by simp, hl i id e⟩) h1 fun a' w' hR' => ih _ s1 a' w' (by simp [hls]) ?_ ?_ (by rw [hnew]; exact h2) ?_
    · rw [hnew]
      rw [hsplit] at hle
      simp at hle ⊢
      omega
    · intro j o hj ho e he hb
      by_cases hji : j = i
      · subst hji
        rw [hy] at ho
        injection ho with ho
        subst ho
        exact getD_set_true (hall e he hb)
      · rw [getD_set_ne false (Ne.symm hji)] at hj
        exact getD_set_true (hcl j o hj ho e he hb)
    · rw [hnew]
      refine hR'.less fun z ⟨j, hj, e⟩ => ?_
      have hin' : Aside base (pre ++ i :: post) z := ⟨j, by simp at hj ⊢; rcases hj with hj | hj; exact .inl hj; exact .inr (.inr hj), e⟩
      cases hlab : lab i with
      | new id =>
        refine ⟨hin', fun e2 => ?_⟩
        have := hl i id hlab
        have : j = i := by omega
        subst this
        rcases List.mem_append.1 hj with hj | hj
        · exact hn1 hj
        · exact hn2 hj
      | _ => exact hin'

/-- A region, its numbers set aside. -/
theorem aside_start (hR : ReE B (fun _ => False) s a w) (m : Nat) : ReE B (Aside s.next (List.range m)) { s with next := s.next + m } a w := by
  obtain ⟨G, hR⟩ := hR
  have hng := hR.nge
  refine ⟨G, hR.size, hR.defers, fun t => hR.env t, hR.mem.sub (fun _ _ h => h) (fun k hk => ?_), fun k hk => ?_, Gg.le_mono hR.ext (fun k hk => ⟨hk.1, by show k < s.next + m; omega⟩), by show B.n0 ≤ s.next + m; omega⟩
  · rcases hk with hk | ⟨j, _, rfl⟩
    · exact .inl (by have : s.next + m ≤ k := hk; omega)
    · exact .inl (Nat.le_add_right _ _)
  · obtain ⟨j, hj, rfl⟩ := hk
    have := List.mem_range.1 hj
    show B.n0 ≤ s.next + j ∧ s.next + j < s.next + m
    omega
theorem regionE_sound (hok : dstOk B.nt ops = true) {lab : Nat → Lab} (hl : ∀ j id, lab j = .new id → id = s.next + j) (id : Nat) (h : RunL P ops lab (List.range ops.size) { s with next := s.next + ops.size } s') (hR : ReE B (fun _ => False) s a w) (hQ : ∀ a' w', ReE B (fun _ => False) s' a' w' → Q .normal a' w') : (Code.region id ops false).wp P Q a w :=
  wp_region (run_soundE hok hl _ _ a w List.nodup_range h (aside_start hR ops.size) hQ)
theorem drawE_sound (hm : P.follows .mixedOrders = true) (hok : dstOk B.nt ops = true) (hd : regOk ops = true) {lab : Nat → Lab} (hl : ∀ j id, lab j = .new id → id = s.next + j)
    (hcomp : ∀ i j x y, i < j → ops[i]? = some x → ops[j]? = some y → ((ancTab ops.toList).getD j 0).testBit i = false → Compat (lab i) (lab j)) (id : Nat) (h : RunL P ops lab (List.range ops.size) { s with next := s.next + ops.size } s') (hR : ReE B (fun _ => False) s a w) (hQ : ∀ a' w', ReE B (fun _ => False) s' a' w' → Q .normal a' w') : (Code.region id ops true).wp P Q a w := by
  have hlf : left (Array.replicate ops.size false) ops.size = List.range ops.size := by
    unfold left
    rw [List.filter_eq_self]
    intro i hi
    simp at hi
    simp [hi]
  refine wp_region_any hm (anyE_sound hok hd hl hcomp hQ ops.size _ _ a _ (by simp) (by rw [hlf]; simp) (fun j o hj => ?_) (by rw [hlf]; exact h) (by rw [hlf]; exact (aside_start hR ops.size).drew))
  exfalso
  simp [Array.getElem?_replicate] at hj
  split at hj <;> simp at hj
end
end Go.Proofs.YtdbaklnjemcfgaaGreatDoor.E
