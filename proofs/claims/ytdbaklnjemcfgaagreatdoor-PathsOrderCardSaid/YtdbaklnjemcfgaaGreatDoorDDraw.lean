/- A region whose order is drawn: if what may go either way does not meet, all orders do the same (draw_sound). Conditions: drawOk. -/
import Derived.Test.YtdbaklnjemcfgaaGreatDoorDRegion
namespace Go.Proofs.YtdbaklnjemcfgaaGreatDoor.D
open Go.RowKit Go.Proofs.YtdbaklnjemcfgaaGreatDoor.Mem
set_option linter.unusedVariables false
set_option linter.unusedSimpArgs false

def opStores : Op → Bool
  | .store .. => true
  | .mapUpdate .. => true
  | _ => false
def opHeap : Op → Bool
  | .store .. => true
  | .load .. => true
  | .mapUpdate .. => true
  | .lookup .. => true
  | .call c => match c.callee with
    | .builtin .len => true
    | .builtin _ => false
    | _ => true
  | _ => false
def opGrows : Op → Bool
  | .call c => match c.callee with
    | .builtin .append => true
    | _ => false
  | _ => false
/-- Two operations that may go either way. -/
def freeD (ops : Array Oper) (x y : Oper) : Bool :=
  x.apart ops y && !(opStores x.op && opHeap y.op) && !(opHeap x.op && opStores y.op) && !(opGrows x.op && opGrows y.op)

section
variable {P : Program} {w0 w w' : World} {F0 : Facts} {G : Gh} {s s' : St} {nt : Nat} {a : Act} {ops : Array Oper} {Q : Exit → Act → World → Prop}

def outStores : Out → Bool
  | .store .. => true
  | .turn .. => true
  | _ => false
def outHeap (o : Out) : Bool := !(Hr o).isEmpty
def outGrows : Out → Bool
  | .grow .. => true
  | _ => false
theorem out_stores {o : Oper} {ρ : Operand → DV} (h : outStores (opD P o ρ) = true) : opStores o.op = true := by
  unfold opD at h
  split at h <;> rename_i hop <;> (try (simp only [outStores] at h; cases h; done))
  case h_10 => rw [hop]; rfl
  case h_24 => rw [hop]; rfl
  all_goals
    exfalso
    clear hop
    first
      | (simp [outStores] at h; done)
      | (split at h <;> simp [outStores] at h; done)
      | (unfold loadD at h; repeat' (first | split at h | (simp [outStores] at h; done)))
      | (unfold storeD at h; repeat' (first | split at h | (simp [outStores] at h; done)))
      | (unfold buildD at h; repeat' (first | split at h | (simp [outStores] at h; done)))
      | (unfold buildSliceD at h; repeat' (first | split at h | (simp [outStores] at h; done)))
      | (unfold makeSliceD at h; repeat' (first | split at h | (simp [outStores] at h; done)))
      | (unfold binD intD strD at h; repeat' (first | split at h | (simp [outStores] at h; done)))
      | (unfold unD at h; repeat' (first | split at h | (simp [outStores] at h; done)))
      | (unfold convD at h; repeat' (first | split at h | (simp [outStores] at h; done)))
      | (unfold sliceD sliceS sliceR at h; repeat' (first | split at h | (simp [outStores] at h; done)))
      | (unfold fieldAddrD at h; repeat' (first | split at h | (simp [outStores] at h; done)))
      | (unfold fieldD at h; repeat' (first | split at h | (simp [outStores] at h; done)))
      | (unfold indexAddrD at h; repeat' (first | split at h | (simp [outStores] at h; done)))
      | (unfold indexD at h; repeat' (first | split at h | (simp [outStores] at h; done)))
      | (unfold callD lenD appendD at h; repeat' (first | split at h | (simp [outStores] at h; done)))
      | (unfold lookupD at h; repeat' (first | split at h | (simp [outStores] at h; done)))
      | (unfold updateD at h; repeat' (first | split at h | (simp [outStores] at h; done)))
      | (unfold funcD at h; repeat' (first | split at h | (simp [outStores] at h; done)))
      | (repeat' (first | split at h | (simp [outStores] at h; done)))
theorem out_heap {o : Oper} {ρ : Operand → DV} {k : Key} (h : k ∈ Hr (opD P o ρ)) : opHeap o.op = true := by
  unfold opD at h
  split at h <;> rename_i hop <;> (try (simp only [Hr, List.not_mem_nil] at h; done))
  case h_9 => rw [hop]; rfl
  case h_10 => rw [hop]; rfl
  case h_23 => rw [hop]; rfl
  case h_24 => rw [hop]; rfl
  case h_21 c =>
    rw [hop]
    unfold callD at h
    split at h
    · rename_i hc; simp [opHeap, hc]
    · split at h
      · unfold appendD at h
        repeat' (first | split at h | (simp [Hr] at h; done))
      · simp [Hr] at h
    · rename_i hc; simp [opHeap, hc]
    · simp [Hr] at h
  all_goals
    exfalso
    clear hop
    first
      | (simp [Hr] at h; done)
      | (split at h <;> simp [Hr] at h; done)
      | (unfold loadD at h; repeat' (first | split at h | (simp [Hr] at h; done)))
      | (unfold storeD at h; repeat' (first | split at h | (simp [Hr] at h; done)))
      | (unfold buildD at h; repeat' (first | split at h | (simp [Hr] at h; done)))
      | (unfold buildSliceD at h; repeat' (first | split at h | (simp [Hr] at h; done)))
      | (unfold makeSliceD at h; repeat' (first | split at h | (simp [Hr] at h; done)))
      | (unfold binD intD strD at h; repeat' (first | split at h | (simp [Hr] at h; done)))
      | (unfold unD at h; repeat' (first | split at h | (simp [Hr] at h; done)))
      | (unfold convD at h; repeat' (first | split at h | (simp [Hr] at h; done)))
      | (unfold sliceD sliceS sliceR at h; repeat' (first | split at h | (simp [Hr] at h; done)))
      | (unfold fieldAddrD at h; repeat' (first | split at h | (simp [Hr] at h; done)))
      | (unfold fieldD at h; repeat' (first | split at h | (simp [Hr] at h; done)))
      | (unfold indexAddrD at h; repeat' (first | split at h | (simp [Hr] at h; done)))
      | (unfold indexD at h; repeat' (first | split at h | (simp [Hr] at h; done)))
      | (unfold callD lenD appendD at h; repeat' (first | split at h | (simp [Hr] at h; done)))
      | (unfold lookupD at h; repeat' (first | split at h | (simp [Hr] at h; done)))
      | (unfold updateD at h; repeat' (first | split at h | (simp [Hr] at h; done)))
      | (unfold funcD at h; repeat' (first | split at h | (simp [Hr] at h; done)))
      | (repeat' (first | split at h | (simp [Hr] at h; done)))
theorem out_grows {o : Oper} {ρ : Operand → DV} {k : Key} (h : k ∈ Tr (opD P o ρ)) : opGrows o.op = true := by
  unfold opD at h
  split at h <;> rename_i hop <;> (try (simp only [Tr, List.not_mem_nil] at h; done))
  case h_21 c =>
    rw [hop]
    unfold callD at h
    split at h
    · split at h
      · unfold lenD at h
        repeat' (first | split at h | (simp [Tr] at h; done))
      · simp [Tr] at h
    · rename_i hc; simp [opGrows, hc]
    · repeat' (first | split at h | (simp [Tr] at h; done))
    · simp [Tr] at h
  all_goals
    exfalso
    clear hop
    first
      | (simp [Tr] at h; done)
      | (split at h <;> simp [Tr] at h; done)
      | (unfold loadD at h; repeat' (first | split at h | (simp [Tr] at h; done)))
      | (unfold storeD at h; repeat' (first | split at h | (simp [Tr] at h; done)))
      | (unfold buildD at h; repeat' (first | split at h | (simp [Tr] at h; done)))
      | (unfold buildSliceD at h; repeat' (first | split at h | (simp [Tr] at h; done)))
      | (unfold makeSliceD at h; repeat' (first | split at h | (simp [Tr] at h; done)))
      | (unfold binD intD strD at h; repeat' (first | split at h | (simp [Tr] at h; done)))
      | (unfold unD at h; repeat' (first | split at h | (simp [Tr] at h; done)))
      | (unfold convD at h; repeat' (first | split at h | (simp [Tr] at h; done)))
      | (unfold sliceD sliceS sliceR at h; repeat' (first | split at h | (simp [Tr] at h; done)))
      | (unfold fieldAddrD at h; repeat' (first | split at h | (simp [Tr] at h; done)))
      | (unfold fieldD at h; repeat' (first | split at h | (simp [Tr] at h; done)))
      | (unfold indexAddrD at h; repeat' (first | split at h | (simp [Tr] at h; done)))
      | (unfold indexD at h; repeat' (first | split at h | (simp [Tr] at h; done)))
      | (unfold callD lenD appendD at h; repeat' (first | split at h | (simp [Tr] at h; done)))
      | (unfold lookupD at h; repeat' (first | split at h | (simp [Tr] at h; done)))
      | (unfold updateD at h; repeat' (first | split at h | (simp [Tr] at h; done)))
      | (unfold funcD at h; repeat' (first | split at h | (simp [Tr] at h; done)))
      | (repeat' (first | split at h | (simp [Tr] at h; done)))

/-- A step of one operation, told by what it changes. -/
structure One (P : Program) (ops : Array Oper) (o : Oper) (s : St) (U : Upd) : Prop where
  ex : (wantedD ops s o = some true ∧ Pre P o.dst s U (opD P o s.ev)) ∨ (wantedD ops s o = some false ∧ U = ⟨.raw undef, none, none, false⟩)
theorem stepD_iff {o : Oper} : StepD P ops o s s' ↔ ∃ U, One P ops o s U ∧ s' = U.app o.dst s := by
  unfold StepD
  constructor
  · intro h
    split at h
    · rename_i hw
      obtain ⟨U, hp, rfl⟩ := step_iff.1 h
      exact ⟨U, ⟨.inl ⟨hw, hp⟩⟩, rfl⟩
    · rename_i hw
      subst h
      exact ⟨⟨.raw undef, none, none, false⟩, ⟨.inr ⟨hw, rfl⟩⟩, by cases o.dst <;> rfl⟩
    · exact h.elim
  · rintro ⟨U, ⟨⟨hw, hp⟩ | ⟨hw, rfl⟩⟩, rfl⟩
    · rw [hw]; exact step_iff.2 ⟨U, hp, rfl⟩
    · rw [hw]; cases o.dst <;> rfl

/-- What a change is about. -/
theorem One.heap {o : Oper} {U : Upd} (h : One P ops o s U) {k : Key} {c : List DV} (hU : U.h = some (k, c)) : (opStores o.op = true ∧ k ∈ Hr (opD P o s.ev)) ∨ ∃ x, o.dst = some x ∧ k = (x, s.gen x) := by
  rcases h.ex with ⟨_, hp⟩ | ⟨_, rfl⟩
  · cases ho : opD P o s.ev <;> rw [ho] at hp <;> simp only [Pre] at hp
    case val => obtain ⟨_, rfl⟩ := hp; cases hU
    case box => obtain ⟨x, hx, rfl⟩ := hp; simp at hU; exact .inr ⟨x, hx, hU.1.symm⟩
    case fresh => obtain ⟨_, x, hx, rfl⟩ := hp; cases hU
    case load => obtain ⟨_, _, _, rfl⟩ := hp; cases hU
    case store kk off n new =>
      obtain ⟨_, _, _, _, _, rfl⟩ := hp
      simp at hU
      exact .inl ⟨out_stores (P := P) (ρ := s.ev) (by rw [ho]; rfl), by simp [Hr, hU.1]⟩
    case grow => obtain ⟨_, _, _, _, rfl⟩ := hp; cases hU
    case call => obtain ⟨_, _, _, _, _, _, rfl⟩ := hp; cases hU
    case map => obtain ⟨x, hx, rfl⟩ := hp; simp at hU; exact .inr ⟨x, hx, hU.1.symm⟩
    case look => obtain ⟨_, _, _, _, rfl⟩ := hp; cases hU
    case turn kk f =>
      obtain ⟨_, _, _, _, rfl⟩ := hp
      simp at hU
      exact .inl ⟨out_stores (P := P) (ρ := s.ev) (by rw [ho]; rfl), by simp [Hr, hU.1]⟩
  · cases hU
theorem One.tip {o : Oper} {U : Upd} (h : One P ops o s U) {k : Key} {c : Nat × TypeId} (hU : U.t = some (k, c)) : k ∈ Tr (opD P o s.ev) ∨ ∃ x, o.dst = some x ∧ k = (x, s.gen x) := by
  rcases h.ex with ⟨_, hp⟩ | ⟨_, rfl⟩
  · cases ho : opD P o s.ev <;> rw [ho] at hp <;> simp only [Pre] at hp
    case val => obtain ⟨_, rfl⟩ := hp; cases hU
    case box => obtain ⟨x, hx, rfl⟩ := hp; cases hU
    case fresh => obtain ⟨_, x, hx, rfl⟩ := hp; simp at hU; exact .inr ⟨x, hx, hU.1.symm⟩
    case load => obtain ⟨_, _, _, rfl⟩ := hp; cases hU
    case store => obtain ⟨_, _, _, _, _, rfl⟩ := hp; cases hU
    case grow => obtain ⟨_, _, _, _, rfl⟩ := hp; simp at hU; exact .inl (by simp [Tr, hU.1])
    case call => obtain ⟨_, _, _, _, _, _, rfl⟩ := hp; cases hU
    case map => obtain ⟨x, hx, rfl⟩ := hp; cases hU
    case look => obtain ⟨_, _, _, _, rfl⟩ := hp; cases hU
    case turn => obtain ⟨_, _, _, _, rfl⟩ := hp; cases hU
  · cases hU

theorem ev_app {o y : Oper} {U : Upd} (h : ∀ d, o.dst = some d → d ∉ y.looksAt ops) : ∀ x ∈ y.op.operands, (U.app o.dst s).ev x = s.ev x := by
  intro x hx
  cases x with
  | tmp t =>
    cases hd : o.dst with
    | none => rfl
    | some d =>
      have hne : t ≠ d := fun e => h d hd (by subst e; simp only [Oper.looksAt, List.mem_append, List.mem_filterMap]; exact .inl ⟨.tmp t, by simpa using hx, rfl⟩)
      simp only [St.ev, Upd.app]
      exact upd_ne _ _ hne
  | _ => rfl
theorem wanted_app {o y : Oper} {U : Upd} (h : ∀ d, o.dst = some d → d ∉ y.looksAt ops) : wantedD ops (U.app o.dst s) y = wantedD ops s y := by
  unfold wantedD
  cases hg : y.guard with
  | none => rfl
  | some g =>
    obtain ⟨j, want⟩ := g
    simp only
    cases hj : (ops[j]?).bind (·.dst) with
    | none => rfl
    | some t =>
      cases hd : o.dst with
      | none => rfl
      | some d =>
        have hne : t ≠ d := fun e => h d hd (by subst e; simp only [Oper.looksAt, hg, List.mem_append, Option.mem_toList]; exact .inr hj)
        simp only [Upd.app]
        rw [upd_ne _ _ hne]

/-- Two operations that may go either way do. -/
theorem swap (hR : Re P nt w0 F0 s a w) {x y : Oper} (hf : freeD ops x y = true) {s1 s2 : St} (h1 : StepD P ops x s s1) (h2 : StepD P ops y s1 s2) : ∃ s1', StepD P ops y s s1' ∧ StepD P ops x s1' s2 := by
  obtain ⟨G, hR⟩ := hR
  simp only [freeD, Bool.and_eq_true, Bool.not_eq_true', Bool.and_eq_false_iff] at hf
  obtain ⟨⟨⟨hap, f1⟩, f2⟩, f3⟩ := hf
  obtain ⟨a1, a2, a3⟩ := Oper.apart_spec hap
  obtain ⟨U, hU, rfl⟩ := stepD_iff.1 h1
  obtain ⟨V, hV, rfl⟩ := stepD_iff.1 h2
  have hev : opD P y (U.app x.dst s).ev = opD P y s.ev := opD_congr y (ev_app (ops := ops) a1)
  -- fresh names are not those that are there
  have hfr : ∀ z : Nat, s.heap (z, s.gen z) = none ∧ s.tip (z, s.gen z) = none := hR.fresh_none
  have hex : ∀ (o : Oper) (k : Key), k ∈ Hr (opD P o s.ev) → s.heap k ≠ none := fun o k hk => by obtain ⟨z, hz⟩ := hr_from hk; exact hR.heap_some hz
  have tex : ∀ (o : Oper) (k : Key), k ∈ Tr (opD P o s.ev) → s.tip k ≠ none := fun o k hk => by obtain ⟨z, ver, rows, hz⟩ := tr_from hk; exact hR.tip_some hz
  have hgen : ∀ z, y.dst = some z → (U.app x.dst s).gen z = s.gen z := by
    intro z hz
    cases hd : x.dst with
    | none => rfl
    | some d =>
      have hne : z ≠ d := fun e => a2 d hd (by rw [hz, e])
      simp only [Upd.app]
      split
      · exact upd_ne _ _ hne
      · rfl
  -- y, ahead of x
  have hV' : One P ops y s V := by
    rcases hV.ex with ⟨hw, hp⟩ | ⟨hw, rfl⟩
    · refine ⟨.inl ⟨by rw [← wanted_app (ops := ops) (U := U) (s := s) a1]; exact hw, ?_⟩⟩
      rw [hev] at hp
      refine hp.congr hgen (fun k hk => ?_) (fun k hk => ?_)
      · cases hUh : U.h with
        | none => simp only [Upd.app, hUh]
        | some kc =>
          obtain ⟨kk, c⟩ := kc
          have hne : k ≠ kk := by
            intro e
            subst e
            rcases hU.heap hUh with ⟨hst, _⟩ | ⟨z, _, e⟩
            · rcases f1 with f1 | f1
              · rw [hst] at f1; cases f1
              · rw [out_heap hk] at f1; cases f1
            · subst e; exact hex y _ hk (hfr z).1
          simp only [Upd.app, hUh]
          exact updK_ne _ _ hne
      · cases hUt : U.t with
        | none => simp only [Upd.app, hUt]
        | some kc =>
          obtain ⟨kk, c⟩ := kc
          have hne : k ≠ kk := by
            intro e
            subst e
            rcases hU.tip hUt with htr | ⟨z, _, e⟩
            · rcases f3 with f3 | f3
              · rw [out_grows htr] at f3; cases f3
              · rw [out_grows hk] at f3; cases f3
            · subst e; exact tex y _ hk (hfr z).2
          simp only [Upd.app, hUt]
          exact updK_ne _ _ hne
    · exact ⟨.inr ⟨by rw [← wanted_app (ops := ops) (U := U) (s := s) a1]; exact hw, rfl⟩⟩
  have hev' : opD P x (V.app y.dst s).ev = opD P x s.ev := opD_congr x (ev_app (ops := ops) a3)
  have hgen' : ∀ z, x.dst = some z → s.gen z = (V.app y.dst s).gen z := by
    intro z hz
    cases hd : y.dst with
    | none => rfl
    | some d =>
      have hne : z ≠ d := fun e => a2 z hz (by rw [hd, e])
      simp only [Upd.app]
      split
      · exact (upd_ne _ _ hne).symm
      · rfl
  have hU' : One P ops x (V.app y.dst s) U := by
    rcases hU.ex with ⟨hw, hp⟩ | ⟨hw, rfl⟩
    · refine ⟨.inl ⟨by rw [wanted_app (ops := ops) a3]; exact hw, ?_⟩⟩
      rw [hev']
      refine hp.congr hgen' (fun k hk => ?_) (fun k hk => ?_)
      · cases hVh : V.h with
        | none => simp only [Upd.app, hVh]
        | some kc =>
          obtain ⟨kk, c⟩ := kc
          have hne : k ≠ kk := by
            intro e
            subst e
            rcases hV'.heap hVh with ⟨hst, _⟩ | ⟨z, _, e⟩
            · rcases f2 with f2 | f2
              · rw [out_heap hk] at f2; cases f2
              · rw [hst] at f2; cases f2
            · subst e; exact hex x _ hk (hfr z).1
          simp only [Upd.app, hVh]
          exact (updK_ne _ _ hne).symm
      · cases hVt : V.t with
        | none => simp only [Upd.app, hVt]
        | some kc =>
          obtain ⟨kk, c⟩ := kc
          have hne : k ≠ kk := by
            intro e
            subst e
            rcases hV'.tip hVt with htr | ⟨z, _, e⟩
            · rcases f3 with f3 | f3
              · rw [out_grows hk] at f3; cases f3
              · rw [out_grows htr] at f3; cases f3
            · subst e; exact tex x _ hk (hfr z).2
          simp only [Upd.app, hVt]
          exact (updK_ne _ _ hne).symm
    · exact ⟨.inr ⟨by rw [wanted_app (ops := ops) a3]; exact hw, rfl⟩⟩
  refine ⟨_, stepD_iff.2 ⟨V, hV', rfl⟩, stepD_iff.2 ⟨U, hU', ?_⟩⟩
  -- both changes together, either way
  have e1 : (V.app y.dst (U.app x.dst s)).env = (U.app x.dst (V.app y.dst s)).env := by
    cases hx : x.dst with
    | none => simp only [Upd.app]
    | some d =>
      cases hy : y.dst with
      | none => simp only [Upd.app]
      | some d' =>
        have hne : d ≠ d' := fun e => a2 d hx (by rw [hy, e])
        simp only [Upd.app]
        funext i
        by_cases h1 : i = d
        · subst h1; rw [upd_ne _ _ hne, upd_same, upd_same]
        · by_cases h2 : i = d'
          · subst h2; rw [upd_same, upd_ne _ _ h1, upd_same]
          · rw [upd_ne _ _ h2, upd_ne _ _ h1, upd_ne _ _ h1, upd_ne _ _ h2]
  have e2 : (V.app y.dst (U.app x.dst s)).gen = (U.app x.dst (V.app y.dst s)).gen := by
    cases hx : x.dst with
    | none => simp only [Upd.app]
    | some d =>
      cases hy : y.dst with
      | none => simp only [Upd.app]
      | some d' =>
        have hne : d ≠ d' := fun e => a2 d hx (by rw [hy, e])
        simp only [Upd.app]
        cases U.g <;> cases V.g <;> simp only [Bool.false_eq_true, if_false, if_true]
        rw [upd_ne _ _ hne, upd_ne _ _ (Ne.symm hne)]
        funext i
        by_cases h1 : i = d
        · subst h1; rw [upd_ne _ _ hne, upd_same, upd_same]
        · by_cases h2 : i = d'
          · subst h2; rw [upd_same, upd_ne _ _ h1, upd_same]
          · rw [upd_ne _ _ h2, upd_ne _ _ h1, upd_ne _ _ h1, upd_ne _ _ h2]
  have e3 : (V.app y.dst (U.app x.dst s)).heap = (U.app x.dst (V.app y.dst s)).heap := by
    cases hUh : U.h with
    | none => simp only [Upd.app, hUh]
    | some kc =>
      obtain ⟨k, c⟩ := kc
      cases hVh : V.h with
      | none => simp only [Upd.app, hUh, hVh]
      | some kc' =>
        obtain ⟨k', c'⟩ := kc'
        have hne : k ≠ k' := by
          intro e
          subst e
          rcases hU.heap hUh with ⟨hs1, hk1⟩ | ⟨z, hz, e⟩
          · rcases hV'.heap hVh with ⟨hs2, hk2⟩ | ⟨z', hz', e'⟩
            · rcases f1 with f1 | f1
              · rw [hs1] at f1; cases f1
              · rw [out_heap hk2] at f1; cases f1
            · subst e'; exact hex x _ hk1 (hfr z').1
          · subst e
            rcases hV'.heap hVh with ⟨hs2, hk2⟩ | ⟨z', hz', e'⟩
            · exact hex y _ hk2 (hfr z).1
            · exact a2 z hz (by rw [hz']; injection e' with e' _; rw [e'])
        simp only [Upd.app, hUh, hVh]
        funext i
        by_cases h1 : i = k
        · subst h1; rw [updK_ne _ _ hne, updK_same, updK_same]
        · by_cases h2 : i = k'
          · subst h2; rw [updK_same, updK_ne _ _ h1, updK_same]
          · rw [updK_ne _ _ h2, updK_ne _ _ h1, updK_ne _ _ h1, updK_ne _ _ h2]
  have e4 : (V.app y.dst (U.app x.dst s)).tip = (U.app x.dst (V.app y.dst s)).tip := by
    cases hUh : U.t with
    | none => simp only [Upd.app, hUh]
    | some kc =>
      obtain ⟨k, c⟩ := kc
      cases hVh : V.t with
      | none => simp only [Upd.app, hUh, hVh]
      | some kc' =>
        obtain ⟨k', c'⟩ := kc'
        have hne : k ≠ k' := by
          intro e
          subst e
          rcases hU.tip hUh with hk1 | ⟨z, hz, e⟩
          · rcases hV'.tip hVh with hk2 | ⟨z', hz', e'⟩
            · rcases f3 with f3 | f3
              · rw [out_grows hk1] at f3; cases f3
              · rw [out_grows hk2] at f3; cases f3
            · subst e'; exact tex x _ hk1 (hfr z').2
          · subst e
            rcases hV'.tip hVh with hk2 | ⟨z', hz', e'⟩
            · exact tex y _ hk2 (hfr z).2
            · exact a2 z hz (by rw [hz']; injection e' with e' _; rw [e'])
        simp only [Upd.app, hUh, hVh]
        funext i
        by_cases h1 : i = k
        · subst h1; rw [updK_ne _ _ hne, updK_same, updK_same]
        · by_cases h2 : i = k'
          · subst h2; rw [updK_same, updK_ne _ _ h1, updK_same]
          · rw [updK_ne _ _ h2, updK_ne _ _ h1, updK_ne _ _ h1, updK_ne _ _ h2]
  have ext : ∀ p q : St, p.env = q.env → p.heap = q.heap → p.tip = q.tip → p.gen = q.gen → p = q := by
    rintro ⟨_, _, _, _⟩ ⟨_, _, _, _⟩ rfl rfl rfl rfl; rfl
  exact ext _ _ e1 e3 e4 e2
end
end Go.Proofs.YtdbaklnjemcfgaaGreatDoor.D
