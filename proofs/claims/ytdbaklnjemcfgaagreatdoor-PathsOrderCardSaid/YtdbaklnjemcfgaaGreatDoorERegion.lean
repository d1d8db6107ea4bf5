/- A region's operations, in whatever order the model draws. Conditions: what may go either way does not meet (Compat). -/
import Derived.Test.YtdbaklnjemcfgaaGreatDoorESteps
import Derived.Test.YtdbaklnjemcfgaaGreatDoorDDraw2
namespace Go.Proofs.YtdbaklnjemcfgaaGreatDoor.E
open Go.RowKit Go.Proofs.YtdbaklnjemcfgaaGreatDoor.Mem Go.Proofs.YtdbaklnjemcfgaaGreatDoor.D
set_option linter.unusedVariables false
set_option linter.unusedSimpArgs false

section
variable {P : Program} {G G' : Gg} {w w' w0 : World} {T R : Nat → Prop} {h : Hp}

/-- What is read has a place. -/
theorem look_named {o : Oper} {ρ : Operand → Value} {ρE : Operand → EV} {k : Nat} {r : EO → EV → Prop} (hρ : ∀ x, VV G (ρ x) (ρE x)) (ho : opE P o ρE = .look k r) : ∃ p, G.pl k = some p := by
  have nd : delegD P o ρE ≠ .look k r := fun hd => by rcases nodeleg hd with h | ⟨_, _, h⟩ <;> cases h
  unfold opE at ho
  split at ho <;> rename_i hop <;> (try (cases ho; done)) <;> (try (exact absurd ho nd))
  case h_3 => split at ho <;> cases ho
  case h_4 => split at ho <;> cases ho
  case h_5 =>
    exfalso
    repeat' (first | split at ho | (cases ho; done))
  case h_6 =>
    exfalso
    unfold buildE at ho
    repeat' (first | split at ho | (cases ho; done))
  case h_7 =>
    exfalso
    unfold buildSliceE at ho
    repeat' (first | split at ho | (cases ho; done))
  case h_8 =>
    exfalso
    unfold makeSliceE at ho
    repeat' (first | split at ho | (cases ho; done))
  case h_9 t a =>
    split at ho
    · rename_i k' off ha
      have hv := hρ a
      rw [ha] at hv
      generalize ρ a = va at hv
      cases hv.leaf' rfl with
      | ptr _ hp =>
        unfold loadE at ho
        split at ho
        · split at ho
          · injection ho with e1 e2
            subst e1
            exact ⟨_, hp⟩
          · cases ho
        · cases ho
    · exact absurd ho nd
  case h_10 =>
    split at ho
    · exfalso
      unfold storeE at ho
      repeat' (first | split at ho | (cases ho; done))
    · cases ho
  case h_11 =>
    split at ho
    · cases ho
    · cases ho
    · cases ho
    · exact absurd ho nd
  case h_12 =>
    unfold binE at ho
    split at ho
    · split at ho
      · cases ho
      · exact absurd ho nd
    · split at ho
      · cases ho
      · exact absurd ho nd
    · exact absurd ho nd
  case h_13 t x lo hi mx =>
    split at ho
    · exfalso
      unfold sliceE at ho
      repeat' (first | split at ho | (cases ho; done))
    · exfalso
      unfold sliceNoneE at ho
      repeat' (first | split at ho | (cases ho; done))
    · rename_i k' off' hx
      split at ho
      · have hv := hρ x
        rw [hx] at hv
        generalize ρ x = vx at hv
        unfold sliceArrE at ho
        split at ho
        · split at ho
          · injection ho with e1 e2
            subst e1
            cases hv.leaf' rfl with
            | ptr _ hp => exact ⟨_, hp⟩
          · cases ho
        · cases ho
      · cases ho
    · split at ho
      · exact absurd ho nd
      · exfalso
        unfold sliceNoneE at ho
        repeat' (first | split at ho | (cases ho; done))
  case h_14 =>
    split at ho
    · exfalso
      unfold fieldAddrE at ho
      repeat' (first | split at ho | (cases ho; done))
    · exact absurd ho nd
  case h_15 =>
    exfalso
    unfold fieldE at ho
    repeat' (first | split at ho | (cases ho; done))
  case h_16 =>
    split at ho
    · exact absurd ho nd
    · exfalso
      unfold indexAddrE at ho
      repeat' (first | split at ho | (cases ho; done))
  case h_17 =>
    split at ho
    · exfalso
      unfold indexE at ho
      repeat' (first | split at ho | (cases ho; done))
    · exact absurd ho nd
  case h_18 =>
    exfalso
    repeat' (first | split at ho | (cases ho; done))
  case h_19 cl =>
    unfold callE at ho
    split at ho
    · rename_i hcal
      split at ho
      · rename_i x hargs
        have e1 : cl.args = #[x] := by rw [← Array.toArray_toList (xs := cl.args), hargs]
        unfold lenE at ho
        split at ho
        · rename_i t ht
          have e2 : cl.argTypes = #[t] := by rw [← Array.toArray_toList (xs := cl.argTypes), ht]
          split at ho <;> (try (cases ho; done)) <;> (try (exact absurd ho nd))
          rename_i e f k' hu hx
          injection ho with h1 h2
          subst h1 h2
          have hv := hρ x
          rw [hx] at hv
          generalize ρ x = vx at hv
          cases hv.leaf' rfl with
          | mp hp => exact ⟨_, hp⟩
        · cases ho
      · cases ho
    · exfalso
      split at ho
      · unfold appendE at ho
        repeat' (first | split at ho | (cases ho; done) | unfold appZeroE at ho)
      · cases ho
    · exfalso
      split at ho
      · unfold mmE at ho
        repeat' (first | split at ho | (cases ho; done))
      · cases ho
    · exfalso
      split at ho
      · unfold mmE at ho
        repeat' (first | split at ho | (cases ho; done))
      · cases ho
    · exfalso
      split at ho
      · split at ho <;> cases ho
      · cases ho
      · cases ho
      · cases ho
    · rcases extC_form (P := P) _ ρE with ⟨_, _, e⟩ | ⟨_, e⟩ | ⟨_, _, e⟩ | e <;> (rw [e] at ho; cases ho)
  case h_21 t m kk ok =>
    unfold lookupE at ho
    split at ho
    · split at ho
      · split at ho
        · split at ho
          · rename_i k' hm
            injection ho with e1 e2
            subst e1
            have hv := hρ m
            rw [hm] at hv
            generalize ρ m = vm at hv
            cases hv.leaf' rfl with
            | mp hp => exact ⟨_, hp⟩
          · cases ho
          · cases ho
        · cases ho
      · cases ho
    · cases ho
  case h_22 =>
    exfalso
    unfold updateE at ho
    repeat' (first | split at ho | (cases ho; done))
  case h_23 =>
    exfalso
    unfold entryE at ho
    repeat' (first | split at ho | (cases ho; done))
  case h_24 =>
    exfalso
    unfold entryStoreE at ho
    repeat' (first | split at ho | (cases ho; done))
  case h_25 =>
    exfalso
    unfold funcE at ho
    repeat' (first | split at ho | (cases ho; done))
  case h_27 src dst x =>
    split at ho
    · rename_i k' off len cap n ex hx
      have hv := hρ x
      rw [hx] at hv
      generalize ρ x = vx at hv
      unfold bytesE at ho
      split at ho
      · injection ho with e1 e2
        subst e1
        cases hv.leaf' rfl with
        | sl _ _ _ _ _ _ hp => exact ⟨_, hp⟩
      · cases ho
    · unfold bytesNoneE at ho
      split at ho <;> cases ho
    · unfold bytesNoneE at ho
      split at ho <;> cases ho
    · exact absurd ho nd
  case h_28 => rcases extE_form (P := P) o ρE with ⟨_, _, e⟩ | e <;> (rw [e] at ho; cases ho)

theorem opE_congr {ρ ρ' : Operand → EV} (o : Oper) (h : ∀ x ∈ o.op.operands, ρ x = ρ' x) : opE P o ρ = opE P o ρ' := by
  have hd : delegD P o ρ = delegD P o ρ' := by
    unfold delegD
    rw [opD_congr (P := P) o (ρ := fun x => toD (ρ x)) (ρ' := fun x => toD (ρ' x)) (fun x hx => by rw [h x hx])]
  have hparts : ∀ ps : Array (Nat × Operand), (∀ x ∈ (ps.toList.map (·.2)).toArray, ρ x = ρ' x) → (ps.toList.map fun (i, x) => (i, ρ x)) = (ps.toList.map fun (i, x) => (i, ρ' x)) := by
    intro ps hp
    apply List.map_congr_left
    intro p hm
    show (p.1, ρ p.2) = (p.1, ρ' p.2)
    rw [hp p.2 (by simp; exact ⟨p.1, by simpa using hm⟩)]
  have hopt : ∀ x : Option Operand, (∀ y, x = some y → ρ y = ρ' y) → x.map ρ = x.map ρ' := by
    intro x hx
    cases x with
    | none => rfl
    | some y => simp; exact hx y rfl
  unfold opE
  rw [hd]
  split <;> rename_i hop <;> simp only [hop, Op.operands] at h
  case h_1 => rw [h _ (by simp)]
  case h_2 => rw [h _ (by simp)]
  case h_3 => rw [h _ (by simp), h _ (by simp), h _ (by simp)]
  case h_4 => rw [h _ (by simp)]
  case h_5 => rfl
  case h_6 => rw [hparts _ h]
  case h_7 => rw [hparts _ h]
  case h_8 => rw [h _ (by simp), h _ (by simp)]
  case h_9 => rw [h _ (by simp)]
  case h_10 => rw [h _ (by simp), h _ (by simp)]
  case h_11 => rw [h _ (by simp)]
  case h_12 => unfold binE; rw [h _ (by simp), h _ (by simp), hd]
  case h_13 t x lo hi mx =>
    rw [hopt lo (fun y e => h y (by subst e; simp)), hopt hi (fun y e => h y (by subst e; simp)), hopt mx (fun y e => h y (by subst e; simp)), h x (by simp)]
  case h_14 => rw [h _ (by simp)]
  case h_15 => rw [h _ (by simp)]
  case h_16 => rw [h _ (by simp), h _ (by simp)]
  case h_17 => rw [h _ (by simp), h _ (by simp)]
  case h_18 => rw [h _ (by simp)]
  case h_19 c =>
    have hargs : ∀ x ∈ c.args.toList, ρ x = ρ' x := fun x hx => h x (by simp [Call.operands]; right; simpa using hx)
    have hm : c.args.toList.map ρ = c.args.toList.map ρ' := List.map_congr_left hargs
    unfold callE
    split
    · split
      · rename_i x hx
        unfold lenE
        rw [hargs x (by rw [hx]; simp), hd]
      · rfl
    · split
      · rename_i s x hx; rw [hargs x (by rw [hx]; simp), hargs s (by rw [hx]; simp)]
      · rfl
    · split
      · rename_i s x hx; rw [hargs x (by rw [hx]; simp), hargs s (by rw [hx]; simp)]
      · rfl
    · split
      · rename_i s x hx; rw [hargs x (by rw [hx]; simp), hargs s (by rw [hx]; simp)]
      · rfl
    · rename_i f hc
      rw [h f (by simp [Call.operands, hc]), hm]
    · unfold extC
      split
      · rename_i x name hc
        rw [h x (by simp [Call.operands, hc]), hm]
      · split
        · rename_i s x hx; rw [hargs x (by rw [hx]; simp), hargs s (by rw [hx]; simp)]
        · rfl
      · split
        · rename_i x hx; rw [hargs x (by rw [hx]; simp)]
        · rfl
      · split
        · rename_i x hx; rw [hargs x (by rw [hx]; simp)]
        · rfl
      · rfl
  case h_20 => rfl
  case h_21 => rw [h _ (by simp), h _ (by simp)]
  case h_22 => rw [h _ (by simp), h _ (by simp), h _ (by simp)]
  case h_23 => rw [h _ (by simp), h _ (by simp)]
  case h_24 => rw [h _ (by simp), h _ (by simp), h _ (by simp)]
  case h_25 fn first caps =>
    have e1 : first.toList.map ρ = first.toList.map ρ' := List.map_congr_left fun x hx => h x (by simp; left; simpa using hx)
    have e2 : caps.toList.map ρ = caps.toList.map ρ' := List.map_congr_left fun x hx => h x (by simp; right; simpa using hx)
    rw [e1, e2]
  case h_26 => rfl
  case h_27 => rw [h _ (by simp)]
  case h_28 =>
    unfold extE
    split
    · rename_i hop'
      simp only [hop', Op.operands] at h
      rw [h _ (by simp)]
    · rfl

/-- What a step does to memory: nothing; a new block of that number; it reads a block; it changes blocks of W, and looks at none of X. -/
inductive Lab where
  | quiet
  | new (id : Nat)
  | look (k : Nat)
  | eff (W X : Nat → Prop)
/-- Two steps that may go either way. -/
def Compat : Lab → Lab → Prop
  | .eff _ _, .eff _ _ => False
  | .look k, .eff W _ => ¬ W k
  | .eff W _, .look k => ¬ W k
  | .new id, .eff _ X => X id
  | _, _ => True

def CoreL (P : Program) (out : OutE) (lab : Lab) (h : Hp) (n : Nat) (d : EV) (h' : Hp) (n' : Nat) : Prop :=
  match lab with
  | .quiet => ∃ c, out = .val c d ∧ c ∧ h' = h ∧ n' = n
  | .new id => ∃ c ob mk, out = .new c ob mk ∧ c ∧ d = mk id ∧ h' = upd h id (some ob) ∧ n' = n
  | .look k => ∃ r ob, out = .look k r ∧ h k = some ob ∧ r ob d ∧ h' = h ∧ n' = n
  | .eff W X => ∃ hf hf', (∀ k o, hf k = some o → h k = some o ∧ ¬ X k) ∧ Eff P out hf n d hf' n' ∧ (∀ k, ¬ W k → hf' k = hf k) ∧ (∀ k, n ≤ k → k < n' → W k) ∧ n ≤ n' ∧ h' = merge h hf hf' n n'
def StepL (P : Program) (ops : Array Oper) (lab : Lab) (o : Oper) (s s' : SE) : Prop :=
  match wantedE ops s o with
  | none => False
  | some false => lab = .quiet ∧ s' = s.put o.dst (er undef)
  | some true => ∃ d h' n', CoreL P (opE P o s.ev) lab s.heap s.next d h' n' ∧ s' = ({ env := s.env, heap := h', next := n' } : SE).put o.dst d

/-- How a call began: its slots, the blocks that it may change, the world, where all lay, and the first free number. -/
structure Ctx where
  nt : Nat
  T : Nat → Prop
  w0 : World
  G0 : Gg
  n0 : Nat
structure RealE (B : Ctx) (V : Nat → Prop) (G : Gg) (s : SE) (a : Act) (w : World) : Prop where
  size : a.tmps.size = B.nt
  defers : a.defers = []
  env : ∀ t, VV G (a.tmps.getD t undef) (s.env t)
  mem : WE B.T B.w0 (fun k => s.next ≤ k ∨ V k) G s.heap w
  vlt : ∀ k, V k → B.n0 ≤ k ∧ k < s.next
  ext : B.G0.le (fun k => B.n0 ≤ k ∧ k < s.next) G
  nge : B.n0 ≤ s.next
/-- A call's own state in the model; V: the numbers that are set aside. -/
def ReE (B : Ctx) (V : Nat → Prop) (s : SE) (a : Act) (w : World) : Prop := ∃ G, RealE B V G s a w

variable {B : Ctx} {V V' : Nat → Prop} {s s' : SE} {a : Act} {ops : Array Oper} {Q : Exit → Act → World → Prop}
theorem RealE.ev (h : RealE B V G s a w) (x : Operand) : VV G (a.eval x) (s.ev x) := by
  cases x with
  | tmp t => exact h.env t
  | const v => exact VV.lite G v
  | global g => exact VV.er rfl
  | func f => exact VV.er rfl
theorem ReE.less (h : ReE B V s a w) (hv : ∀ k, V' k → V k) : ReE B V' s a w := by
  obtain ⟨G, h⟩ := h
  exact ⟨G, h.size, h.defers, h.env, h.mem.sub (fun _ _ h => h) (fun k hk => hk.imp id (hv k)), fun k hk => h.vlt k (hv k hk), h.ext, h.nge⟩
/-- A value put into a slot. -/
theorem RealE.put (h : RealE B V G s a w) {G' : Gg} {R1 : Nat → Prop} (hle : G.le R1 G') (h' : Hp) (n' : Nat) (hr : ∀ k, R1 k → B.n0 ≤ k ∧ k < n') (hn : s.next ≤ n') (V' : Nat → Prop) (hm : WE B.T B.w0 (fun k => n' ≤ k ∨ V' k) G' h' w') (hv : ∀ k, V' k → V k) (dst : Option Tmp) (hd : ∀ d, dst = some d → d < B.nt) (v : Value) (d : EV) (hvd : VV G' v d) :
    RealE B V' G' (({ env := s.env, heap := h', next := n' } : SE).put dst d) (a.put dst v) w' := by
  have hext : B.G0.le (fun k => B.n0 ≤ k ∧ k < n') G' := Gg.le_trans (Gg.le_mono h.ext (fun k hk => ⟨hk.1, Nat.lt_of_lt_of_le hk.2 hn⟩)) hle hr
  have hvl : ∀ k, V' k → B.n0 ≤ k ∧ k < n' := fun k hk => ⟨(h.vlt k (hv k hk)).1, Nat.lt_of_lt_of_le (h.vlt k (hv k hk)).2 hn⟩
  cases dst with
  | none => exact ⟨h.size, h.defers, fun t => (h.env t).mono hle, hm, hvl, hext, Nat.le_trans h.nge hn⟩
  | some t0 =>
    refine ⟨by simp [Act.put, h.size], h.defers, fun t => ?_, hm, hvl, hext, Nat.le_trans h.nge hn⟩
    simp only [Act.put, SE.put]
    rw [getD_put _ _ _ (by rw [h.size]; exact hd t0 rfl)]
    by_cases ht : t = t0
    · subst ht; rw [if_pos rfl, upd_same]; exact hvd
    · rw [if_neg ht, upd_ne _ _ ht]; exact (h.env t).mono hle

theorem wanted_soundE (hR : RealE B V G s a w) (hok : dstOk B.nt ops = true) (o : Oper) {b : Bool} (h : wantedE ops s o = some b) : Region.wanted o (yielded ops a.tmps) = b := by
  unfold wantedE at h
  unfold Region.wanted
  split at h
  · rename_i hg
    rw [hg]
    injection h
  · rename_i j want hg
    rw [hg]
    simp only
    cases hj : ops[j]? with
    | none => rw [hj] at h; simp at h; subst h; simp [yielded, hj]
    | some oj =>
      cases hd : oj.dst with
      | none => rw [hj] at h; simp [hd] at h; subst h; simp [yielded, hj, hd]
      | some t =>
        rw [hj] at h
        simp only [Option.bind_some, hd] at h
        have hlt : t < a.tmps.size := by rw [hR.size]; exact dst_lt hok hj t hd
        have hv := hR.env t
        rw [Array.getD_eq_getD_getElem?, Array.getElem?_eq_getElem hlt, Option.getD_some] at hv
        simp only [yielded, hj, Option.bind_some, hd, Array.getElem?_eq_getElem hlt]
        split at h
        · rename_i b' he
          rw [he] at hv
          rw [hv.raw]
          injection h with h
        · rename_i v' hnb he
          rw [he] at hv
          rw [hv.raw]
          injection h with h
          subst h
          cases v' <;> first | rfl | (exfalso; exact hnb _ rfl)
        · cases h

/-- The numbers that are still set aside behind a step. -/
def Lab.left (V : Nat → Prop) : Lab → Nat → Prop
  | .new id, k => V k ∧ k ≠ id
  | _, k => V k

theorem stepL_sound (hR : RealE B V G s a w) (hok : dstOk B.nt ops = true) {j : Nat} {o : Oper} (ho : ops[j]? = some o) {lab : Lab} (hV : ∀ id, lab = .new id → V id) (hs : StepL P ops lab o s s') {K : Act → World → Prop} (hK : ∀ a' w', ReE B (lab.left V) s' a' w' → K a' w') :
    wpOp P ops Q j K a w := by
  unfold wpOp
  rw [ho]
  simp only
  have hd := dst_lt hok ho
  unfold StepL at hs
  split at hs
  · exact hs.elim
  · rename_i hw
    obtain ⟨rfl, rfl⟩ := hs
    rw [wanted_soundE hR hok o hw]
    exact hK _ _ ⟨G, by have := hR.put (w' := w) (Gg.le_refl (fun _ => False) G) s.heap s.next (fun _ f => f.elim) (Nat.le_refl _) V hR.mem (fun _ h => h) o.dst hd undef (er undef) (VV.er rfl); exact this⟩
  · rename_i hw
    rw [wanted_soundE hR hok o hw]
    refine .inl ?_
    obtain ⟨d, h', n', hc, rfl⟩ := hs
    have hρ := hR.ev
    cases lab with
    | quiet =>
      obtain ⟨c, h1, h2, rfl, rfl⟩ := hc
      obtain ⟨v, hv, hvv⟩ := val_soundE (P := P) hR.mem.facts hρ h1 h2
      unfold Oper.wp
      rw [hv]
      exact hK _ _ ⟨G, hR.put (Gg.le_refl (fun _ => False) G) s.heap s.next (fun _ f => f.elim) (Nat.le_refl _) V hR.mem (fun _ h => h) o.dst hd v d hvv⟩
    | look k =>
      obtain ⟨r, ob, h1, h2, h3, rfl, rfl⟩ := hc
      obtain ⟨v, hv, hvv⟩ := look_sound (P := P) hR.mem hρ h1 h2 h3
      unfold Oper.wp
      rw [hv]
      exact hK _ _ ⟨G, hR.put (Gg.le_refl (fun _ => False) G) s.heap s.next (fun _ f => f.elim) (Nat.le_refl _) V hR.mem (fun _ h => h) o.dst hd v d hvv⟩
    | new id =>
      obtain ⟨c, ob, mk, h1, h2, rfl, rfl, rfl⟩ := hc
      have hVi := hV id rfl
      obtain ⟨v, w', G', hv, hle, hvv, hWE⟩ := new_sound (P := P) hR.mem hρ h1 h2 id (.inr hVi)
      unfold Oper.wp
      rw [hv]
      have hlt := hR.vlt id hVi
      exact hK _ _ ⟨G', hR.put hle _ s.next (fun k hk => by subst hk; exact hlt) (Nat.le_refl _) _ (hWE.sub (fun _ _ h => h) (fun k hk => by
        rcases hk with hk | ⟨hk, hne⟩
        · exact ⟨.inl hk, by omega⟩
        · exact ⟨.inr hk, hne⟩)) (fun k hk => hk.1) o.dst hd v _ hvv⟩
    | eff W X =>
      obtain ⟨hf, hf', h1, h2, h3, h4, h5, rfl⟩ := hc
      have hsub : ∀ k o, hf k = some o → s.heap k = some o := fun k o hk => (h1 k o hk).1
      refine (eff_sound (P := P) (hR.mem.part hsub) (n := s.next) (fun k hk => .inl hk) hρ h2 (fun v G' w' hle hvv hWE => ?_)).2
      have hWE' := hR.mem.merge hsub (fun k hk => .inl hk) hle hWE
      have hng := hR.nge
      exact hK _ _ ⟨G', hR.put hle _ n' (fun k hk => ⟨by omega, hk.2⟩) h5 V (hWE'.sub (fun _ _ h => h) (fun k hk => by
        rcases hk with hk | hk
        · exact ⟨.inl (by omega), by omega⟩
        · have := hR.vlt k hk; exact ⟨.inr hk, by omega⟩)) (fun k hk => hk) o.dst hd v d hvv⟩
theorem wp_opE_ex {j : Nat} {o : Oper} (ho : ops[j]? = some o) {K : Act → World → Prop} (h : wpOp P ops (fun _ _ _ => False) j K a w) : ∃ a' w', K a' w' := by
  unfold wpOp at h
  rw [ho] at h
  simp only at h
  split at h
  · rcases h with h | ⟨_, _, _, h⟩
    · exact wp_ex h
    · exact h.elim
  · exact ⟨_, _, h⟩
theorem satL (hR : ReE B V s a w) (hok : dstOk B.nt ops = true) {j : Nat} {o : Oper} (ho : ops[j]? = some o) {lab : Lab} (hV : ∀ id, lab = .new id → V id) (hs : StepL P ops lab o s s') : ∃ a' w', ReE B (lab.left V) s' a' w' := by
  obtain ⟨G, hR⟩ := hR
  exact wp_opE_ex ho (stepL_sound (Q := fun _ _ _ => False) (K := fun a' w' => ReE B (lab.left V) s' a' w') hR hok ho hV hs (fun _ _ h => h))
end
end Go.Proofs.YtdbaklnjemcfgaaGreatDoor.E
