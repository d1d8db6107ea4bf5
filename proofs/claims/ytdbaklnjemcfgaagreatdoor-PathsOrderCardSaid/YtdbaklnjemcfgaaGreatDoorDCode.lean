/- Code on plain data (wpD), and a function's contract out of it (fn_intro). Conditions: none. -/
import Derived.Test.YtdbaklnjemcfgaaGreatDoorDDraw2
import Derived.Deep.LoopGhost
namespace Go.Proofs.YtdbaklnjemcfgaaGreatDoor.D
open Go.RowKit Go.Proofs.YtdbaklnjemcfgaaGreatDoor.Mem
set_option linter.unusedVariables false
set_option linter.unusedSimpArgs false

/-- What must hold ahead of an outcome for K to hold behind it. -/
def Out.wp (P : Program) (dst : Option Tmp) (s : St) (K : St → Prop) : Out → Prop
  | .val c d => c ∧ K (s.put dst d)
  | .box t cells => match dst with
    | some d => K { env := upd s.env d (.ref (d, s.gen d) 0), heap := updK s.heap (d, s.gen d) (some cells), tip := s.tip, gen := upd s.gen d (s.gen d + 1) }
    | none => False
  | .fresh c e rows => match dst with
    | some d => c ∧ K { env := upd s.env d (.own (d, s.gen d) 0 rows), heap := s.heap, tip := updK s.tip (d, s.gen d) (some (0, e)), gen := upd s.gen d (s.gen d + 1) }
    | none => False
  | .load k off n agg => ∃ cells, s.heap k = some cells ∧ off + n ≤ cells.length ∧ K (s.put dst (mk agg ((cells.drop off).take n)))
  | .store k off n new => ∃ cells, s.heap k = some cells ∧ new.length = n ∧ off + n ≤ cells.length ∧ storable new ∧ K ({ s with heap := updK s.heap k (some (splice cells off new)) }.put dst (.raw undef))
  | .grow c k ver e rows add => match dst with
    | some d => c ∧ s.tip k = some (ver, e) ∧ K { env := upd s.env d (.own k (ver + 1) (rows ++ add)), heap := s.heap, tip := updK s.tip k (some (ver + 1, e)), gen := s.gen }
    | none => False
  | .call f args => ∃ xs b r, seenAll s args = some (xs, b) ∧ FnD P f xs r ∧ (b = true → flatT r = true) ∧ K (s.put dst r)
  | .map => match dst with
    | some d => K { env := upd s.env d (.mref (d, s.gen d)), heap := updK s.heap (d, s.gen d) (some [.tup []]), tip := s.tip, gen := upd s.gen d (s.gen d + 1) }
    | none => False
  | .look k f => ∃ cells d, s.heap k = some cells ∧ f cells = some d ∧ K (s.put dst d)
  | .turn k f => ∃ cells cells', s.heap k = some cells ∧ f cells = some cells' ∧ K ({ s with heap := updK s.heap k (some cells') }.put dst (.raw undef))
  | .bad => False
def wpL (P : Program) (ops : Array Oper) (K : St → Prop) : List Oper → St → Prop
  | [], s => K s
  | o :: l, s => match wantedD ops s o with
    | some true => (opD P o s.ev).wp P o.dst s (wpL P ops K l)
    | some false => wpL P ops K l (s.put o.dst (.raw undef))
    | none => False

def thenD (K : St → Prop) (Q : Exit → St → Prop) : Exit → St → Prop
  | .normal, s => K s
  | e, s => Q e s
def blockD (id : Nat) (Q : Exit → St → Prop) : Exit → St → Prop
  | .exit i, s => if i = id then Q .normal s else Q (.exit i) s
  | e, s => Q e s
def wpD (P : Program) (nt : Nat) : Code → (Exit → St → Prop) → St → Prop
  | .skip, Q, s => Q .normal s
  | .label _, Q, s => Q .normal s
  | .region _ ops draw, Q, s => (dstOk nt ops && (!draw || drawOk ops)) = true ∧ wpL P ops (Q .normal) ops.toList s
  | .seq x y, Q, s => wpD P nt x (thenD (wpD P nt y Q) Q) s
  | .cond c x y, Q, s => ∃ t, s.ev c = .raw (.bool t) ∧ (t = true → wpD P nt x Q s) ∧ (t = false → wpD P nt y Q s)
  | .block id b, Q, s => wpD P nt b (blockD id Q) s
  | .loop b, Q, s => ∃ (I : St → Prop) (μ : St → Nat), I s ∧ ∀ s1, I s1 → wpD P nt b (thenD (fun s2 => I s2 ∧ μ s2 < μ s1) Q) s1
  | .exit id, Q, s => Q (.exit id) s
  | .ret, Q, s => Q .ret s
  | _, _, _ => False

section
variable {P : Program} {w0 w w' : World} {F0 : Facts} {G : Gh} {s s' : St} {nt : Nat} {a : Act} {ops : Array Oper}

theorem out_wp {o : Out} {dst : Option Tmp} {K : St → Prop} (h : o.wp P dst s K) : ∃ s', o.step P dst s s' ∧ K s' := by
  cases o with
  | val c d => exact ⟨_, ⟨h.1, rfl⟩, h.2⟩
  | box t cells =>
    cases dst with
    | none => exact h.elim
    | some d => exact ⟨_, ⟨d, rfl, rfl⟩, h⟩
  | fresh c e rows =>
    cases dst with
    | none => exact h.elim
    | some d => exact ⟨_, ⟨h.1, d, rfl, rfl⟩, h.2⟩
  | load k off n g => obtain ⟨c, h1, h2, h3⟩ := h; exact ⟨_, ⟨c, h1, h2, rfl⟩, h3⟩
  | store k off n new => obtain ⟨c, h1, h2, h3, h4, h5⟩ := h; exact ⟨_, ⟨c, h1, h2, h3, h4, rfl⟩, h5⟩
  | grow c k ver e rows add =>
    cases dst with
    | none => exact h.elim
    | some d => exact ⟨_, ⟨h.1, h.2.1, d, rfl, rfl⟩, h.2.2⟩
  | call f args => obtain ⟨xs, b, r, h1, h2, h3, h4⟩ := h; exact ⟨_, ⟨xs, b, r, h1, h2, h3, rfl⟩, h4⟩
  | map =>
    cases dst with
    | none => exact h.elim
    | some d => exact ⟨_, ⟨d, rfl, rfl⟩, h⟩
  | look k f => obtain ⟨c, d, h1, h2, h3⟩ := h; exact ⟨_, ⟨c, d, h1, h2, rfl⟩, h3⟩
  | turn k f => obtain ⟨c, c', h1, h2, h3⟩ := h; exact ⟨_, ⟨c, c', h1, h2, rfl⟩, h3⟩
  | bad => exact h.elim
theorem wpL_run {K : St → Prop} : ∀ (l : List Oper) (k : Nat) (s : St), (∀ j, l[j]? = ops[k + j]?) → wpL P ops K l s → ∃ s', RunD P ops (List.range' k l.length) s s' ∧ K s' := by
  intro l
  induction l with
  | nil => intro k s _ h; exact ⟨s, rfl, h⟩
  | cons o l ih =>
    intro k s hk h
    have h0 : ops[k]? = some o := by simpa using (hk 0).symm
    have hk' : ∀ j, l[j]? = ops[k + 1 + j]? := fun j => by have := hk (j + 1); simpa [Nat.add_assoc, Nat.add_comm 1 j] using this
    simp only [wpL] at h
    simp only [List.length_cons, List.range'_succ, RunD, h0]
    split at h
    · rename_i hw
      obtain ⟨s1, h1, h2⟩ := out_wp h
      obtain ⟨s2, h3, h4⟩ := ih (k + 1) s1 hk' h2
      exact ⟨s2, ⟨s1, by unfold StepD; rw [hw]; exact h1, h3⟩, h4⟩
    · rename_i hw
      obtain ⟨s2, h3, h4⟩ := ih (k + 1) _ hk' h
      exact ⟨s2, ⟨_, by unfold StepD; rw [hw], h3⟩, h4⟩
    · exact h.elim

theorem Out.wp_mono {o : Out} {dst : Option Tmp} {K K' : St → Prop} (hk : ∀ s, K s → K' s) (h : o.wp P dst s K) : o.wp P dst s K' := by
  cases o with
  | val c d => exact ⟨h.1, hk _ h.2⟩
  | box t cells => cases dst with
    | none => exact h
    | some d => exact hk _ h
  | fresh c e rows => cases dst with
    | none => exact h
    | some d => exact ⟨h.1, hk _ h.2⟩
  | load k off n g => obtain ⟨c, h1, h2, h3⟩ := h; exact ⟨c, h1, h2, hk _ h3⟩
  | store k off n new => obtain ⟨c, h1, h2, h3, h4, h5⟩ := h; exact ⟨c, h1, h2, h3, h4, hk _ h5⟩
  | grow c k ver e rows add => cases dst with
    | none => exact h
    | some d => exact ⟨h.1, h.2.1, hk _ h.2.2⟩
  | call f args => obtain ⟨xs, b, r, h1, h2, h3, h4⟩ := h; exact ⟨xs, b, r, h1, h2, h3, hk _ h4⟩
  | map => cases dst with
    | none => exact h
    | some d => exact hk _ h
  | look k f => obtain ⟨c, d, h1, h2, h3⟩ := h; exact ⟨c, d, h1, h2, hk _ h3⟩
  | turn k f => obtain ⟨c, c', h1, h2, h3⟩ := h; exact ⟨c, c', h1, h2, hk _ h3⟩
  | bad => exact h

theorem wpL_mono {K K' : St → Prop} (hk : ∀ s, K s → K' s) : ∀ (l : List Oper) (s : St), wpL P ops K l s → wpL P ops K' l s := by
  intro l
  induction l with
  | nil => intro s h; exact hk s h
  | cons o l ih =>
    intro s h
    simp only [wpL] at h ⊢
    split
    · rename_i hw; rw [hw] at h; exact Out.wp_mono ih h
    · rename_i hw; rw [hw] at h; exact ih _ h
    · rename_i hw; rw [hw] at h; exact h
theorem wpD_mono {c : Code} : ∀ {Q Q' : Exit → St → Prop} {s : St}, (∀ e s, Q e s → Q' e s) → wpD P nt c Q s → wpD P nt c Q' s := by
  induction c with
  | skip => intro Q Q' s hq h; exact hq _ _ h
  | label l => intro Q Q' s hq h; exact hq _ _ h
  | region id ops draw => intro Q Q' s hq h; exact ⟨h.1, wpL_mono (fun s hs => hq _ _ hs) _ _ h.2⟩
  | seq x y ihx ihy =>
    intro Q Q' s hq h
    refine ihx (fun e s hs => ?_) h
    cases e with
    | normal => exact ihy hq hs
    | _ => exact hq _ _ hs
  | cond c x y ihx ihy =>
    intro Q Q' s hq h
    obtain ⟨t, ht, h1, h2⟩ := h
    exact ⟨t, ht, fun e => ihx hq (h1 e), fun e => ihy hq (h2 e)⟩
  | block id b ih =>
    intro Q Q' s hq h
    refine ih (fun e s hs => ?_) h
    cases e with
    | exit i =>
      simp only [blockD] at hs ⊢
      split at hs
      · rename_i hi; rw [if_pos hi]; exact hq _ _ hs
      · rename_i hi; rw [if_neg hi]; exact hq _ _ hs
    | _ => exact hq _ _ hs
  | loop b ih =>
    intro Q Q' s hq h
    obtain ⟨I, μ, h0, hr⟩ := h
    refine ⟨I, μ, h0, fun s1 h1 => ih (fun e s hs => ?_) (hr s1 h1)⟩
    cases e with
    | normal => exact hs
    | _ => exact hq _ _ hs
  | exit id => intro Q Q' s hq h; exact hq _ _ h
  | ret => intro Q Q' s hq h; exact hq _ _ h
  | rangeFunc => intro Q Q' s hq h; exact h.elim
  | scope => intro Q Q' s hq h; exact h.elim
  | goto => intro Q Q' s hq h; exact h.elim
  | refuse => intro Q Q' s hq h; exact h.elim

/-- Code on plain data is what the model does. -/
theorem wpD_sound (hm : P.follows .mixedOrders = true) (c : Code) : ∀ (Q : Exit → St → Prop) (s : St) (a : Act) (w : World), wpD P nt c Q s → Re P nt w0 F0 s a w →
    c.wp P (fun e a' w' => ∃ s', Q e s' ∧ Re P nt w0 F0 s' a' w') a w := by
  induction c with
  | skip => intro Q s a w h hR; exact wp_skip ⟨s, h, hR⟩
  | label l => intro Q s a w h hR; exact wp_label ⟨s, h, hR⟩
  | region id ops draw =>
    intro Q s a w h hR
    obtain ⟨hok, hl⟩ := h
    simp only [Bool.and_eq_true] at hok
    obtain ⟨s', h1, h2⟩ := wpL_run (ops := ops) ops.toList 0 s (fun j => by simp) hl
    rw [← List.range_eq_range', Array.length_toList] at h1
    cases draw with
    | false => exact region_sound hok.1 id h1 hR (fun a' w' hR' => ⟨s', h2, hR'⟩)
    | true => exact draw_sound hm hok.1 (by simpa using hok.2) id h1 hR (fun a' w' hR' => ⟨s', h2, hR'⟩)
  | seq x y ihx ihy =>
    intro Q s a w h hR
    refine wp_seq (wp_mono (ihx _ s a w h hR) fun e a' w' ⟨s', hq, hR'⟩ => ?_)
    cases e with
    | normal => exact ihy Q s' a' w' hq hR'
    | _ => exact ⟨s', hq, hR'⟩
  | cond c x y ihx ihy =>
    intro Q s a w h hR
    obtain ⟨t, ht, h1, h2⟩ := h
    have hv : a.eval c = .bool t := by
      obtain ⟨G, hR⟩ := hR
      have := hR.ev c
      rw [ht] at this
      exact this.raw
    refine wp_cond hv ?_
    cases t with
    | true => exact ihx Q s a w (h1 rfl) hR
    | false => exact ihy Q s a w (h2 rfl) hR
  | block id b ih =>
    intro Q s a w h hR
    refine wp_block (wp_mono (ih _ s a w h hR) fun e a' w' ⟨s', hq, hR'⟩ => ?_)
    cases e with
    | exit i =>
      simp only [blockD] at hq
      simp only [Exit.inBlock]
      split at hq
      · rename_i hi; rw [if_pos hi]; exact ⟨s', hq, hR'⟩
      · rename_i hi; rw [if_neg hi]; exact ⟨s', hq, hR'⟩
    | _ => exact ⟨s', hq, hR'⟩
  | loop b ih =>
    intro Q s a w h hR
    obtain ⟨I, μ, h0, hr⟩ := h
    refine wp_loop_ghost (fun n a w => ∃ s, I s ∧ μ s = n ∧ Re P nt w0 F0 s a w) (μ s) ⟨s, h0, rfl, hR⟩ ?_
    rintro n a w ⟨s1, hI, rfl, hR1⟩
    refine wp_mono (ih _ s1 a w (hr s1 hI) hR1) fun e a' w' ⟨s', hq, hR'⟩ => ?_
    cases e with
    | normal => exact ⟨μ s', hq.2, s', hq.1, rfl, hR'⟩
    | _ => exact ⟨s', hq, hR'⟩
  | exit id => intro Q s a w h hR; exact wp_exit ⟨s, h, hR⟩
  | ret => intro Q s a w h hR; exact wp_ret ⟨s, h, hR⟩
  | rangeFunc => intro Q s a w h hR; exact h.elim
  | scope => intro Q s a w h hR; exact h.elim
  | goto => intro Q s a w h hR; exact h.elim
  | refuse => intro Q s a w h hR; exact h.elim

/-- What a function's results are. -/
def resD (P : Program) (s : St) : ResultVar → Option DV
  | .tmp t => some (s.env t)
  | .cell a t => match s.env a, tI P t with
    | .ref k off, some (n, _, g) => match s.heap k with
      | some cells => if off + n ≤ cells.length && (g || n == 1) then some (mk g ((cells.drop off).take n)) else none
      | none => none
    | _, _ => none
def resL (P : Program) (s : St) : List ResultVar → Option (List DV)
  | [] => some []
  | r :: l => match resD P s r, resL P s l with
    | some d, some ds => some (imm d :: ds)
    | _, _ => none
/-- One result, or several. -/
def tupD : List DV → DV
  | [d] => d
  | ds => .tup ds

def resOne (tmps : Array Value) : ResultVar → Sem Value
  | .tmp t => pure (tmps.getD t undef)
  | .cell b t => do loadVar t (← asAddr (tmps.getD b undef))
theorem results_eq (fn : Func) (tmps : Array Value) : results fn tmps = (do let vs ← fn.results.mapM (resOne tmps); pure (if h : vs.size = 1 then vs[0] else .tuple vs)) := by
  have e : (fun (x : ResultVar) => (match x with | .tmp t => pure (tmps.getD t undef) | .cell a t => do loadVar t (← asAddr (tmps.getD a undef)) : Sem Value)) = resOne tmps := by
    funext r; cases r <;> rfl
  rw [← e]
  rfl

theorem resD_sound (hR : Real P nt w0 F0 G s a w) {r : ResultVar} {d : DV} (h : resD P s r = some d) :
    ∃ v, (resOne a.tmps r).run P w = .ok v w ∧ RV G v d := by
  cases r with
  | tmp t => simp [resD] at h; subst h; exact ⟨_, rfl, hR.env t⟩
  | cell b t =>
    simp only [resD] at h
    split at h
    · rename_i k off n bb g he ht
      split at h
      · rename_i cells hc
        split at h
        · rename_i hok
          simp only [Bool.and_eq_true, decide_eq_true_eq, Bool.or_eq_true, beq_iff_eq] at hok
          injection h with h
          subst h
          have hv := hR.env b
          rw [he] at hv
          generalize hva : a.tmps.getD b undef = va at hv
          cases hv.leaf' rfl with
          | imm h => cases h
          | ref _ hb =>
            rename_i blk
            obtain ⟨cells', cs, tt, q1, q2, q3, q4, q5⟩ := hR.mem.box _ _ hb
            rw [hc] at q1
            injection q1 with q1
            subst q1
            have hg1 : g = false → n = 1 := by intro hg'; subst hg'; simpa using hok.2
            have hlen : ((cs.toList.drop off).take n).length = n := by rw [List.length_take, List.length_drop, q4.1]; omega
            refine ⟨_, ?_, mk_of ((q4.drop off).take n) hlen hg1⟩
            simp only [resOne, hva, asAddr, Sem.run_bind, Sem.run_pure, Result.andThen_ok]
            exact run_loadVar_of ht blk off _ hlen hg1 w (fun j x hj => by
              rw [List.getElem?_take] at hj
              split at hj
              · rw [List.getElem?_drop] at hj
                simp only [World.cell?, q3]
                simpa using hj
              · cases hj)
        · cases h
      · cases h
    · cases h

theorem resL_sound (hR : Real P nt w0 F0 G s a w) : ∀ (l : List ResultVar) (ds : List DV), resL P s l = some ds → ∃ vs : List Value, (l.mapM (resOne a.tmps)).run P w = .ok vs w ∧ vs.length = ds.length ∧ ∀ (j : Nat) v d, vs[j]? = some v → ds[j]? = some d → RV G v d := by
  intro l
  induction l with
  | nil => intro ds h; simp [resL] at h; subst h; exact ⟨[], rfl, rfl, by simp⟩
  | cons r l ih =>
    intro ds h
    simp only [resL] at h
    cases h1 : resD P s r with
    | none => simp [h1] at h
    | some d =>
      cases h2 : resL P s l with
      | none => simp [h1, h2] at h
      | some ds' =>
        simp [h1, h2] at h
        subst h
        obtain ⟨v, hv, hr⟩ := resD_sound hR h1
        obtain ⟨vs, hvs, hn, hrs⟩ := ih ds' h2
        refine ⟨v :: vs, ?_, by simp [hn], fun j x y hx hy => ?_⟩
        · simp only [List.mapM_cons, Sem.run_bind, hv, Result.andThen_ok, hvs, Sem.run_pure]
        · cases j with
          | zero => simp at hx hy; subst hx hy; exact hr.imm
          | succ j => exact hrs j x y (by simpa using hx) (by simpa using hy)

theorem results_sound (hR : Real P nt w0 F0 G s a w) (fn : Func) {ds : List DV} (h : resL P s fn.results.toList = some ds) (hp : ∀ d ∈ ds, pureD d = true) : ∃ v, (results fn a.tmps).run P w = .ok v w ∧ RP G.F v (tupD ds) := by
  obtain ⟨vs, hvs, hn, hr⟩ := resL_sound hR fn.results.toList ds h
  have hm : (fn.results.mapM (resOne a.tmps)).run P w = .ok vs.toArray w := by
    rw [← Array.toArray_toList (xs := fn.results), List.mapM_toArray]
    simp only [Sem.run_map]
    rw [hvs]
    rfl
  have hrp : ∀ (j : Nat) v d, vs[j]? = some v → ds[j]? = some d → RP G.F v d := fun j v d hv hd => (hr j v d hv hd).rp (hp d (List.mem_of_getElem? hd))
  rw [results_eq]
  simp only [Sem.run_bind, hm, Result.andThen_ok, Sem.run_pure]
  by_cases h1 : vs.toArray.size = 1
  · rw [dif_pos h1]
    obtain ⟨v, rfl⟩ := List.length_eq_one_iff.1 (by simpa using h1 : vs.length = 1)
    obtain ⟨d, rfl⟩ := List.length_eq_one_iff.1 (hn.symm.trans rfl : ds.length = 1)
    exact ⟨v, rfl, hrp 0 v d rfl rfl⟩
  · rw [dif_neg h1]
    refine ⟨.tuple vs.toArray, rfl, ?_⟩
    have : tupD ds = .tup ds := by
      match ds, hn with
      | [], _ => rfl
      | [d], hn => exact absurd (by simpa using hn) h1
      | _ :: _ :: _, _ => rfl
    rw [this]
    exact .tup (by simpa using hn) fun j x d hx hd => hrp j x d (by simpa using hx) hd

/-- The state in which a function begins. -/
def St.start (args : List DV) : St := { env := fun t => args.getD t (.raw undef), heap := fun _ => none, tip := fun _ => none, gen := fun _ => 0 }
def Fin (P : Program) (fn : Func) (r : DV) (e : Exit) (s : St) : Prop := (e = .normal ∨ e = .ret) ∧ ∃ ds, resL P s fn.results.toList = some ds ∧ (∀ d ∈ ds, pureD d = true) ∧ tupD ds = r

/-- A function's contract. -/
theorem fn_intro (hm : P.follows .mixedOrders = true) {f : FuncId} {fn : Func} {c : Code} {args : List DV} {r : DV} (hf : P.funcs[f]? = some fn) (hname : (fn.name == "runtime.NumGoroutine") = false) (hb : fn.body = some c) (hn : args.length ≤ fn.ntmps)
    (h : wpD P fn.ntmps c (Fin P fn r) (St.start args)) : FnD P f args r := by
  refine ⟨⟨fn, hf, hname, by rw [hb]; rfl⟩, fun w F vs hF hB hvn hvr => ?_⟩
  refine calls_of_wp hf hb ?_
  have hR : Re P fn.ntmps w F (St.start args) { tmps := vs ++ Array.replicate (fn.ntmps - vs.size) undef, defers := [] } w := by
    refine ⟨⟨F, fun _ => none, fun _ => none, fun _ => none⟩, by simp; omega, rfl, fun t => ?_, ⟨Below.refl _ _, hF, Facts.sub_refl _, fun b o x hx => .inl hx, (fun k b hk => by cases hk), (fun k c hk => by cases hk), (fun k b hk => by cases hk), (fun k k' b hk => by cases hk), (fun k v e u hk => by cases hk), (fun k v e hk => by cases hk), (fun k k' b hk => by cases hk), (fun k k' v e u v' e' u' b hk => by cases hk), (fun k k' b v e u hk => by cases hk), fun k _ => ⟨rfl, rfl, rfl⟩, hB⟩⟩
    simp only [St.start, Array.getD_eq_getD_getElem?, List.getD_eq_getElem?_getD]
    by_cases ht : t < vs.size
    · rw [Array.getElem?_append_left ht, Array.getElem?_eq_getElem ht, List.getElem?_eq_getElem (by omega)]
      exact RP.rv (hvr t _ _ (Array.getElem?_eq_getElem ht) (List.getElem?_eq_getElem (by omega)))
    · rw [List.getElem?_eq_none (by omega), Array.getElem?_append_right (by omega)]
      have : ((Array.replicate (fn.ntmps - vs.size) undef)[t - vs.size]?).getD undef = undef := by
        rw [Array.getElem?_replicate]
        split <;> rfl
      rw [this]
      exact raw_rv _ rfl
  refine wp_mono (wpD_sound hm c _ _ _ _ h hR) fun e a' w' ⟨s', ⟨he, ds, hds, hp, hr⟩, G, hR'⟩ => ?_
  obtain ⟨v, hv, hrp⟩ := results_sound hR' fn hds hp
  rw [hr] at hrp
  have : a'.defers = [] ∧ ∃ v, (results fn a'.tmps).run P w' = .ok v w' ∧ ∃ v' F', Ending.returned v = .returned v' ∧ F.sub F' ∧ F'.ok w' ∧ (∀ b o x, F' b o x → F b o x ∨ w.heap.size ≤ b) ∧ RP F' v' r ∧ Below w.heap.size w w' :=
    ⟨hR'.defers, v, hv, v, G.F, rfl, hR'.mem.f0, hR'.mem.facts, hR'.mem.fnew, hrp, hR'.mem.below⟩
  rcases he with rfl | rfl
  · exact this
  · exact this
end
end Go.Proofs.YtdbaklnjemcfgaaGreatDoor.D
