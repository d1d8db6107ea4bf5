/- Code on plain data with memory of its own: what is weakest (wpE), its soundness (wpE_sound), and a function's contract (callE_intro). Conditions: none. -/
import Derived.Test.YtdbaklnjemcfgaaGreatDoorEDraw
import Derived.Test.YtdbaklnjemcfgaaGreatDoorDCode
namespace Go.Proofs.YtdbaklnjemcfgaaGreatDoor.E
open Go.RowKit Go.Proofs.YtdbaklnjemcfgaaGreatDoor.Mem Go.Proofs.YtdbaklnjemcfgaaGreatDoor.D
set_option linter.unusedVariables false
set_option linter.unusedSimpArgs false

def thenE (K : SE → Prop) (Q : Exit → SE → Prop) : Exit → SE → Prop
  | .normal, s => K s
  | e, s => Q e s
def blockE (id : Nat) (Q : Exit → SE → Prop) : Exit → SE → Prop
  | .exit i, s => if i = id then Q .normal s else Q (.exit i) s
  | e, s => Q e s
/-- A region: labels for its operations, their run, and that what may go either way does not meet. -/
def RegE (P : Program) (nt : Nat) (ops : Array Oper) (draw : Bool) (s : SE) (K : SE → Prop) : Prop :=
  dstOk nt ops = true ∧ ∃ (lab : Nat → Lab) (s' : SE), (∀ j id, lab j = .new id → id = s.next + j) ∧ RunL P ops lab (List.range ops.size) { s with next := s.next + ops.size } s' ∧
    (draw = true → regOk ops = true ∧ ∀ i j x y, i < j → ops[i]? = some x → ops[j]? = some y → ((ancTab ops.toList).getD j 0).testBit i = false → Compat (lab i) (lab j)) ∧ K s'
def wpE (P : Program) (nt : Nat) : Code → (Exit → SE → Prop) → SE → Prop
  | .skip, Q, s => Q .normal s
  | .label _, Q, s => Q .normal s
  | .region _ ops draw, Q, s => RegE P nt ops draw s (Q .normal)
  | .seq x y, Q, s => wpE P nt x (thenE (wpE P nt y Q) Q) s
  | .cond c x y, Q, s => ∃ t, s.ev c = er (.bool t) ∧ (t = true → wpE P nt x Q s) ∧ (t = false → wpE P nt y Q s)
  | .block id b, Q, s => wpE P nt b (blockE id Q) s
  | .loop b, Q, s => ∃ (I : Nat → SE → Prop) (n : Nat), I n s ∧ ∀ n s1, I n s1 → wpE P nt b (thenE (fun s2 => ∃ m, m < n ∧ I m s2) Q) s1
  | .exit id, Q, s => Q (.exit id) s
  | .ret, Q, s => Q .ret s
  | _, _, _ => False

section
variable {P : Program} {G : Gg} {w w' w0 : World} {T R : Nat → Prop} {h : Hp} {B : Ctx} {s s' : SE} {a : Act}

theorem wpE_mono {nt : Nat} {c : Code} : ∀ {Q Q' : Exit → SE → Prop} {s : SE}, (∀ e s, Q e s → Q' e s) → wpE P nt c Q s → wpE P nt c Q' s := by
  induction c with
  | skip => intro Q Q' s hq h; exact hq _ _ h
  | label l => intro Q Q' s hq h; exact hq _ _ h
  | region id ops draw => intro Q Q' s hq h; obtain ⟨h1, lab, s', h2, h3, h4, h5⟩ := h; exact ⟨h1, lab, s', h2, h3, h4, hq _ _ h5⟩
  | seq x y ihx ihy =>
    intro Q Q' s hq h
    refine ihx (fun e s hs => ?_) h
    cases e with
    | normal => exact ihy hq hs
    | _ => exact hq _ _ hs
  | cond c x y ihx ihy =>
    intro Q Q' s hq h
    obtain ⟨t, ht, h1, h2⟩ := h
    exact ⟨t, ht, fun e => ihx hq (h1 e), fun e => ihy hq (h2 e)⟩
  | block id b ih =>
    intro Q Q' s hq h
    refine ih (fun e s hs => ?_) h
    cases e with
    | exit i =>
      simp only [blockE] at hs ⊢
      split at hs
      · rename_i hi; rw [if_pos hi]; exact hq _ _ hs
      · rename_i hi; rw [if_neg hi]; exact hq _ _ hs
    | _ => exact hq _ _ hs
  | loop b ih =>
    intro Q Q' s hq h
    obtain ⟨I, n, h0, hr⟩ := h
    refine ⟨I, n, h0, fun n s1 h1 => ih (fun e s hs => ?_) (hr n s1 h1)⟩
    cases e with
    | normal => exact hs
    | _ => exact hq _ _ hs
  | exit id => intro Q Q' s hq h; exact hq _ _ h
  | ret => intro Q Q' s hq h; exact hq _ _ h
  | rangeFunc => intro Q Q' s hq h; exact h.elim
  | scope => intro Q Q' s hq h; exact h.elim
  | goto => intro Q Q' s hq h; exact h.elim
  | refuse => intro Q Q' s hq h; exact h.elim

/-- Code on plain data is what the model does. -/
theorem wpE_sound (hm : P.follows .mixedOrders = true) (c : Code) : ∀ (Q : Exit → SE → Prop) (s : SE) (a : Act) (w : World), wpE P B.nt c Q s → ReE B (fun _ => False) s a w →
    c.wp P (fun e a' w' => ∃ s', Q e s' ∧ ReE B (fun _ => False) s' a' w') a w := by
  induction c with
  | skip => intro Q s a w h hR; exact wp_skip ⟨s, h, hR⟩
  | label l => intro Q s a w h hR; exact wp_label ⟨s, h, hR⟩
  | region id ops draw =>
    intro Q s a w h hR
    obtain ⟨hok, lab, s', hl, hrun, hd, hq⟩ := h
    cases draw with
    | false => exact regionE_sound hok hl id hrun hR (fun a' w' hR' => ⟨s', hq, hR'⟩)
    | true => exact drawE_sound hm hok (hd rfl).1 hl (hd rfl).2 id hrun hR (fun a' w' hR' => ⟨s', hq, hR'⟩)
  | seq x y ihx ihy =>
    intro Q s a w h hR
    refine wp_seq (wp_mono (ihx _ s a w h hR) fun e a' w' ⟨s', hq, hR'⟩ => ?_)
    cases e with
    | normal => exact ihy Q s' a' w' hq hR'
    | _ => exact ⟨s', hq, hR'⟩
  | cond c x y ihx ihy =>
    intro Q s a w h hR
    obtain ⟨t, ht, h1, h2⟩ := h
    have hv : a.eval c = .bool t := by
      obtain ⟨G, hR⟩ := hR
      have := hR.ev c
      rw [ht] at this
      exact this.raw
    refine wp_cond hv ?_
    cases t with
    | true => exact ihx Q s a w (h1 rfl) hR
    | false => exact ihy Q s a w (h2 rfl) hR
  | block id b ih =>
    intro Q s a w h hR
    refine wp_block (wp_mono (ih _ s a w h hR) fun e a' w' ⟨s', hq, hR'⟩ => ?_)
    cases e with
    | exit i =>
      simp only [blockE] at hq
      simp only [Exit.inBlock]
      split at hq
      · rename_i hi; rw [if_pos hi]; exact ⟨s', hq, hR'⟩
      · rename_i hi; rw [if_neg hi]; exact ⟨s', hq, hR'⟩
    | _ => exact ⟨s', hq, hR'⟩
  | loop b ih =>
    intro Q s a w h hR
    obtain ⟨I, n, h0, hr⟩ := h
    refine wp_loop_ghost (fun n a w => ∃ s, I n s ∧ ReE B (fun _ => False) s a w) n ⟨s, h0, hR⟩ ?_
    rintro n a w ⟨s1, hI, hR1⟩
    refine wp_mono (ih _ s1 a w (hr n s1 hI) hR1) fun e a' w' ⟨s', hq, hR'⟩ => ?_
    cases e with
    | normal =>
      obtain ⟨m, hm, hI'⟩ := hq
      exact ⟨m, hm, s', hI', hR'⟩
    | _ => exact ⟨s', hq, hR'⟩
  | exit id => intro Q s a w h hR; exact wp_exit ⟨s, h, hR⟩
  | ret => intro Q s a w h hR; exact wp_ret ⟨s, h, hR⟩
  | rangeFunc => intro Q s a w h hR; exact h.elim
  | scope => intro Q s a w h hR; exact h.elim
  | goto => intro Q s a w h hR; exact h.elim
  | refuse => intro Q s a w h hR; exact h.elim

/-- What a function's results are. -/
def resE (P : Program) (s : SE) (r : ResultVar) (d : EV) : Prop :=
  match r with
  | .tmp t => d = s.env t
  | .cell b t => ∃ k off n bb g cs, s.env b = .ptr k off ∧ tI P t = some (n, bb, g) ∧ (g || n == 1) = true ∧ s.heap k = some (.cells cs) ∧ off + n ≤ cs.length ∧ d = mkE g ((cs.drop off).take n)
def resLE (P : Program) (s : SE) : List ResultVar → List EV → Prop
  | [], [] => True
  | r :: l, d :: ds => resE P s r d ∧ resLE P s l ds
  | _, _ => False
def tupE : List EV → EV
  | [d] => d
  | ds => .tup ds

theorem resE_sound {V : Nat → Prop} (hR : RealE B V G s a w) {r : ResultVar} {d : EV} (h : resE P s r d) : ∃ v, (resOne a.tmps r).run P w = .ok v w ∧ VV G v d := by
  cases r with
  | tmp t => simp only [resE] at h; subst h; exact ⟨_, rfl, hR.env t⟩
  | cell b t =>
    obtain ⟨k, off, n, bb, g, cs, he, ht, hg, hk, hl, rfl⟩ := h
    have hv := hR.env b
    rw [he] at hv
    generalize hva : a.tmps.getD b undef = va at hv
    cases hv.leaf' rfl with
    | ptr _ hp =>
      rename_i p
      obtain ⟨vs, hvn, hvc, hcell⟩ := (hR.mem.at' hk hp).2.read off n hl
      have hg1 : g = false → n = 1 := by intro hg'; subst hg'; simpa using hg
      refine ⟨_, ?_, mk_ofE hvc hvn hg1⟩
      simp only [resOne, hva, asAddr, Sem.run_bind, Sem.run_pure, Result.andThen_ok]
      exact run_loadVar_of ht p.b (p.o + off) vs hvn hg1 w hcell
theorem resLE_sound {V : Nat → Prop} (hR : RealE B V G s a w) : ∀ (l : List ResultVar) (ds : List EV), resLE P s l ds → ∃ vs : List Value, (l.mapM (resOne a.tmps)).run P w = .ok vs w ∧ vs.length = ds.length ∧ ∀ (j : Nat) v d, vs[j]? = some v → ds[j]? = some d → VV G v d := by
  intro l
  induction l with
  | nil =>
    intro ds h
    cases ds with
    | nil => exact ⟨[], rfl, rfl, by simp⟩
    | cons => exact h.elim
  | cons r l ih =>
    intro ds h
    cases ds with
    | nil => exact h.elim
    | cons d ds =>
      obtain ⟨h1, h2⟩ := h
      obtain ⟨v, hv, hr⟩ := resE_sound hR h1
      obtain ⟨vs, hvs, hn, hrs⟩ := ih ds h2
      refine ⟨v :: vs, ?_, by simp [hn], fun j x y hx hy => ?_⟩
      · simp only [List.mapM_cons, Sem.run_bind, hv, Result.andThen_ok, hvs, Sem.run_pure]
      · cases j with
        | zero => simp at hx hy; subst hx hy; exact hr
        | succ j => exact hrs j x y (by simpa using hx) (by simpa using hy)
theorem resultsE_sound {V : Nat → Prop} (hR : RealE B V G s a w) (fn : Func) {ds : List EV} (h : resLE P s fn.results.toList ds) : ∃ v, (results fn a.tmps).run P w = .ok v w ∧ VV G v (tupE ds) := by
  obtain ⟨vs, hvs, hn, hr⟩ := resLE_sound hR fn.results.toList ds h
  have hm : (fn.results.mapM (resOne a.tmps)).run P w = .ok vs.toArray w := by
    rw [← Array.toArray_toList (xs := fn.results), List.mapM_toArray]
    simp only [Sem.run_map]
    rw [hvs]
    rfl
  rw [results_eq]
  simp only [Sem.run_bind, hm, Result.andThen_ok, Sem.run_pure]
  by_cases h1 : vs.toArray.size = 1
  · rw [dif_pos h1]
    obtain ⟨v, rfl⟩ := List.length_eq_one_iff.1 (by simpa using h1 : vs.length = 1)
    obtain ⟨d, rfl⟩ := List.length_eq_one_iff.1 (hn.symm.trans rfl : ds.length = 1)
    exact ⟨v, rfl, hr 0 v d rfl rfl⟩
  · rw [dif_neg h1]
    refine ⟨.tuple vs.toArray, rfl, ?_⟩
    have : tupE ds = .tup ds := by
      match ds, hn with
      | [], _ => rfl
      | [d], hn => exact absurd (by simpa using hn) h1
      | _ :: _ :: _, _ => rfl
    rw [this]
    exact .tup (by simpa using hn) fun j x d hx hd => hr j x d (by simpa using hx) hd

/-- The state in which a function begins. -/
def SE.start (args : List EV) (h : Hp) (n : Nat) : SE := { env := fun t => args.getD t (er undef), heap := h, next := n }
def FinE (P : Program) (fn : Func) (n : Nat) (d : EV) (h' : Hp) (n' : Nat) (e : Exit) (s : SE) : Prop := (e = .normal ∨ e = .ret) ∧ (∃ ds, resLE P s fn.results.toList ds ∧ tupE ds = d) ∧ s.heap = h' ∧ s.next = n' ∧ n ≤ n'

/-- A function's contract. -/
theorem callE_intro (hm : P.follows .mixedOrders = true) {f : FuncId} {fn : Func} {c : Code} {args : List EV} {h h' : Hp} {n n' : Nat} {d : EV} (hf : P.funcs[f]? = some fn) (hname : (fn.name == "runtime.NumGoroutine") = false) (hb : fn.body = some c) (hn : args.length ≤ fn.ntmps)
    (hwp : wpE P fn.ntmps c (FinE P fn n d h' n') (SE.start args h n)) (hnn : n ≤ n') : CallE P f args h n d h' n' := by
  refine ⟨hnn, ⟨fn, hf, hname, by rw [hb]; rfl⟩, fun T w0 R G w vs hW hR hvn hvr => ?_⟩
  refine calls_of_wp hf hb ?_
  have hRe : ReE ⟨fn.ntmps, T, w0, G, n⟩ (fun _ => False) (SE.start args h n) { tmps := vs ++ Array.replicate (fn.ntmps - vs.size) undef, defers := [] } w := by
    refine ⟨G, by simp; omega, rfl, fun t => ?_, hW.sub (fun _ _ h => h) (fun k hk => hR k (hk.resolve_right (fun f => f))), fun k f => f.elim, Gg.le_refl _ _, Nat.le_refl _⟩
    simp only [SE.start, Array.getD_eq_getD_getElem?, List.getD_eq_getElem?_getD]
    by_cases ht : t < vs.size
    · rw [Array.getElem?_append_left ht, Array.getElem?_eq_getElem ht, List.getElem?_eq_getElem (by omega)]
      exact hvr t _ _ (Array.getElem?_eq_getElem ht) (List.getElem?_eq_getElem (by omega))
    · rw [List.getElem?_eq_none (by omega), Array.getElem?_append_right (by omega)]
      have : ((Array.replicate (fn.ntmps - vs.size) undef)[t - vs.size]?).getD undef = undef := by
        rw [Array.getElem?_replicate]
        split <;> rfl
      rw [this]
      exact VV.er rfl
  refine wp_mono (wpE_sound (B := ⟨fn.ntmps, T, w0, G, n⟩) hm c _ _ _ _ hwp hRe) fun e a' w' ⟨s', ⟨he, ⟨ds, hds, hr⟩, hh, hnx, _⟩, G', hR'⟩ => ?_
  obtain ⟨v, hv, hrp⟩ := resultsE_sound hR' fn hds
  rw [hr] at hrp
  have hmem := hR'.mem
  have hext := hR'.ext
  rw [hh, hnx] at hmem
  rw [hnx] at hext
  have hfin : WE T w0 (fun k => R k ∧ ¬ (n ≤ k ∧ k < n')) G' h' w' := ⟨hmem.chg, hmem.facts, hmem.obj, hmem.noF, hmem.apart, fun k hk => by
    by_cases h1 : n' ≤ k
    · exact hmem.fresh k (.inl h1)
    · have h2 : ¬ n ≤ k := fun h2 => hk.2 ⟨h2, by omega⟩
      rw [hext.old k (fun h3 => h2 h3.1)]
      exact hW.fresh k hk.1, hmem.base⟩
  have : a'.defers = [] ∧ ∃ v, (results fn a'.tmps).run P w' = .ok v w' ∧ ∃ v' G'', Ending.returned v = .returned v' ∧ G.le (fun k => n ≤ k ∧ k < n') G'' ∧ VV G'' v' d ∧ WE T w0 (fun k => R k ∧ ¬ (n ≤ k ∧ k < n')) G'' h' w' :=
    ⟨hR'.defers, v, hv, v, G', rfl, hext, hrp, hfin⟩
  rcases he with rfl | rfl
  · exact this
  · exact this
end
end Go.Proofs.YtdbaklnjemcfgaaGreatDoor.E
