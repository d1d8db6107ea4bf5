/- Memory with one object new or other (WE.one); what is read of it. Conditions: none. -/
import Derived.Test.YtdbaklnjemcfgaaGreatDoorESound
namespace Go.Proofs.YtdbaklnjemcfgaaGreatDoor.E
open Go.RowKit Go.Proofs.YtdbaklnjemcfgaaGreatDoor.Mem Go.Proofs.YtdbaklnjemcfgaaGreatDoor.D
set_option linter.unusedVariables false
set_option linter.unusedSimpArgs false

section
variable {P : Program} {G G' : Gg} {w w' w0 : World} {T R : Nat → Prop} {h : Hp}

theorem WE.lt (hW : WE T w0 R G h w) {k : Nat} {o : EO} {p : Pl} (hk : h k = some o) (hp : G.pl k = some p) : p.b < w.heap.size := by
  obtain ⟨p', hp', _, ho⟩ := hW.obj k o hk
  rw [hp] at hp'
  injection hp' with hp'
  subst hp'
  exact ho.lt
theorem WE.at' (hW : WE T w0 R G h w) {k : Nat} {o : EO} (hk : h k = some o) {p : Pl} (hp : G.pl k = some p) : (T p.b ∨ w0.heap.size ≤ p.b) ∧ ObjOk G o p w := by
  obtain ⟨p', hp', h1, h2⟩ := hW.obj k o hk
  rw [hp] at hp'
  injection hp' with hp'
  subst hp'
  exact ⟨h1, h2⟩

/-- One object is new, or other; some may have gone. -/
theorem WE.one (hW : WE T w0 R G h w) (k1 : Nat) (o1 : EO) (p1 : Pl) (h' : Hp) (hG : G.le (fun k => k = k1) G') (hp1 : G'.pl k1 = some p1)
    (hos : w'.os = w.os) (htape : w'.tape = w.tape) (hout : w'.output = w.output) (hsz : w.heap.size ≤ w'.heap.size) (hoth : ∀ b, b < w.heap.size → b ≠ p1.b → w'.heap[b]? = w.heap[b]?)
    (hown : T p1.b ∨ w0.heap.size ≤ p1.b) (hF : ∀ off x, ¬ G.F p1.b off x) (hobj : ObjOk G' o1 p1 w') (h1 : ∀ o, h' k1 = some o → o = o1)
    (hrest : ∀ k o, k ≠ k1 → h' k = some o → h k = some o ∧ ∀ p, G.pl k = some p → p.b ≠ p1.b) : WE T w0 (fun i => R i ∧ i ≠ k1) G' h' w' where
  chg := ⟨hos.trans hW.chg.os, htape.trans hW.chg.tape, hout.trans hW.chg.output, Nat.le_trans hW.chg.size hsz, fun b hb hT => by
    rw [hoth b (Nat.lt_of_lt_of_le hb hW.chg.size) (fun e => by subst e; rcases hown with q | q; exact hT q; omega)]
    exact hW.chg.block b hb hT⟩
  facts := by
    rw [hG.F]
    intro b o x hx
    have hlt := Facts.lt hW.facts hx
    have := hW.facts b o x hx
    unfold World.cell? at this ⊢
    simp only [hoth b hlt (fun e => by subst e; exact hF _ _ hx)]
    exact this
  obj := by
    intro k o hk
    by_cases hkk : k = k1
    · subst hkk
      obtain rfl := h1 o hk
      exact ⟨p1, hp1, hown, hobj⟩
    · obtain ⟨hold, hne⟩ := hrest k o hkk hk
      obtain ⟨p, hp, hT, ho⟩ := hW.obj k o hold
      exact ⟨p, hG.pl k p hp, hT, ho.mono hG (hoth _ ho.lt (hne p hp))⟩
  base := hW.base.keep (by rw [hG.F]; exact Facts.sub_refl _) (fun b hb ⟨off, x, hx⟩ => hoth b hb (fun e => by subst e; exact hF _ _ hx))
  noF := by
    intro k o p hk hp
    rw [hG.F]
    by_cases hkk : k = k1
    · subst hkk
      rw [hp1] at hp
      injection hp with hp
      subst hp
      exact hF
    · obtain ⟨hold, _⟩ := hrest k o hkk hk
      rw [hG.old k hkk] at hp
      exact hW.noF k o p hold hp
  apart := by
    intro k k' o o' p p' hk hk' hne hp hp'
    by_cases hkk : k = k1
    · subst hkk
      rw [hp1] at hp
      injection hp with hp
      subst hp
      obtain ⟨_, hn⟩ := hrest k' o' (Ne.symm hne) hk'
      rw [hG.old k' (Ne.symm hne)] at hp'
      exact fun e => hn p' hp' e.symm
    · obtain ⟨hold, hn⟩ := hrest k o hkk hk
      rw [hG.old k hkk] at hp
      by_cases hkk' : k' = k1
      · subst hkk'
        rw [hp1] at hp'
        injection hp' with hp'
        subst hp'
        exact hn p hp
      · obtain ⟨hold', _⟩ := hrest k' o' hkk' hk'
        rw [hG.old k' hkk'] at hp'
        exact hW.apart k k' o o' p p' hold hold' hne hp hp'
  fresh := fun k hk => (hG.old k hk.2).trans (hW.fresh k hk.1)

/-- Less memory, and fewer free numbers, are spoken of. -/
theorem WE.sub (hW : WE T w0 R G h w) {h' : Hp} {R' : Nat → Prop} (hs : ∀ k o, h' k = some o → h k = some o) (hr : ∀ k, R' k → R k) : WE T w0 R' G h' w :=
  ⟨hW.chg, hW.facts, fun k o hk => hW.obj k o (hs k o hk), fun k o p hk => hW.noF k o p (hs k o hk), fun k k' o o' p p' hk hk' => hW.apart k k' o o' p p' (hs k o hk) (hs k' o' hk'), fun k hk => hW.fresh k (hr k hk), hW.base⟩

/-- A number that names a block is not free. -/
theorem WE.named (hW : WE T w0 R G h w) {k : Nat} {p : Pl} (hp : G.pl k = some p) : ∀ i, R i → i ≠ k := fun i hi e => by
  subst e
  rw [hW.fresh i hi] at hp
  cases hp

/-- Another object in its place. -/
theorem WE.turn (hW : WE T w0 R G h w) {k : Nat} {o o1 : EO} {p : Pl} (hk : h k = some o) (hp : G.pl k = some p) (hos : w'.os = w.os) (htape : w'.tape = w.tape) (hout : w'.output = w.output) (hsz : w.heap.size ≤ w'.heap.size)
    (hoth : ∀ b, b < w.heap.size → b ≠ p.b → w'.heap[b]? = w.heap[b]?) (hobj : ObjOk G o1 p w') : WE T w0 R G (upd h k (some o1)) w' := by
  have := hW.one k o1 p (upd h k (some o1)) (Gg.le_refl _ G) hp hos htape hout hsz hoth (hW.at' hk hp).1 (hW.noF k o p hk hp) hobj (fun o ho => by rw [upd_same] at ho; injection ho with ho; exact ho.symm) (fun k' o' hne hk' => by
    rw [upd_ne _ _ hne] at hk'
    exact ⟨hk', fun p' hp' => hW.apart k' k o' o p' p hk' hk hne hp' hp⟩)
  exact ⟨this.chg, this.facts, this.obj, this.noF, this.apart, hW.fresh, this.base⟩

/-- One place more. -/
def Gg.put (G : Gg) (k : Nat) (p : Pl) : Gg := ⟨G.F, upd G.pl k (some p)⟩
theorem Gg.put_at (G : Gg) (k : Nat) (p : Pl) : (G.put k p).pl k = some p := upd_same ..
theorem Gg.put_le {k : Nat} (hk : G.pl k = none) (p : Pl) : G.le (fun i => i = k) (G.put k p) := by
  refine ⟨rfl, fun i p' hp => ?_, fun i hi => upd_ne _ _ hi⟩
  have : i ≠ k := fun e => by subst e; rw [hk] at hp; cases hp
  show upd G.pl k _ i = _
  rw [upd_ne _ _ this]
  exact hp

/-- A new object in a new block. -/
theorem WE.add (hW : WE T w0 R G h w) (k : Nat) (hk : R k) (o1 : EO) (sz : Nat) (hos : w'.os = w.os) (htape : w'.tape = w.tape) (hout : w'.output = w.output) (hsz : w.heap.size ≤ w'.heap.size) (hoth : ∀ b, b < w.heap.size → w'.heap[b]? = w.heap[b]?)
    (hobj : ObjOk (G.put k ⟨w.heap.size, 0, sz⟩) o1 ⟨w.heap.size, 0, sz⟩ w') (h' : Hp) (h1 : h' k = some o1) (hr : ∀ k' o, k' ≠ k → h' k' = some o → h k' = some o) :
    WE T w0 (fun i => R i ∧ i ≠ k) (G.put k ⟨w.heap.size, 0, sz⟩) h' w' ∧ G.le (fun i => i = k) (G.put k ⟨w.heap.size, 0, sz⟩) := by
  have hle := Gg.put_le (G := G) (hW.fresh k hk) ⟨w.heap.size, 0, sz⟩
  refine ⟨hW.one k o1 ⟨w.heap.size, 0, sz⟩ h' hle (upd_same ..) hos htape hout hsz (fun b hb _ => hoth b hb) (.inr hW.chg.size) (fun off x hx => ?_) hobj (fun o ho => by rw [h1] at ho; injection ho with ho; exact ho.symm) (fun k' o' hne hk' => ⟨hr k' o' hne hk', fun p hp => ?_⟩), hle⟩
  · have := Facts.lt hW.facts hx
    simp at this
  · have := hW.lt (hr k' o' hne hk') hp
    show p.b ≠ w.heap.size
    omega

/-- Cells of a block, in the model. -/
theorem ObjOk.read {cs : List EV} {p : Pl} (ho : ObjOk G (.cells cs) p w) (off n : Nat) (hl : off + n ≤ cs.length) :
    ∃ vs : List Value, vs.length = n ∧ VC G vs ((cs.drop off).take n) ∧ ∀ (j : Nat) x, vs[j]? = some x → w.cell? ⟨p.b, p.o + off + j, none⟩ = some x := by
  obtain ⟨c, t, h1, h2, h3, h4⟩ := ho
  have hcell : ∀ j (hj : j < n), ∃ x, c[p.o + (off + j)]? = some x ∧ VL G x (cs[off + j]'(by omega)) := fun j hj => h4 (off + j) _ (List.getElem?_eq_getElem (by omega))
  refine ⟨(c.toList.drop (p.o + off)).take n, ?_, ⟨?_, fun j x d hx hd => ?_⟩, fun j x hx => ?_⟩
  · rw [List.length_take, List.length_drop, Array.length_toList]; omega
  · simp only [List.length_take, List.length_drop, Array.length_toList]; omega
  · have hj : j < n := by
      have := (List.getElem?_eq_some_iff.1 hx).1
      rw [List.length_take] at this
      omega
    obtain ⟨y, hy, hv⟩ := hcell j hj
    rw [List.getElem?_take_of_lt hj, List.getElem?_drop, Array.getElem?_toList, Nat.add_assoc, hy] at hx
    injection hx with hx
    subst hx
    rw [List.getElem?_take_of_lt hj, List.getElem?_drop, List.getElem?_eq_getElem (by omega)] at hd
    injection hd with hd
    subst hd
    exact hv
  · have hj : j < n := by
      have := (List.getElem?_eq_some_iff.1 hx).1
      rw [List.length_take] at this
      omega
    rw [List.getElem?_take_of_lt hj, List.getElem?_drop, Array.getElem?_toList] at hx
    simp only [World.cell?, h1, Option.isSome_none, Bool.false_eq_true, if_false]
    exact hx

theorem load_runE (hW : WE T w0 R G h w) {t k off : Nat} {va : Value} {r : EO → EV → Prop} (ha : VV G va (.ptr k off)) {kk : Nat} (hl : loadE P t k off = .look kk r) {o : EO} {d : EV} (hk : h kk = some o) (hr : r o d) :
    ∃ v, (Instr.loadAt t va).run P w = .ok v w ∧ VV G v d := by
  unfold loadE at hl
  split at hl
  · rename_i n b g ht
    split at hl
    · rename_i hg
      injection hl with e1 e2
      subst e1 e2
      obtain ⟨cs, rfl, hlen, rfl⟩ := hr
      cases ha.leaf' rfl with
      | ptr _ hp =>
        rename_i p
        obtain ⟨vs, hvn, hvc, hcell⟩ := (hW.at' hk hp).2.read off n hlen
        have hg1 : g = false → n = 1 := by intro hg'; subst hg'; simpa using hg
        refine ⟨_, ?_, mk_ofE hvc hvn hg1⟩
        simp only [Instr.loadAt, Sem.run_bind, sureAddr_run, Result.andThen_ok]
        rw [run_loadVar_of ht p.b (p.o + off) vs hvn hg1 w hcell]
    · cases hl
  · cases hl

theorem one_soundE {v : Value} {d : EV} (hv : VL G v d) (h1 : oneE d = true) : v.oneCell' = true := by
  cases hv with
  | im h => exact one_sound h h1
  | ptr => rfl
  | sl => rfl
  | emp => rfl
  | mp => rfl
  | clo => rfl
  | bnd => rfl
  | ifc => rfl

/-- Cells written over others of a block. -/
theorem write_run (hW : WE T w0 R G h w) {k : Nat} {cs : List EV} (hk : h k = some (.cells cs)) {p : Pl} (hp : G.pl k = some p) (off : Nat) (news : List Value) (new : List EV) (hn : VC G news new) (h1 : ∀ d ∈ new, oneE d = true) (hl : off + new.length ≤ cs.length) :
    ∃ w', (storeCells ⟨p.b, p.o + off, none⟩ news).run P w = .ok () w' ∧ WE T w0 R G (upd h k (some (.cells (spliceE cs off new)))) w' ∧ (∀ b, b ≠ p.b → w'.heap[b]? = w.heap[b]?) ∧ w'.heap.size = w.heap.size := by
  obtain ⟨c, t, q1, q2, q3, q4⟩ := (hW.at' hk hp).2
  have hone : ∀ u ∈ news, u.oneCell' = true := by
    intro u hu
    obtain ⟨j, hj⟩ := List.getElem?_of_mem hu
    have hjl : j < new.length := by rw [← hn.1]; exact (List.getElem?_eq_some_iff.1 hj).1
    exact one_soundE (hn.2 j u _ hj (List.getElem?_eq_getElem hjl)) (h1 _ (List.getElem_mem hjl))
  have hnl : news.length = new.length := hn.1
  have hst := run_storeCells_at P p.b (p.o + off) t news 0 c w q1 (by omega) hone
  have hoth : ∀ (x : Array Value) b, b ≠ p.b → (w.setRow p.b x).heap[b]? = w.heap[b]? := fun x b hb => setRow_other w p.b b x hb
  simp only [Nat.add_zero, add_lit] at hst
  refine ⟨w.setRow p.b (c.toList.take (p.o + off) ++ news ++ c.toList.drop (p.o + off + news.length)).toArray, hst, ?_, hoth _, by simp [World.setRow]⟩
  refine hW.turn hk hp rfl rfl rfl (by simp [World.setRow]) (fun b _ hb => hoth _ b hb) ⟨_, t, setRow_heap w p.b c _ t (0, 0) q1, ?_, ?_, fun j d hd => ?_⟩
  · simp only [List.size_toArray, List.length_append, List.length_take, List.length_drop, Array.length_toList]; omega
  · simp only [spliceE, List.length_append, List.length_take, List.length_drop]; omega
  · have hto : (c.toList.take (p.o + off)).length = p.o + off := by rw [List.length_take, Array.length_toList]; omega
    have hso : (cs.take off).length = off := by rw [List.length_take]; omega
    simp only [List.getElem?_toArray, spliceE] at hd ⊢
    by_cases hj1 : j < off
    · rw [List.append_assoc, List.getElem?_append_left (by omega), List.getElem?_take_of_lt hj1] at hd
      obtain ⟨x, hx, hv⟩ := q4 j d hd
      refine ⟨x, ?_, hv⟩
      rw [List.append_assoc, List.getElem?_append_left (by omega), List.getElem?_take_of_lt (by omega), Array.getElem?_toList]
      exact hx
    · by_cases hj2 : j < off + new.length
      · rw [List.append_assoc, List.getElem?_append_right (by omega), hso, List.getElem?_append_left (by omega)] at hd
        have hjn : j - off < news.length := by omega
        refine ⟨news[j - off], ?_, hn.2 (j - off) _ d (List.getElem?_eq_getElem hjn) hd⟩
        rw [List.append_assoc, List.getElem?_append_right (by omega), hto, List.getElem?_append_left (by omega), List.getElem?_eq_getElem (by omega)]
        congr 2
        omega
      · rw [List.getElem?_append_right (by rw [List.length_append]; omega), List.length_append, hso, List.getElem?_drop] at hd
        have ej : off + new.length + (j - (off + new.length)) = j := by omega
        rw [ej] at hd
        obtain ⟨x, hx, hv⟩ := q4 j d hd
        refine ⟨x, ?_, hv⟩
        rw [List.getElem?_append_right (by rw [List.length_append]; omega), List.length_append, hto, List.getElem?_drop, Array.getElem?_toList]
        rw [← hx]
        congr 1
        omega

theorem store_runE (hW : WE T w0 R G h w) {t k off : Nat} {va vv : Value} {v : EV} {r : Hp → Nat → EV → Hp → Nat → Prop} (ha : VV G va (.ptr k off)) (hv : VV G vv v) (hs : storeE P t k off v = .eff r) {nx nx' : Nat} {d : EV} {h' : Hp} (hr : r h nx d h' nx') :
    ∃ w', (Instr.storeAt t va vv).run P w = .ok () w' ∧ d = er undef ∧ nx' = nx ∧ WE T w0 R G h' w' ∧ w'.heap.size = w.heap.size ∧ ∀ b, (∀ k o p, h k = some o → G.pl k = some p → p.b ≠ b) → w'.heap[b]? = w.heap[b]? := by
  unfold storeE at hs
  split at hs
  · rename_i n b g ht
    split at hs
    · rename_i hok
      simp only [Bool.and_eq_true, beq_iff_eq] at hok
      obtain ⟨⟨k1, k2⟩, k3⟩ := hok
      injection hs with hs
      subst hs
      obtain ⟨cs, hk, hl, rfl, rfl, rfl⟩ := hr
      cases ha.leaf' rfl with
      | ptr _ hp =>
        rename_i p
        have hc := hv.cells k1
        obtain ⟨w', hrun, hWE, hoth, hsz⟩ := write_run (P := P) hW hk hp off _ _ hc (fun d hd => List.all_eq_true.1 k3 d hd) (by rw [k2]; exact hl)
        refine ⟨w', ?_, rfl, rfl, hWE, hsz, fun b hb => hoth b (fun e => hb k _ p hk hp e.symm)⟩
        have hvs : vv.cells.size = n := by rw [← k2, ← hc.1]; simp
        simp only [Instr.storeAt, Sem.run_bind, sureAddr_run, Result.andThen_ok, storeVar, run_size ht]
        rw [if_neg (by rw [hvs]; simp)]
        exact hrun
    · cases hs
  · cases hs
end
end Go.Proofs.YtdbaklnjemcfgaaGreatDoor.E
