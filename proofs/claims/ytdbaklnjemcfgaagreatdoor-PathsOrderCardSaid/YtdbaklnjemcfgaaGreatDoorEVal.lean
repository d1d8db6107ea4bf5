/- Values and memory of a call's own as plain data: EV, EO; VL, VV: which value of the model a value stands for; WE: how memory lies in the model's world. Conditions: none. -/
import Derived.Test.YtdbaklnjemcfgaaGreatDoorDSounds
import Derived.Test.YtdbaklnjemcfgaaGreatDoorDMem
import Derived.Test.YtdbaklnjemcfgaaGreatDoorEBase
namespace Go.Proofs.YtdbaklnjemcfgaaGreatDoor.E
open Go.RowKit Go.Proofs.YtdbaklnjemcfgaaGreatDoor.Mem Go.Proofs.YtdbaklnjemcfgaaGreatDoor.D
set_option linter.unusedVariables false
set_option linter.unusedSimpArgs false

/-- Values: data that stands for good; what points into blocks of the call's own, which have numbers of their own. -/
inductive EV where
  | im (d : DV)
  | ptr (k off : Nat)
  | sl (k off len cap n : Nat) (ex : Bool)
  | emp
  | mp (k : Nat)
  | clo (f : FuncId) (caps : List EV)
  | bnd (f : FuncId) (first : List EV)
  | ifc (t : TypeId) (d : EV)
  | agg (cells : List EV)
  | tup (vs : List EV)
  | junk
  deriving Inhabited

/-- Objects in memory. -/
inductive EO where
  | cells (cs : List EV)
  | map (es : List (EV × EV × Nat)) (clk : Nat)
  | box0 (d : EV)
  deriving Inhabited

abbrev Hp := Nat → Option EO

/-- Where a block lies: in which block of the model, from which cell on, and how many cells that one has. -/
structure Pl where
  b : Nat
  o : Nat
  sz : Nat

/-- What stands for good, and where the call's own blocks lie. -/
structure Gg where
  F : Facts
  pl : Nat → Option Pl

/-- A later one: below n nothing is new but for what R allows. -/
structure Gg.le (R : Nat → Prop) (G G' : Gg) : Prop where
  F : G'.F = G.F
  pl : ∀ k p, G.pl k = some p → G'.pl k = some p
  old : ∀ k, ¬ R k → G'.pl k = G.pl k
theorem Gg.le_refl (R : Nat → Prop) (G : Gg) : G.le R G := ⟨rfl, fun _ _ h => h, fun _ _ => rfl⟩
theorem Gg.le_trans {R R' : Nat → Prop} {G G1 G2 : Gg} (h : G.le R G1) (k : G1.le R' G2) (hr : ∀ i, R' i → R i) : G.le R G2 :=
  ⟨k.F.trans h.F, fun i p hp => k.pl i p (h.pl i p hp), fun i hi => (k.old i (fun x => hi (hr i x))).trans (h.old i hi)⟩
theorem Gg.le_mono {R R' : Nat → Prop} {G G1 : Gg} (h : G.le R G1) (hr : ∀ i, R i → R' i) : G.le R' G1 := ⟨h.F, h.pl, fun i hi => h.old i (fun x => hi (hr i x))⟩

/-- A value of one cell. -/
inductive VL (G : Gg) : Value → EV → Prop
  | im {v : Value} {d : DV} (h : RI G.F v d) : VL G v (.im d)
  | ptr {k : Nat} {p : Pl} (off : Nat) (h : G.pl k = some p) : VL G (.pointer (some ⟨p.b, p.o + off, none⟩)) (.ptr k off)
  | sl {k : Nat} {p : Pl} {a : Nat} (off len cap n : Nat) (ex : Bool) (c : Nat) (h : G.pl k = some p) (hl : len ≤ cap) (hc : cap ≤ c) (hx : ex = true → c = cap) (ha : a = p.o + off ∨ c = 0) (hm : c ≤ maxLen) (hs : c = 0 ∨ p.o + off + c * n ≤ p.sz) :
      VL G (.slice (some ⟨p.b, a, none⟩) len c) (.sl k off len cap n ex)
  | emp (A : Option Addr) : VL G (.slice A 0 0) .emp
  | mp {k : Nat} {p : Pl} (h : G.pl k = some p) : VL G (.map (some p.b)) (.mp k)
  | clo (f : FuncId) {cs : Array Value} {ds : List EV} (hn : cs.size = ds.length) (h : ∀ (j : Nat) x d, cs[j]? = some x → ds[j]? = some d → VL G x d) : VL G (.func (.func f) #[] cs) (.clo f ds)
  | bnd (f : FuncId) {cs : Array Value} {ds : List EV} (hn : cs.size = ds.length) (h : ∀ (j : Nat) x d, cs[j]? = some x → ds[j]? = some d → VL G x d) : VL G (.func (.func f) cs #[]) (.bnd f ds)
  | ifc (t : TypeId) {v : Value} {d : EV} (h : VL G v d) : VL G (.iface t v) (.ifc t d)

theorem VL.mono {R : Nat → Prop} {G G' : Gg} (hs : G.le R G') {v : Value} {d : EV} (h : VL G v d) : VL G' v d := by
  induction h with
  | im h => exact .im (by rw [hs.F]; exact h)
  | ptr off h => exact .ptr off (hs.pl _ _ h)
  | sl off len cap n ex c h hl hc hx ha hm hsz => exact .sl off len cap n ex c (hs.pl _ _ h) hl hc hx ha hm hsz
  | emp A => exact .emp A
  | mp h => exact .mp (hs.pl _ _ h)
  | clo f hn _ ih => exact .clo f hn ih
  | bnd f hn _ ih => exact .bnd f hn ih
  | ifc t _ ih => exact .ifc t ih
theorem VL.leaf {G : Gg} {v : Value} {d : EV} (h : VL G v d) : leafV v = true := by
  cases h with
  | im h => exact h.leaf
  | ptr => rfl
  | sl => rfl
  | emp => rfl
  | mp => rfl
  | clo => rfl
  | bnd => rfl
  | ifc => rfl

/-- Rows of cells, one by one. -/
def VC (G : Gg) (cs : List Value) (ds : List EV) : Prop := cs.length = ds.length ∧ ∀ (j : Nat) x d, cs[j]? = some x → ds[j]? = some d → VL G x d
theorem VC.mono {R : Nat → Prop} {G G' : Gg} (hs : G.le R G') {cs ds} (h : VC G cs ds) : VC G' cs ds := ⟨h.1, fun j x d a b => (h.2 j x d a b).mono hs⟩
theorem VC.drop {G : Gg} {cs ds} (h : VC G cs ds) (n : Nat) : VC G (cs.drop n) (ds.drop n) := ⟨by simp [h.1], fun j x d a b => h.2 (n + j) x d (by simpa using a) (by simpa using b)⟩
theorem VC.take {G : Gg} {cs ds} (h : VC G cs ds) (n : Nat) : VC G (cs.take n) (ds.take n) :=
  ⟨by simp [h.1], fun j x d a b => h.2 j x d (by rw [List.getElem?_take] at a; split at a <;> simp_all) (by rw [List.getElem?_take] at b; split at b <;> simp_all)⟩
theorem VC.append {G : Gg} {cs ds cs' ds'} (h : VC G cs ds) (h' : VC G cs' ds') : VC G (cs ++ cs') (ds ++ ds') := by
  refine ⟨by simp [h.1, h'.1], fun j x d a b => ?_⟩
  by_cases hj : j < cs.length
  · rw [List.getElem?_append_left hj] at a
    rw [List.getElem?_append_left (by rw [← h.1]; exact hj)] at b
    exact h.2 j x d a b
  · rw [List.getElem?_append_right (by omega)] at a
    rw [List.getElem?_append_right (by rw [← h.1]; omega)] at b
    exact h'.2 _ x d a (by rw [h.1]; exact b)
theorem VC.nil (G : Gg) : VC G [] [] := ⟨rfl, fun j x d a _ => by simp at a⟩
theorem VC.one {G : Gg} {v d} (h : VL G v d) : VC G [v] [d] := ⟨rfl, fun j x y a b => by cases j <;> simp at a b; subst a b; exact h⟩
theorem VC.cons {G : Gg} {v d cs ds} (h : VL G v d) (h' : VC G cs ds) : VC G (v :: cs) (d :: ds) := VC.append (VC.one h) h'

/-- Any value. -/
inductive VV (G : Gg) : Value → EV → Prop
  | leaf {v : Value} {d : EV} (h : VL G v d) : VV G v d
  | agg {cs : Array Value} {ds : List EV} (h : VC G cs.toList ds) : VV G (.agg cs) (.agg ds)
  | tup {vs : Array Value} {ds : List EV} (hn : vs.size = ds.length) (h : ∀ (j : Nat) x d, vs[j]? = some x → ds[j]? = some d → VV G x d) : VV G (.tuple vs) (.tup ds)
  | junk (v : Value) : VV G v .junk
theorem VV.mono {R : Nat → Prop} {G G' : Gg} (hs : G.le R G') {v : Value} {d : EV} (h : VV G v d) : VV G' v d := by
  induction h with
  | leaf h => exact .leaf (h.mono hs)
  | agg h => exact .agg (h.mono hs)
  | tup hn _ ih => exact .tup hn ih
  | junk v => exact .junk v

def EV.cells : EV → List EV
  | .agg cs => cs
  | d => [d]
def solid : EV → Bool
  | .tup _ => false
  | .junk => false
  | _ => true
/-- Of one cell. -/
def leafE : EV → Bool
  | .tup _ => false
  | .junk => false
  | .agg _ => false
  | _ => true
theorem VL.ecells {G : Gg} {v : Value} {d : EV} (h : VL G v d) : d.cells = [d] := by cases h <;> rfl
theorem VV.cells {G : Gg} {v : Value} {d : EV} (h : VV G v d) (hd : solid d = true) : VC G v.cells.toList d.cells := by
  cases h with
  | leaf h => rw [cells_leaf h.leaf, h.ecells]; exact VC.one h
  | agg h => exact h
  | tup => simp [solid] at hd
  | junk => simp [solid] at hd
theorem VV.leaf' {G : Gg} {v : Value} {d : EV} (h : VV G v d) (hd : leafE d = true) : VL G v d := by
  cases h with
  | leaf h => exact h
  | agg h => simp [leafE] at hd
  | tup => simp [leafE] at hd
  | junk => simp [leafE] at hd
theorem VL.raw {G : Gg} {v u : Value} (h : VL G v (.im (.raw u))) : v = u := by
  cases h with
  | im h => cases h; rfl
theorem VV.raw {G : Gg} {v u : Value} (h : VV G v (.im (.raw u))) : v = u := (h.leaf' rfl).raw

def er (v : Value) : EV := .im (.raw v)
theorem VL.er {G : Gg} {v : Value} (h : leafV v = true) : VL G v (er v) := .im (.raw v h)
theorem VV.er {G : Gg} {v : Value} (h : leafV v = true) : VV G v (er v) := .leaf (VL.er h)
/-- A constant. -/
def lite : Value → EV
  | .agg cs => if cs.all leafV then .agg (cs.toList.map er) else .junk
  | v => er v
theorem VV.lite (G : Gg) (v : Value) : VV G v (lite v) := by
  cases v with
  | agg cs =>
    simp only [E.lite]
    by_cases h : cs.all leafV = true
    · rw [if_pos h]
      refine .agg ⟨by simp, fun j x d a b => ?_⟩
      rw [List.getElem?_map, a] at b
      simp at b
      subst b
      exact VL.er ((Array.all_eq_true_iff_forall_mem.1 h) x (by simpa using List.mem_of_getElem? a))
    · rw [if_neg h]
      exact .junk _
  | _ => exact VV.er rfl

/-! ### data that stands for good, as method D has it -/
def pureE : EV → Option DV
  | .im d => if pure0 d then some d else none
  | _ => none
def pureL : List EV → Option (List DV)
  | [] => some []
  | x :: l => match pureE x, pureL l with
    | some d, some ds => some (d :: ds)
    | _, _ => none
/-- A value as method D sees it; what it does not know is junk. -/
def toD : EV → DV
  | .im d => if pure0 d then d else .junk
  | .agg cs => match pureL cs with
    | some ds => .agg ds
    | none => .junk
  | _ => .junk
def Gg.gh (G : Gg) : Gh := ⟨G.F, fun _ => none, fun _ => none, fun _ => none⟩
theorem pureE_sound {G : Gg} {v : Value} {x : EV} {d : DV} (h : VL G v x) (hp : pureE x = some d) : RI G.F v d ∧ pure0 d = true := by
  cases x with
  | im d' =>
    simp only [pureE] at hp
    split at hp
    · rename_i h0
      injection hp with hp
      subst hp
      cases h with
      | im h => exact ⟨h, h0⟩
    · cases hp
  | _ => simp [pureE] at hp
theorem pureL_sound {G : Gg} : ∀ (l : List EV) (ds : List DV), pureL l = some ds → l.length = ds.length ∧ ∀ (j : Nat) x d, l[j]? = some x → ds[j]? = some d → pureE x = some d := by
  intro l
  induction l with
  | nil => intro ds h; simp [pureL] at h; subst h; exact ⟨rfl, by simp⟩
  | cons x l ih =>
    intro ds h
    simp only [pureL] at h
    split at h
    · rename_i d ds' hx hl
      injection h with h
      subst h
      obtain ⟨h1, h2⟩ := ih ds' hl
      refine ⟨by simp [h1], fun j y e hy he => ?_⟩
      cases j with
      | zero => simp at hy he; subst hy he; exact hx
      | succ j => exact h2 j y e (by simpa using hy) (by simpa using he)
    · cases h
theorem toD_sound {G : Gg} {v : Value} {x : EV} (h : VV G v x) : RV G.gh v (toD x) := by
  cases h with
  | leaf h =>
    cases h with
    | im h =>
      simp only [toD]
      split
      · exact .leaf (.imm h)
      · exact .junk _
    | _ => exact .junk _
  | agg h =>
    rename_i cs ds
    simp only [toD]
    split
    · rename_i l hl
      obtain ⟨h1, h2⟩ := pureL_sound (G := G) ds l hl
      refine .agg ⟨h.1.trans h1, fun j u d hu hd => ?_⟩
      have hj : j < ds.length := by rw [h1]; exact (List.getElem?_eq_some_iff.1 hd).1
      exact .imm (pureE_sound (h.2 j u _ hu (List.getElem?_eq_getElem hj)) (h2 j _ d (List.getElem?_eq_getElem hj) hd)).1
    · exact .junk _
  | tup => exact .junk _
  | junk => exact .junk _
/-- What method D yields, as a value here. -/
def ofD : DV → EV
  | .agg cs => if cs.all pure0 then .agg (cs.map .im) else .junk
  | .tup ds => if ds.all pure0 then .tup (ds.map .im) else .junk
  | d => if pure0 d then .im d else .junk
theorem ofD_sound {G : Gg} {v : Value} {d : DV} (h : RV G.gh v d) : VV G v (ofD d) := by
  cases h with
  | leaf h =>
    have key : pure0 d = true → ofD d = .im d ∧ RI G.F v d := fun hp => ⟨by cases d <;> first | rfl | (simp [pure0] at hp) | (simp [ofD, pure0]), h.pure hp⟩
    cases d with
    | raw u => obtain ⟨e, k⟩ := key rfl; rw [e]; exact .leaf (.im k)
    | sl u => obtain ⟨e, k⟩ := key rfl; rw [e]; exact .leaf (.im k)
    | ptr u => obtain ⟨e, k⟩ := key rfl; rw [e]; exact .leaf (.im k)
    | agg cs => cases h with | imm h => cases h
    | tup cs => cases h with | imm h => cases h
    | _ => exact .junk _
  | agg h =>
    rename_i cs ds
    simp only [ofD]
    split
    · rename_i hp
      refine .agg ⟨by simpa using h.1, fun j x d hx hd => ?_⟩
      rw [List.getElem?_map] at hd
      cases hq : ds[j]? with
      | none => rw [hq] at hd; cases hd
      | some y =>
        rw [hq] at hd
        simp at hd
        subst hd
        exact .im ((h.2 j x y hx hq).pure (List.all_eq_true.1 hp y (List.mem_of_getElem? hq)))
    · exact .junk _
  | tup hn h =>
    rename_i vs ds
    simp only [ofD]
    split
    · rename_i hp
      refine .tup (by simpa using hn) fun j x d hx hd => ?_
      rw [List.getElem?_map] at hd
      cases hq : ds[j]? with
      | none => rw [hq] at hd; cases hd
      | some y =>
        rw [hq] at hd
        simp at hd
        subst hd
        have hpy := List.all_eq_true.1 hp y (List.mem_of_getElem? hq)
        have hr := h j x y hx hq
        refine .leaf (.im ?_)
        cases hr with
        | leaf h => exact h.pure hpy
        | agg => simp [pure0] at hpy
        | tup => simp [pure0] at hpy
        | junk => simp [pure0] at hpy
    · exact .junk _
  | junk v => exact .junk _

/-! ### memory -/
/-- An object in the model's memory. -/
def ObjOk (G : Gg) (o : EO) (p : Pl) (w : World) : Prop :=
  match o with
  | .cells cs => ∃ c t, w.heap[p.b]? = some (.cells c t (0, 0)) ∧ c.size = p.sz ∧ p.o + cs.length ≤ p.sz ∧ ∀ (j : Nat) d, cs[j]? = some d → ∃ x, c[p.o + j]? = some x ∧ VL G x d
  | .map es clk => p.o = 0 ∧ ∃ ents : Array MapEntry, w.heap[p.b]? = some (.map ents clk) ∧ ents.size = es.length ∧ ∀ (j : Nat) e x, ents[j]? = some e → es[j]? = some x → VV G e.key x.1 ∧ VV G e.val x.2.1 ∧ e.born = x.2.2
  | .box0 d => p.o = 0 ∧ ∃ c t, w.heap[p.b]? = some (.cells #[c] t (0, 0)) ∧ VL G c d
theorem ObjOk.mono {R : Nat → Prop} {G G' : Gg} (hs : G.le R G') {o : EO} {p : Pl} {w w' : World} (h : ObjOk G o p w) (hw : w'.heap[p.b]? = w.heap[p.b]?) : ObjOk G' o p w' := by
  cases o with
  | cells cs =>
    obtain ⟨c, t, h1, h2, h3, h4⟩ := h
    exact ⟨c, t, by rw [hw]; exact h1, h2, h3, fun j d hd => by obtain ⟨x, a, b⟩ := h4 j d hd; exact ⟨x, a, b.mono hs⟩⟩
  | map es clk =>
    obtain ⟨h0, ents, h1, h2, h3⟩ := h
    exact ⟨h0, ents, by rw [hw]; exact h1, h2, fun j e x a b => by obtain ⟨q1, q2, q3⟩ := h3 j e x a b; exact ⟨q1.mono hs, q2.mono hs, q3⟩⟩
  | box0 d =>
    obtain ⟨h0, c, t, h1, h2⟩ := h
    exact ⟨h0, c, t, by rw [hw]; exact h1, h2.mono hs⟩
theorem ObjOk.lt {G : Gg} {o : EO} {p : Pl} {w : World} (h : ObjOk G o p w) : p.b < w.heap.size := by
  cases o with
  | cells cs => obtain ⟨c, t, h1, _⟩ := h; exact lt_of_heap h1
  | map es clk => obtain ⟨_, ents, h1, _⟩ := h; exact lt_of_heap h1
  | box0 d => obtain ⟨_, c, t, h1, _⟩ := h; exact lt_of_heap h1

/-- Memory in the model's world: T: the blocks of w0 that may have changed; R: the numbers that are still free. -/
structure WE (T : Nat → Prop) (w0 : World) (R : Nat → Prop) (G : Gg) (h : Hp) (w : World) : Prop where
  chg : Chg T w0 w
  facts : G.F.ok w
  obj : ∀ k o, h k = some o → ∃ p, G.pl k = some p ∧ (T p.b ∨ w0.heap.size ≤ p.b) ∧ ObjOk G o p w
  noF : ∀ k o p, h k = some o → G.pl k = some p → ∀ off x, ¬ G.F p.b off x
  apart : ∀ k k' o o' p p', h k = some o → h k' = some o' → k ≠ k' → G.pl k = some p → G.pl k' = some p' → p.b ≠ p'.b
  fresh : ∀ k, R k → G.pl k = none
  base : BaseOk G.F w
end Go.Proofs.YtdbaklnjemcfgaaGreatDoor.E
