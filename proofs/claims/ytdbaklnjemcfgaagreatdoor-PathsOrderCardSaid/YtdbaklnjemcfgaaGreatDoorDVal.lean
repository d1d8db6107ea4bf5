/- Values as plain data, apart from memory: DV; RI: a value that reads as data of memory that is never written; RV: one that may also point into boxes of the call's own, or grow. Conditions: none. -/
import Derived.Test.YtdbaklnjemcfgaaGreatDoorMem
import Derived.Maps.AppendAt
import Derived.OwnWalk
import Derived.Laws.OwnMore
import Derived.Orders
import Derived.Laws.StructEq
namespace Go.Proofs.YtdbaklnjemcfgaaGreatDoor.D
open Go.RowKit Go.Proofs.YtdbaklnjemcfgaaGreatDoor.Mem
set_option linter.unusedVariables false
set_option linter.unusedSimpArgs false

/-- The name of a thing of the call's own: the slot of the operation that made it, and how many it had made. -/
abbrev Key := Nat × Nat

/-- Values as data. -/
inductive DV where
  | raw (v : Value)
  | sl (rows : List (List DV))
  | own (k : Key) (ver : Nat) (rows : List (List DV))
  | ptr (cells : List DV)
  | ref (k : Key) (off : Nat)
  | mref (k : Key)
  | clo (f : FuncId) (caps : List DV)
  | agg (cells : List DV)
  | tup (vs : List DV)
  | junk
  deriving Inhabited

def DV.cells : DV → List DV
  | .agg cs => cs
  | d => [d]

/-- A slice's rows, whoever owns it. -/
def rowsOf : DV → Option (List (List DV))
  | .sl r => some r
  | .own _ _ r => some r
  | .raw (.slice none 0 0) => some []
  | _ => none

/-- Data without a claim to grow. -/
def imm0 : DV → DV
  | .own _ _ r => .sl r
  | .raw (.slice none 0 0) => .sl []
  | d => d
def imm : DV → DV
  | .agg cs => .agg (cs.map imm0)
  | d => imm0 d

/-- What stands in memory for good. -/
abbrev Facts := Nat → Nat → Value → Prop
def Facts.ok (F : Facts) (w : World) : Prop := ∀ b o x, F b o x → w.cell? ⟨b, o, none⟩ = some x
def Facts.sub (F F' : Facts) : Prop := ∀ b o x, F b o x → F' b o x
theorem Facts.sub_refl (F : Facts) : F.sub F := fun _ _ _ h => h
theorem Facts.sub_trans {F G H : Facts} (h : F.sub G) (k : G.sub H) : F.sub H := fun b o x hx => k b o x (h b o x hx)

/-- A value that is no struct's. -/
def leafV : Value → Bool
  | .agg _ => false
  | _ => true

/-- A value that reads as data of memory that stands for good. -/
inductive RI (F : Facts) : Value → DV → Prop
  | raw (v : Value) (h : leafV v = true) : RI F v (.raw v)
  | sl0 (A : Option Addr) (c : Nat) : RI F (.slice A 0 c) (.sl [])
  | sl (b off c sz : Nat) (rows : List (List DV)) (x : Nat → Nat → Value) (h0 : rows ≠ []) (hm : rows.length ≤ 9223372036854775807) (hc : rows.length ≤ c)
      (hsz : ∀ r ∈ rows, r.length = sz) (hF : ∀ i r, rows[i]? = some r → ∀ j d, r[j]? = some d → F b (off + i * sz + j) (x i j)) (hR : ∀ i r, rows[i]? = some r → ∀ j d, r[j]? = some d → RI F (x i j) d) :
      RI F (.slice (some ⟨b, off, none⟩) rows.length c) (.sl rows)
  | ptr (b off : Nat) (cells : List DV) (x : Nat → Value) (hF : ∀ j d, cells[j]? = some d → F b (off + j) (x j)) (hR : ∀ j d, cells[j]? = some d → RI F (x j) d) :
      RI F (.pointer (some ⟨b, off, none⟩)) (.ptr cells)

theorem RI.mono {F F' : Facts} (hs : F.sub F') {v : Value} {d : DV} (h : RI F v d) : RI F' v d := by
  induction h with
  | raw v hv => exact .raw v hv
  | sl0 A c => exact .sl0 A c
  | sl b off c sz rows x h0 hm hc hsz hF hR ih => exact .sl b off c sz rows x h0 hm hc hsz (fun i r hi j d hj => hs _ _ _ (hF i r hi j d hj)) ih
  | ptr b off cells x hF hR ih => exact .ptr b off cells x (fun j d hj => hs _ _ _ (hF j d hj)) ih
theorem RI.leaf {F : Facts} {v : Value} {d : DV} (h : RI F v d) : leafV v = true := by
  cases h with
  | raw v hv => exact hv
  | _ => rfl
theorem RI.imm0 {F : Facts} {v : Value} {d : DV} (h : RI F v d) : RI F v (imm0 d) := by
  cases h with
  | raw v hv =>
    unfold D.imm0
    split
    · rename_i h; cases h
    · rename_i h; injection h with h; subst h; exact .sl0 none 0
    · exact .raw v hv
  | sl0 A c => exact .sl0 A c
  | sl b off c sz rows x h0 hm hc hsz hF hR => exact .sl b off c sz rows x h0 hm hc hsz hF hR
  | ptr b off cells x hF hR => exact .ptr b off cells x hF hR

/-- What the call's own things are in memory: what stands, which block a box is, and which version of a growing slice is which value, over which kind of elements. -/
structure Gh where
  F : Facts
  box : Key → Option Nat
  mp : Key → Option Nat
  tip : Key → Option (Nat × TypeId × Value)

structure Gh.le (G G' : Gh) : Prop where
  F : G.F.sub G'.F
  box : ∀ k b, G.box k = some b → G'.box k = some b
  mp : ∀ k b, G.mp k = some b → G'.mp k = some b
  tip : ∀ k v e u, G.tip k = some (v, e, u) → ∃ v' e' u', G'.tip k = some (v', e', u') ∧ (v < v' ∨ (v' = v ∧ e' = e ∧ u' = u))
theorem Gh.le_refl (G : Gh) : G.le G := ⟨Facts.sub_refl _, fun _ _ h => h, fun _ _ h => h, fun k v e u h => ⟨v, e, u, h, .inr ⟨rfl, rfl, rfl⟩⟩⟩
theorem Gh.le_trans {G G1 G2 : Gh} (h : G.le G1) (k : G1.le G2) : G.le G2 := by
  refine ⟨Facts.sub_trans h.F k.F, fun i b hb => k.box i b (h.box i b hb), fun i b hb => k.mp i b (h.mp i b hb), fun i v e u hi => ?_⟩
  obtain ⟨v1, e1, u1, h1, o1⟩ := h.tip i v e u hi
  obtain ⟨v2, e2, u2, h2, o2⟩ := k.tip i v1 e1 u1 h1
  refine ⟨v2, e2, u2, h2, ?_⟩
  rcases o1 with o1 | ⟨rfl, rfl, rfl⟩
  · rcases o2 with o2 | ⟨rfl, rfl, rfl⟩
    · exact .inl (Nat.lt_trans o1 o2)
    · exact .inl o1
  · exact o2

/-- A value of one cell that may be the call's own. -/
inductive RL (G : Gh) : Value → DV → Prop
  | imm {v : Value} {d : DV} (h : RI G.F v d) : RL G v d
  | own {v : Value} {k : Key} {ver : Nat} {rows : List (List DV)} (h : RI G.F v (.sl rows)) (ht : ∃ ver' e' u', G.tip k = some (ver', e', u') ∧ ver ≤ ver') (hu : ∀ e u, G.tip k = some (ver, e, u) → u = v) : RL G v (.own k ver rows)
  | ref {k : Key} {b : Nat} (off : Nat) (h : G.box k = some b) : RL G (.pointer (some ⟨b, off, none⟩)) (.ref k off)
  | mref {k : Key} {b : Nat} (h : G.mp k = some b) : RL G (.map (some b)) (.mref k)
  | clo (f : FuncId) {cs : Array Value} {ds : List DV} (hn : cs.size = ds.length) (h : ∀ (j : Nat) x d, cs[j]? = some x → ds[j]? = some d → RL G x d) : RL G (.func (.func f) #[] cs) (.clo f ds)

theorem RL.mono {G G' : Gh} (hs : G.le G') {v : Value} {d : DV} (h : RL G v d) : RL G' v d := by
  induction h with
  | imm h => exact .imm (h.mono hs.F)
  | own h ht hu =>
    obtain ⟨v1, e1, u1, h1, hle⟩ := ht
    obtain ⟨v2, e2, u2, h2, o2⟩ := hs.tip _ _ _ _ h1
    refine .own (h.mono hs.F) ⟨v2, e2, u2, h2, by rcases o2 with o2 | ⟨rfl, _, _⟩ <;> omega⟩ (fun e u hG => ?_)
    rw [h2] at hG
    injection hG with hG
    injection hG with a1 a2
    injection a2 with a2 a3
    subst a1 a2 a3
    rcases o2 with o2 | ⟨rfl, rfl, rfl⟩
    · omega
    · exact hu _ _ h1
  | ref off h => exact .ref off (hs.box _ _ h)
  | mref h => exact .mref (hs.mp _ _ h)
  | clo f hn _ ih => exact .clo f hn ih
theorem RL.leaf {G : Gh} {v : Value} {d : DV} (h : RL G v d) : leafV v = true := by
  cases h with
  | imm h => exact h.leaf
  | own h _ _ => exact h.leaf
  | ref => rfl
  | mref => rfl
  | clo => rfl

/-- Rows of cells, one by one. -/
def RC (G : Gh) (cs : List Value) (ds : List DV) : Prop := cs.length = ds.length ∧ ∀ (j : Nat) x d, cs[j]? = some x → ds[j]? = some d → RL G x d
theorem RC.mono {G G' : Gh} (hs : G.le G') {cs ds} (h : RC G cs ds) : RC G' cs ds := ⟨h.1, fun j x d a b => (h.2 j x d a b).mono hs⟩
theorem RC.drop {G : Gh} {cs ds} (h : RC G cs ds) (n : Nat) : RC G (cs.drop n) (ds.drop n) := ⟨by simp [h.1], fun j x d a b => h.2 (n + j) x d (by simpa using a) (by simpa using b)⟩
theorem RC.take {G : Gh} {cs ds} (h : RC G cs ds) (n : Nat) : RC G (cs.take n) (ds.take n) :=
  ⟨by simp [h.1], fun j x d a b => h.2 j x d (by rw [List.getElem?_take] at a; split at a <;> simp_all) (by rw [List.getElem?_take] at b; split at b <;> simp_all)⟩
theorem RC.append {G : Gh} {cs ds cs' ds'} (h : RC G cs ds) (h' : RC G cs' ds') : RC G (cs ++ cs') (ds ++ ds') := by
  refine ⟨by simp [h.1, h'.1], fun j x d a b => ?_⟩
  by_cases hj : j < cs.length
  · rw [List.getElem?_append_left hj] at a
    rw [List.getElem?_append_left (by rw [← h.1]; exact hj)] at b
    exact h.2 j x d a b
  · rw [List.getElem?_append_right (by omega)] at a
    rw [List.getElem?_append_right (by rw [← h.1]; omega)] at b
    exact h'.2 _ x d a (by rw [h.1]; exact b)
theorem RC.nil (G : Gh) : RC G [] [] := ⟨rfl, fun j x d a _ => by simp at a⟩
theorem RC.one {G : Gh} {v d} (h : RL G v d) : RC G [v] [d] := ⟨rfl, fun j x y a b => by cases j <;> simp at a b; subst a b; exact h⟩

/-- Any value. -/
inductive RV (G : Gh) : Value → DV → Prop
  | leaf {v : Value} {d : DV} (h : RL G v d) : RV G v d
  | agg {cs : Array Value} {ds : List DV} (h : RC G cs.toList ds) : RV G (.agg cs) (.agg ds)
  | tup {vs : Array Value} {ds : List DV} (hn : vs.size = ds.length) (h : ∀ (j : Nat) x d, vs[j]? = some x → ds[j]? = some d → RV G x d) : RV G (.tuple vs) (.tup ds)
  | junk (v : Value) : RV G v .junk
theorem RV.mono {G G' : Gh} (hs : G.le G') {v : Value} {d : DV} (h : RV G v d) : RV G' v d := by
  induction h with
  | leaf h => exact .leaf (h.mono hs)
  | agg h => exact .agg (h.mono hs)
  | tup hn _ ih => exact .tup hn ih
  | junk v => exact .junk v

def notTup : DV → Bool
  | .tup _ => false
  | .junk => false
  | _ => true
theorem cells_leaf {v : Value} (h : leafV v = true) : v.cells = #[v] := by cases v <;> first | rfl | simp [leafV] at h
theorem RL.dcells {G : Gh} {v : Value} {d : DV} (h : RL G v d) : d.cells = [d] := by
  cases h with
  | imm h => cases h <;> rfl
  | own => rfl
  | ref => rfl
  | mref => rfl
  | clo => rfl
theorem RV.cells {G : Gh} {v : Value} {d : DV} (h : RV G v d) (hd : notTup d = true) : RC G v.cells.toList d.cells := by
  cases h with
  | leaf h => rw [cells_leaf h.leaf, h.dcells]; exact RC.one h
  | agg h => exact h
  | tup => simp [notTup] at hd
  | junk => simp [notTup] at hd

/-- A constant as data. -/
def lit : Value → DV
  | .agg cs => if cs.all leafV then .agg (cs.toList.map .raw) else .junk
  | v => .raw v
theorem RV.lit (G : Gh) (v : Value) : RV G v (lit v) := by
  cases v with
  | agg cs =>
    simp only [D.lit]
    by_cases h : cs.all leafV = true
    · rw [if_pos h]
      refine .agg ⟨by simp, fun j x d a b => ?_⟩
      rw [List.getElem?_map, a] at b
      simp at b
      subst b
      have hx := (Array.all_eq_true_iff_forall_mem.1 h) x (by simpa using List.mem_of_getElem? a)
      exact .imm (.raw x hx)
    · rw [if_neg h]
      exact .junk _
  | _ => exact .leaf (.imm (.raw _ rfl))

theorem RL.imm0 {G : Gh} {v : Value} {d : DV} (h : RL G v d) : RL G v (imm0 d) := by
  cases h with
  | imm h => exact .imm h.imm0
  | own h _ _ => exact .imm h
  | ref off h => exact .ref off h
  | mref h => exact .mref h
  | clo f hn h => exact .clo f hn h
theorem RV.imm {G : Gh} {v : Value} {d : DV} (h : RV G v d) : RV G v (imm d) := by
  cases h with
  | leaf h =>
    have : D.imm d = D.imm0 d := by
      cases h with
      | imm h => cases h <;> rfl
      | own => rfl
      | ref => rfl
      | mref => rfl
      | clo => rfl
    rw [this]
    exact .leaf h.imm0
  | agg h =>
    refine .agg ⟨by simp [h.1], fun j x d a b => ?_⟩
    rw [List.getElem?_map] at b
    cases hd : (‹List DV›)[j]? with
    | none => rw [hd] at b; simp at b
    | some y => rw [hd] at b; simp at b; subst b; exact (h.2 j x y a hd).imm0
  | tup hn h => exact .tup hn h
  | junk v => exact .junk v

/-- Data that is nobody's own. -/
def pure0 : DV → Bool
  | .raw _ => true
  | .sl _ => true
  | .ptr _ => true
  | _ => false
/-- Plain values without any memory. -/
def flat0 : DV → Bool
  | .raw _ => true
  | _ => false
theorem RL.pure {G : Gh} {v : Value} {d : DV} (h : RL G v d) (hp : pure0 d = true) : RI G.F v d := by
  cases h with
  | imm h => exact h
  | own => simp [pure0] at hp
  | ref => simp [pure0] at hp
  | mref => simp [pure0] at hp
  | clo => simp [pure0] at hp

/-- Data as it goes into and comes out of a call: nobody's own. -/
inductive RP (F : Facts) : Value → DV → Prop
  | leaf {v : Value} {d : DV} (h : RI F v d) : RP F v d
  | agg {cs : Array Value} {ds : List DV} (hn : cs.size = ds.length) (h : ∀ (j : Nat) x d, cs[j]? = some x → ds[j]? = some d → RI F x d) : RP F (.agg cs) (.agg ds)
  | tup {vs : Array Value} {ds : List DV} (hn : vs.size = ds.length) (h : ∀ (j : Nat) x d, vs[j]? = some x → ds[j]? = some d → RP F x d) : RP F (.tuple vs) (.tup ds)
theorem RP.mono {F F' : Facts} (hs : F.sub F') {v : Value} {d : DV} (h : RP F v d) : RP F' v d := by
  induction h with
  | leaf h => exact .leaf (h.mono hs)
  | agg hn h => exact .agg hn fun j x d a b => (h j x d a b).mono hs
  | tup hn _ ih => exact .tup hn ih
theorem RP.rv {G : Gh} {v : Value} {d : DV} (h : RP G.F v d) : RV G v d := by
  induction h with
  | leaf h => exact .leaf (.imm h)
  | agg hn h => exact .agg ⟨by simpa using hn, fun j x d a b => .imm (h j x d (by simpa using a) b)⟩
  | tup hn _ ih => exact .tup hn ih
def pureD : DV → Bool
  | .agg cs => cs.all pure0
  | .tup _ => false
  | d => pure0 d
theorem RV.rp {G : Gh} {v : Value} {d : DV} (h : RV G v d) (hp : pureD d = true) : RP G.F v d := by
  cases h with
  | leaf h =>
    refine .leaf (h.pure ?_)
    cases h with
    | imm h => cases h <;> rfl
    | own => simp [pureD, pure0] at hp
    | ref => simp [pureD, pure0] at hp
    | mref => simp [pureD, pure0] at hp
    | clo => simp [pureD, pure0] at hp
  | agg h =>
    simp only [pureD, List.all_eq_true] at hp
    exact .agg (by simpa using h.1) fun j x d a b => (h.2 j x d (by simpa using a) b).pure (hp d (List.mem_of_getElem? b))
  | tup => simp [pureD] at hp
  | junk => simp [pureD, pure0] at hp
end Go.Proofs.YtdbaklnjemcfgaaGreatDoor.D
