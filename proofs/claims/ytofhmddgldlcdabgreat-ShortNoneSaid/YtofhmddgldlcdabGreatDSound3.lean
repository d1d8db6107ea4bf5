/- What an operation that only yields a value does in the model: slices, fields, elements, structs. Conditions: none. -/
import Derived.Test.YtofhmddgldlcdabGreatDSound2
namespace Go.Proofs.YtofhmddgldlcdabGreat.D
open Go.RowKit Go.Proofs.YtofhmddgldlcdabGreat.Mem
set_option linter.unusedVariables false
set_option linter.unusedSimpArgs false

section
variable {P : Program} {G : Gh} {w : World}

theorem bound_sound (k : IntKind) (i : Int) (y : Nat) (code : BoundsCode) (h0 : 0 ≤ i) (h1 : i ≤ y) : (Instr.sliceBound (.int k i) y code).run P w = .ok i.toNat w := run_sliceBound w k i y code h0 h1

/-- Where a slice begins and ends. -/
theorem bounds_sound (isS : Bool) (len cap : Nat) (lo hi : Option Value) (l h : Int) (hlo : (lo = none ∧ l = 0) ∨ ∃ k, lo = some (.int k l)) (hhi : (hi = none ∧ h = len) ∨ ∃ k, hi = some (.int k h))
    (h0 : 0 ≤ l) (h1 : l ≤ h) (h2 : h ≤ cap) (hlen : len ≤ cap) : (Instr.sliceBounds isS len cap lo hi none).run P w = .ok (l.toNat, h.toNat, cap) w := by
  unfold Instr.sliceBounds
  have hh : (0 : Int) ≤ h := by omega
  have e : ((h.toNat : Nat) : Int) = h := Int.toNat_of_nonneg hh
  rcases hlo with ⟨rfl, rfl⟩ | ⟨k, rfl⟩ <;> rcases hhi with ⟨rfl, rfl⟩ | ⟨k', rfl⟩
  · simp
  · simp only [Sem.run_bind, Sem.run_pure, Result.andThen_ok, bound_sound (P := P) (w := w) k' h cap _ hh h2]
    rfl
  · simp only [Sem.run_bind, Sem.run_pure, Result.andThen_ok, Option.isSome_none]
    rw [bound_sound (P := P) (w := w) k l len _ h0 (by omega)]
    simp
  · simp only [Sem.run_bind, Sem.run_pure, Result.andThen_ok, bound_sound (P := P) (w := w) k' h cap _ hh h2, Option.isSome_none]
    rw [bound_sound (P := P) (w := w) k l h.toNat _ h0 (by omega)]
    simp

theorem RI.sub {F : Facts} {A : Option Addr} {c n : Nat} {rows : List (List DV)} (h : RI F (.slice A rows.length c) (.sl rows)) (l hh : Nat) (h1 : l ≤ hh) (h2 : hh ≤ rows.length) (hn : ∀ r ∈ rows, r.length = n) (hcc : rows = [] ∨ rows.length ≤ c) (c' : Nat) (hc' : c' = c - l) :
    RI F (.slice (if c = l then A else A.map (·.add (l * n))) (hh - l) c') (.sl ((rows.take hh).drop l)) := by
  by_cases he : hh = l
  · subst he
    have : (rows.take hh).drop hh = [] := by rw [List.drop_eq_nil_iff, List.length_take]; omega
    rw [this, Nat.sub_self]
    exact .sl0 _ _
  · have hlt : l < hh := by omega
    have hc : rows.length ≤ c := by rcases hcc with h | h; (subst h; simp at h2; omega); exact h
    have hr : rows ≠ [] := by intro h; subst h; simp at h2; omega
    generalize hL : rows.length = L at h
    cases h with
    | sl0 => exact absurd rfl hr
    | sl b off c sz rows x h0 hm _ hsz hF hR =>
      obtain ⟨r, rs, rfl⟩ := List.exists_cons_of_ne_nil hr
      have hsn : sz = n := (hsz r (by simp)).symm.trans (hn r (by simp))
      subst hsn
      rw [if_neg (by omega)]
      simp only [Option.map_some, add_lit]
      have hlen : ((List.take hh (r :: rs)).drop l).length = hh - l := by rw [List.length_drop, List.length_take]; omega
      rw [← hlen]
      have key : ∀ (i : Nat) q, (List.drop l (List.take hh (r :: rs)))[i]? = some q → (r :: rs)[l + i]? = some q := by
        intro i q hi
        rw [List.getElem?_drop, List.getElem?_take] at hi
        split at hi
        · exact hi
        · cases hi
      refine .sl b (off + l * sz) c' sz _ (fun i j => x (l + i) j) (by intro h; rw [h] at hlen; simp at hlen; omega) (by rw [hlen]; omega) (by rw [hlen, hc']; omega)
        (fun q hq => hsz q (List.mem_of_mem_take (List.mem_of_mem_drop hq))) (fun i q hi j d hj => ?_) (fun i q hi j d hj => hR _ _ (key i q hi) j d hj)
      have := hF _ _ (key i q hi) j d hj
      rw [Nat.add_mul, ← Nat.add_assoc] at this
      exact this

theorem sliceD_sound {t : TypeId} {vx : Value} {dx : DV} {lo hi : Option Value} {dlo dhi : Option DV} {c : Prop} {d : DV} (hx : RV G vx dx) (hlo : ∀ x, lo = some x → ∃ y, dlo = some y ∧ RV G x y) (hlo' : lo = none → dlo = none)
    (hhi : ∀ x, hi = some x → ∃ y, dhi = some y ∧ RV G x y) (hhi' : hi = none → dhi = none) (h : sliceD P t dx dlo dhi = .val c d) (hc : c) :
    ∃ v, (Instr.sliceAt t vx lo hi none).run P w = .ok v w ∧ RV G v d := by
  have LO : ∀ l, loI dlo = some l → (lo = none ∧ l = 0) ∨ ∃ k, lo = some (.int k l) := by
    intro l hl
    cases lo with
    | none => rw [hlo' rfl] at hl; simp [loI] at hl; exact .inl ⟨rfl, hl.symm⟩
    | some x =>
      obtain ⟨y, rfl, hy⟩ := hlo x rfl
      obtain ⟨k, rfl⟩ := hy.int hl
      exact .inr ⟨k, rfl⟩
  have HI : ∀ n h, hiI n dhi = some h → (hi = none ∧ h = n) ∨ ∃ k, hi = some (.int k h) := by
    intro n hh hl
    cases hi with
    | none => rw [hhi' rfl] at hl; simp [hiI] at hl; exact .inl ⟨rfl, hl.symm⟩
    | some x =>
      obtain ⟨y, rfl, hy⟩ := hhi x rfl
      obtain ⟨k, rfl⟩ := hy.int hl
      exact .inr ⟨k, rfl⟩
  unfold sliceD at h
  split at h
  · rename_i hu
    split at h
    · rename_i s
      cases e1 : loI dlo with
      | none => rw [e1] at h; simp [sliceS] at h
      | some l =>
      cases e2 : hiI (bs s).length dhi with
      | none => rw [e1, e2] at h; simp [sliceS] at h
      | some hh =>
      rw [e1, e2] at h
      simp only [sliceS] at h
      injection h with h1 h2; subst h1 h2
      obtain ⟨c1, c2, c3⟩ := hc
      have hl := LO l e1
      have hhh := HI _ hh e2
      have hbs : (bs s).length = s.size := by simp [bs]
      rw [hx.raw]
      refine ⟨_, ?_, raw_rv _ rfl⟩
      unfold Instr.sliceAt
      simp only [Sem.run_bind, run_under hu, Result.andThen_ok]
      unfold Instr.slice
      simp only [Sem.run_bind, run_under hu, Result.andThen_ok, Option.isSome_none, Bool.false_eq_true, if_false, Sem.run_pure]
      rw [bounds_sound (P := P) (w := w) false s.size s.size lo hi l hh hl (by rw [← hbs]; exact hhh) c1 c2 (by rw [← hbs]; exact c3) (Nat.le_refl _)]
      simp only [Result.andThen_ok, Sem.run_pure, Result.ok.injEq, and_true, str, Value.string.injEq]
      apply bs_ext
      simp only [bs]
      simp [ByteArray.data_extract, List.extract_eq_take_drop]
      rw [List.drop_take]
    · cases h
  · rename_i e hu
    split at h
    · rename_i rows n bb g e0 e3
      cases e1 : loI dlo with
      | none => rw [e1] at h; simp [sliceR] at h
      | some l =>
      cases e2 : hiI rows.length dhi with
      | none => rw [e1, e2] at h; simp [sliceR] at h
      | some hh =>
      rw [e1, e2] at h
      simp only [sliceR] at h
      injection h with h1 h2; subst h1 h2
      obtain ⟨c1, c2, c3, c4⟩ := hc
      have hl := LO l e1
      have hri := hx.rows e0
      obtain ⟨A, cc, rfl, hmx, hcc⟩ := hri.slice
      have hhh := HI _ hh e2
      have hB : (Instr.sliceBounds true rows.length cc lo hi none).run P w = .ok (l.toNat, hh.toNat, cc) w := by
        rcases hcc with h0 | h0
        · subst h0
          simp at c3
          have : l = 0 := by omega
          have : hh = 0 := by omega
          subst l hh
          exact bounds_sound true 0 cc lo hi 0 0 hl (by simpa using hhh) (by omega) (by omega) (by omega) (by omega)
        · exact bounds_sound true rows.length cc lo hi l hh hl hhh c1 c2 (by omega) h0
      refine ⟨.slice (if cc = l.toNat then A else A.map (·.add (l.toNat * n))) (hh.toNat - l.toNat) (cc - l.toNat), ?_, .leaf (.imm (hri.sub l.toNat hh.toNat (by omega) (by omega) c4 hcc _ rfl))⟩
      unfold Instr.sliceAt
      simp only [Sem.run_bind, run_under hu, Result.andThen_ok]
      unfold Instr.slice
      simp only [Sem.run_bind, run_under hu, Result.andThen_ok, hB, run_size e3, Sem.run_pure]
    · cases h
  · cases h

theorem fieldD_sound {t f : Nat} {vx : Value} {dx : DV} {c : Prop} {d : DV} (hx : RV G vx dx) (h : fieldD P t dx f = .val c d) (hc : c) :
    ∃ v, (Instr.field t vx f).run P w = .ok v w ∧ RV G v d := by
  unfold fieldD at h
  split at h
  · rename_i fs hu
    split at h
    · rename_i fd hf
      split at h
      · rename_i cells n bb g ht
        injection h with h1 h2; subst h1 h2
        cases hx with
        | leaf h => cases h with
          | imm h => cases h
        | agg hcs =>
          obtain ⟨v, hv, hr⟩ := part_sound (P := P) (w := w) ht _ _ hcs fd.offset hc.1 hc.2
          exact ⟨v, by simp only [Instr.field, Sem.run_bind, run_under hu, Result.andThen_ok, hf, asAgg, Sem.run_pure, hv], hr⟩
      · cases h
    · cases h
  · cases h

theorem sureAddr_run (a : Addr) : (Instr.sureAddr (.pointer (some a))).run P w = .ok a w := rfl

theorem fieldAddrD_sound {t f : Nat} {vx : Value} {dx : DV} {c : Prop} {d : DV} (hx : RV G vx dx) (h : fieldAddrD P t dx f = .val c d) (hc : c) :
    ∃ v, (Instr.fieldAt t vx f).run P w = .ok v w ∧ RV G v d := by
  unfold fieldAddrD at h
  split at h
  · rename_i fs hu
    split at h
    · rename_i fd hf
      split at h
      · rename_i cells n bb g ht
        injection h with h1 h2; subst h1 h2
        have hl := hx.leaf' rfl
        cases hl with
        | imm h => cases h with
          | ptr b off cells x hF hR =>
            refine ⟨.pointer (some ⟨b, off + fd.offset, none⟩), ?_, .leaf (.imm (.ptr b (off + fd.offset) _ (fun j => x (fd.offset + j)) (fun j d hj => ?_) (fun j d hj => hR _ _ (by simpa using hj))))⟩
            · simp only [Instr.fieldAt, Sem.run_bind, run_under hu, Result.andThen_ok, hf, sureAddr_run, fieldPlace, run_size ht, hc, if_false, Sem.run_pure, add_lit]
            · have := hF _ _ (by simpa using hj : cells[fd.offset + j]? = some d)
              rwa [← Nat.add_assoc] at this
      · rename_i k off n bb g ht
        injection h with h1 h2; subst h1 h2
        have hl := hx.leaf' rfl
        cases hl with
        | imm h => cases h
        | ref off hb =>
          rename_i b
          refine ⟨.pointer (some ⟨b, off + fd.offset, none⟩), ?_, .leaf (.ref _ hb)⟩
          simp only [Instr.fieldAt, Sem.run_bind, run_under hu, Result.andThen_ok, hf, sureAddr_run, fieldPlace, run_size ht, hc, if_false, Sem.run_pure, add_lit]
      · cases h
    · cases h
  · cases h

theorem asIntOf_run (k : IntKind) (n : Int) : (asIntOf (.int k n)).run P w = .ok (k, n) w := rfl

theorem indexAddrD_sound {t : Nat} {vx vi : Value} {dx di : DV} {c : Prop} {d : DV} (hx : RV G vx dx) (hi : RV G vi di) (h : indexAddrD P t dx di = .val c d) (hc : c) :
    ∃ v, (Instr.indexAt t vx vi).run P w = .ok v w ∧ RV G v d := by
  unfold indexAddrD at h
  split at h
  · rename_i i e hii hu
    obtain ⟨k, rfl⟩ := hi.int hii
    split at h
    · rename_i rows n bb g hr ht
      injection h with h1 h2; subst h1 h2
      obtain ⟨c1, c2, c3⟩ := hc
      have hri := hx.rows hr
      cases hri with
      | sl0 A c => simp at c2; omega
      | sl b off c sz rows x h0 hm hcc hsz hF hR =>
        have hlt : i.toNat < rows.length := by omega
        have hrow : rows[i.toNat]? = some (rows.getD i.toNat []) := by simp [hlt]
        have hs : sz = n := (hsz _ (List.mem_of_getElem? hrow)).symm.trans c3
        subst hs
        refine ⟨.pointer (some ⟨b, off + i.toNat * sz, none⟩), ?_, .leaf (.imm (.ptr b (off + i.toNat * sz) _ (x i.toNat) (fun j d hj => hF _ _ hrow j d hj) (fun j d hj => hR _ _ hrow j d hj)))⟩
        simp only [Instr.indexAt, Sem.run_bind, asIntOf_run, Result.andThen_ok, run_under hu, Sem.run_pure]
        rw [if_pos ⟨c1, c2⟩]
        simp only [Sem.run_bind, run_size ht, Result.andThen_ok, Sem.run_pure, add_lit]
    · cases h
  · rename_i i m e hii hu
    obtain ⟨k, rfl⟩ := hi.int hii
    split at h
    · rename_i cells n bb g ht
      injection h with h1 h2; subst h1 h2
      have hl := hx.leaf' rfl
      cases hl with
      | imm h => cases h with
        | ptr b off cells x hF hR =>
          refine ⟨.pointer (some ⟨b, off + i.toNat * n, none⟩), ?_, .leaf (.imm (.ptr b (off + i.toNat * n) _ (fun j => x (i.toNat * n + j)) (fun j d hj => ?_) (fun j d hj => hR _ _ (by simpa using hj))))⟩
          · simp only [Instr.indexAt, Sem.run_bind, asIntOf_run, Result.andThen_ok, run_under hu, Sem.run_pure, sureAddr_run]
            rw [if_pos hc]
            simp only [Sem.run_bind, run_size ht, Result.andThen_ok, Sem.run_pure, add_lit]
          · have := hF _ _ (by simpa using hj : cells[i.toNat * n + j]? = some d)
            rwa [← Nat.add_assoc] at this
    · rename_i kk off n bb g ht
      injection h with h1 h2; subst h1 h2
      have hl := hx.leaf' rfl
      cases hl with
      | imm h => cases h
      | ref off hb =>
        rename_i b
        refine ⟨.pointer (some ⟨b, off + i.toNat * n, none⟩), ?_, .leaf (.ref _ hb)⟩
        simp only [Instr.indexAt, Sem.run_bind, asIntOf_run, Result.andThen_ok, run_under hu, Sem.run_pure, sureAddr_run]
        rw [if_pos hc]
        simp only [Sem.run_bind, run_size ht, Result.andThen_ok, Sem.run_pure, add_lit]
    · cases h
  · cases h

theorem indexD_sound {t : Nat} {vx vi : Value} {dx di : DV} {c : Prop} {d : DV} (hx : RV G vx dx) (hi : RV G vi di) (h : indexD P t dx di = .val c d) (hc : c) :
    ∃ v, (Instr.index t vx vi).run P w = .ok v w ∧ RV G v d := by
  unfold indexD at h
  split at h
  · rename_i i s hii hu
    obtain ⟨k, rfl⟩ := hi.int hii
    injection h with h1 h2; subst h1 h2
    rw [hx.raw]
    have hlt : i.toNat < s.size := by have : (bs s).length = s.size := by simp [bs]
                                      omega
    refine ⟨_, ?_, raw_rv _ rfl⟩
    simp only [Instr.index, Sem.run_bind, asIntOf_run, Result.andThen_ok, run_under hu]
    rw [if_pos hc.1]
    have : s[i.toNat]? = some ((bs s).getD i.toNat 0) := by
      rw [getElem?_pos s i.toNat hlt]
      have h2 : i.toNat < (bs s).length := by simpa [bs] using hlt
      rw [List.getD_eq_getElem?_getD, List.getElem?_eq_getElem h2]
      rfl
    rw [this]
    rfl
  · rename_i i m e cells hii hu
    obtain ⟨k, rfl⟩ := hi.int hii
    split at h
    · rename_i n bb g ht
      injection h with h1 h2; subst h1 h2
      obtain ⟨c1, c2, c3, c4⟩ := hc
      cases hx with
      | leaf h => cases h with
        | imm h => cases h
      | agg hcs =>
        obtain ⟨v, hv, hr⟩ := part_sound (P := P) (w := w) ht _ _ hcs (i.toNat * n) c3 c4
        refine ⟨v, ?_, hr⟩
        simp only [Instr.index, Sem.run_bind, asIntOf_run, Result.andThen_ok, run_under hu]
        rw [if_pos ⟨c1, c2⟩]
        simp only [Sem.run_bind, run_size ht, Result.andThen_ok, hv]
    · cases h
  · cases h

theorem loadD_sound {t : Nat} {vx : Value} {dx : DV} {c : Prop} {d : DV} (hF : G.F.ok w) (hx : RV G vx dx) (h : loadD P t dx = .val c d) (hc : c) :
    ∃ v, (Instr.loadAt t vx).run P w = .ok v w ∧ RV G v d := by
  unfold loadD at h
  split at h
  · rename_i cells n bb g ht
    injection h with h1 h2; subst h1 h2
    have hl := hx.leaf' rfl
    cases hl with
    | imm h =>
      obtain ⟨b, o, rfl, hcells⟩ := h.ptr_cells hF
      obtain ⟨cs, hn, hw, hR⟩ := hcells n hc.1
      refine ⟨_, ?_, mk_of (G := G) (cs := cs) (ds := cells.take n) ⟨by simp [hn]; omega, fun j x d a b => .imm (hR j x d a (by rw [List.getElem?_take] at b; split at b <;> simp_all))⟩ hn hc.2⟩
      simp only [Instr.loadAt, Sem.run_bind, sureAddr_run, Result.andThen_ok]
      exact run_loadVar_of ht b o cs hn hc.2 w hw
  · split at h <;> cases h
  · cases h
end
end Go.Proofs.YtofhmddgldlcdabGreat.D
