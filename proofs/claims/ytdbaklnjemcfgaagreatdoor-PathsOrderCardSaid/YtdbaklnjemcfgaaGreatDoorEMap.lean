/- Maps of the call's own: lookup, update, entry by entry; keys of a plain type, or structs of plain fields. Conditions: none. -/
import Derived.Test.YtdbaklnjemcfgaaGreatDoorEApp
import Derived.MapKept
import Derived.Carry
import Derived.ChangeKeysEq
namespace Go.Proofs.YtdbaklnjemcfgaaGreatDoor.E
open Go.RowKit Go.Proofs.YtdbaklnjemcfgaaGreatDoor.Mem Go.Proofs.YtdbaklnjemcfgaaGreatDoor.D
set_option linter.unusedVariables false
set_option linter.unusedSimpArgs false

section
variable {P : Program} {G G' : Gg} {w w' w0 : World} {T R : Nat → Prop} {h : Hp}

theorem key0_cases {d : TypeDesc} {x : EV} (h : key0 d x = true) : (∃ k k' n, d = .int k ∧ x = er (.int k' n)) ∨ (d = .string ∧ ∃ s, x = er (.string s)) ∨ (d = .bool ∧ ∃ b, x = er (.bool b)) := by
  unfold key0 at h
  split at h
  · exact .inl ⟨_, _, _, rfl, rfl⟩
  · exact .inr (.inl ⟨rfl, _, rfl⟩)
  · exact .inr (.inr ⟨rfl, _, rfl⟩)
  · cases h
theorem eq0_cases {x y : EV} {b : Bool} (h : eq0 x y = some b) : (∃ k a c, x = er (.int k a) ∧ y = er (.int k c) ∧ b = (a == c)) ∨ (∃ a c, x = er (.string a) ∧ y = er (.string c) ∧ b = (bs a == bs c)) ∨ (∃ a c, x = er (.bool a) ∧ y = er (.bool c) ∧ b = (a == c)) := by
  unfold eq0 at h
  split at h
  · split at h
    · rename_i hk; subst hk; injection h with h; exact .inl ⟨_, _, _, rfl, rfl, h.symm⟩
    · cases h
  · injection h with h; exact .inr (.inl ⟨_, _, rfl, rfl, h.symm⟩)
  · injection h with h; exact .inr (.inr ⟨_, _, rfl, rfl, h.symm⟩)
  · cases h
theorem eq0_bits {x y : EV} {vx vy : Value} (hx : VL G vx x) (hy : VL G vy y) (h : eq0 x y = some true) (n : Nat) : Instr.sameBits n vy vx = true := by
  rcases eq0_cases h with ⟨k, a, c, rfl, rfl, e⟩ | ⟨a, c, rfl, rfl, e⟩ | ⟨a, c, rfl, rfl, e⟩
  · have := hx.raw; have := hy.raw; subst_vars
    have : a = c := by simpa using e.symm
    subst this
    cases n <;> simp [Instr.sameBits]
  · have := hx.raw; have := hy.raw; subst_vars
    have : a = c := bs_ext (by simpa using e.symm)
    subst this
    cases n <;> simp [Instr.sameBits, beq_toListBytes]
  · have := hx.raw; have := hy.raw; subst_vars
    have : a = c := by simpa using e.symm
    subst this
    cases n <;> simp [Instr.sameBits]
theorem eqL_bits (n : Nat) : ∀ (xs ys : List EV) (cx cy : List Value), VC G cx xs → VC G cy ys → eqL xs ys = some true → cy.length = cx.length ∧ (cy.zip cx).all (fun (x, y) => Instr.sameBits n x y) = true := by
  intro xs
  induction xs with
  | nil =>
    intro ys cx cy hx hy h
    cases ys with
    | nil =>
      have e1 : cx = [] := List.eq_nil_of_length_eq_zero hx.1
      have e2 : cy = [] := List.eq_nil_of_length_eq_zero hy.1
      subst e1 e2
      exact ⟨rfl, rfl⟩
    | cons => simp [eqL] at h
  | cons x xs ih =>
    intro ys cx cy hx hy h
    cases ys with
    | nil => simp [eqL] at h
    | cons y ys =>
      simp only [eqL] at h
      split at h
      · rename_i b c hb hc
        injection h with h
        simp only [Bool.and_eq_true] at h
        obtain ⟨rfl, rfl⟩ := h
        cases cx with
        | nil => simp [VC] at hx
        | cons u cx =>
          cases cy with
          | nil => simp [VC] at hy
          | cons v cy =>
            obtain ⟨h1, h2⟩ := ih ys cx cy ⟨by simpa using hx.1, fun j a d p q => hx.2 (j + 1) a d (by simpa using p) (by simpa using q)⟩ ⟨by simpa using hy.1, fun j a d p q => hy.2 (j + 1) a d (by simpa using p) (by simpa using q)⟩ hc
            refine ⟨by simp [h1], ?_⟩
            simp only [List.zip_cons_cons, List.all_cons, Bool.and_eq_true]
            exact ⟨eq0_bits (hx.2 0 u x rfl rfl) (hy.2 0 v y rfl rfl) hb n, h2⟩
      · cases h
theorem eqKE_bits {x y : EV} {vx vy : Value} (hx : VV G vx x) (hy : VV G vy y) (h : eqKE x y = some true) (n : Nat) : Instr.sameBits (n + 1) vy vx = true := by
  unfold eqKE at h
  split at h
  · rename_i xs ys
    cases hx with
    | leaf h => cases h
    | agg hx =>
      cases hy with
      | leaf h => cases h
      | agg hy =>
        rename_i cx cy
        obtain ⟨h1, h2⟩ := eqL_bits n xs ys _ _ hx hy h
        simp only [Instr.sameBits, Bool.and_eq_true, beq_iff_eq]
        exact ⟨by simpa using h1, h2⟩
  · cases h
  · cases h
  · have : leafE x = true ∧ leafE y = true := by
      rcases eq0_cases h with ⟨k, a, c, rfl, rfl, e⟩ | ⟨a, c, rfl, rfl, e⟩ | ⟨a, c, rfl, rfl, e⟩ <;> exact ⟨rfl, rfl⟩
    exact eq0_bits (hx.leaf' this.1) (hy.leaf' this.2) h (n + 1)

theorem part_one {t b : Nat} (ht : tI P t = some (1, b, false)) {cs : Array Value} {off : Nat} {v : Value} (hv : cs[off]? = some v) : (part t cs off).run P w = .ok v w := by
  unfold part
  simp only [Sem.run_bind, run_agg ht, Result.andThen_ok, Bool.false_eq_true, if_false, hv, Sem.run_pure]
theorem equal0_run {t : TypeId} {d : TypeDesc} {x y : EV} {vx vy : Value} (hd : P.underlying t = some d) (hk : key0 d x = true) (hx : VL G vx x) (hy : VL G vy y) {b : Bool} (h : eq0 x y = some b) (n : Nat) : (Op.equalIn (n + 1) t vx vy).run P w = .ok b w := by
  rcases eq0_cases h with ⟨k, a, c, rfl, rfl, rfl⟩ | ⟨a, c, rfl, rfl, rfl⟩ | ⟨a, c, rfl, rfl, rfl⟩
  · have := hx.raw; have := hy.raw; subst_vars
    cases d <;> simp [key0, er] at hk
    exact run_equalIn_int w n t k _ a c hd
  · have := hx.raw; have := hy.raw; subst_vars
    cases d <;> simp [key0, er] at hk
    rw [run_equalIn_string w n t a c hd, toList_bs, toList_bs]
  · have := hx.raw; have := hy.raw; subst_vars
    cases d <;> simp [key0, er] at hk
    exact run_equalIn_bool' w n t a c hd

theorem plainFields_cons {i : Nat} {f : Field} {fs : List Field} {x : EV} {xs : List EV} (h : plainFields P i (f :: fs) (x :: xs) = true) : f.offset = i ∧ f.name ≠ "_" ∧ (∃ b, tI P f.type = some (1, b, false)) ∧ (∃ d, P.underlying f.type = some d ∧ key0 d x = true) ∧ plainFields P (i + 1) fs xs = true := by
  simp only [plainFields, Bool.and_eq_true, beq_iff_eq, bne_iff_ne, ne_eq] at h
  obtain ⟨⟨⟨⟨h1, h2⟩, h3⟩, h4⟩, h5⟩ := h
  refine ⟨h1, h2, ⟨_, h3⟩, ?_, h5⟩
  split at h4
  · rename_i d hd; exact ⟨d, hd, h4⟩
  · cases h4

theorem eqFields_runE (n : Nat) (cx cy : Array Value) : ∀ (fs : List Field) (i : Nat) (xs ys : List EV) (b : Bool), plainFields P i fs xs = true → (∀ j x, xs[j]? = some x → ∃ v, cx[i + j]? = some v ∧ VL G v x) → (∀ j x, ys[j]? = some x → ∃ v, cy[i + j]? = some v ∧ VL G v x) →
    eqL xs ys = some b → (Op.eqFields (n + 1) cx cy fs).run P w = .ok b w := by
  intro fs
  induction fs with
  | nil =>
    intro i xs ys b hp hx hy he
    cases xs with
    | nil => cases ys with
      | nil => simp [eqL] at he; subst he; rfl
      | cons => simp [eqL] at he
    | cons => simp [plainFields] at hp
  | cons f fs ih =>
    intro i xs ys b hp hx hy he
    cases xs with
    | nil => simp [plainFields] at hp
    | cons x xs =>
      cases ys with
      | nil => simp [eqL] at he
      | cons y ys =>
        obtain ⟨q1, q2, ⟨bb, q3⟩, ⟨d, q4, q5⟩, q6⟩ := plainFields_cons hp
        simp only [eqL] at he
        split at he
        · rename_i b1 b2 hb1 hb2
          injection he with he
          subst he
          obtain ⟨vx, hvx, hlx⟩ := hx 0 x rfl
          obtain ⟨vy, hvy, hly⟩ := hy 0 y rfl
          have hrest := ih (i + 1) xs ys b2 q6 (fun j z hz => by have := hx (j + 1) z (by simpa using hz); rwa [show i + 1 + j = i + (j + 1) by omega]) (fun j z hz => by have := hy (j + 1) z (by simpa using hz); rwa [show i + 1 + j = i + (j + 1) by omega]) hb2
          simp only [Op.eqFields, q2, ne_eq, not_false_eq_true, if_true, Sem.run_bind, part_one (w := w) q3 (show cx[f.offset]? = some vx by rw [q1]; exact hvx), part_one (w := w) q3 (show cy[f.offset]? = some vy by rw [q1]; exact hvy), Result.andThen_ok, equal0_run (w := w) q4 q5 hlx hly hb1 n]
          cases b1
          · simp
          · simpa using hrest
        · cases he

theorem cellsOf_of {e n b : Nat} {g : Bool} (ht : tI P e = some (n, b, g)) : P.cellsOf e = n := by
  obtain ⟨i, d, hi, h1, h2, _, _⟩ := tI_spec ht
  simp [Program.cellsOf, hi, h1]
theorem eqItems_runE (n : Nat) (cx cy : Array Value) {e b : Nat} {d : TypeDesc} (ht : tI P e = some (1, b, false)) (hd : P.underlying e = some d) : ∀ (xs ys : List EV) (i : Nat) (r : Bool), (∀ x ∈ xs, key0 d x = true) → (∀ j x, xs[j]? = some x → ∃ v, cx[i + j]? = some v ∧ VL G v x) → (∀ j x, ys[j]? = some x → ∃ v, cy[i + j]? = some v ∧ VL G v x) →
    eqL xs ys = some r → (Op.eqItems (n + 1) e 1 cx cy (List.range' i xs.length)).run P w = .ok r w := by
  intro xs
  induction xs with
  | nil =>
    intro ys i r _ _ _ he
    cases ys with
    | nil => simp [eqL] at he; subst he; rfl
    | cons => simp [eqL] at he
  | cons x xs ih =>
    intro ys i r hk hx hy he
    cases ys with
    | nil => simp [eqL] at he
    | cons y ys =>
      simp only [eqL] at he
      split at he
      · rename_i b1 b2 hb1 hb2
        injection he with he
        subst he
        obtain ⟨vx, hvx, hlx⟩ := hx 0 x rfl
        obtain ⟨vy, hvy, hly⟩ := hy 0 y rfl
        have hrest := ih ys (i + 1) b2 (fun z hz => hk z (by simp [hz])) (fun j z hz => by have := hx (j + 1) z (by simpa using hz); rwa [show i + 1 + j = i + (j + 1) by omega]) (fun j z hz => by have := hy (j + 1) z (by simpa using hz); rwa [show i + 1 + j = i + (j + 1) by omega]) hb2
        rw [List.length_cons, List.range'_succ]
        simp only [Op.eqItems, Nat.mul_one, Sem.run_bind, part_one (w := w) ht (show cx[i]? = some vx from hvx), part_one (w := w) ht (show cy[i]? = some vy from hvy), Result.andThen_ok, equal0_run (w := w) hd (hk x (by simp)) hlx hly hb1 n]
        cases b1
        · simp
        · simpa using hrest
      · cases he
theorem vc_at {cs : Array Value} {ds : List EV} (h : VC G cs.toList ds) : ∀ j x, ds[j]? = some x → ∃ v, cs[0 + j]? = some v ∧ VL G v x := by
  intro j x hx
  have hj : j < cs.size := by
    have := (List.getElem?_eq_some_iff.1 hx).1
    rw [← h.1, Array.length_toList] at this
    exact this
  refine ⟨cs[j], by rw [Nat.zero_add]; exact Array.getElem?_eq_getElem hj, h.2 j _ x (by rw [Array.getElem?_toList]; exact Array.getElem?_eq_getElem hj) hx⟩

/-- The kinds of keys. -/
theorem keyE_cases {kt : TypeId} {x : EV} (h : keyE P kt x = true) : (∃ fs xs, P.underlying kt = some (.struct fs) ∧ x = .agg xs ∧ plainFields P 0 fs.toList xs = true ∧ P.stoodInHeld kt = false) ∨
    (∃ m e xs b d, P.underlying kt = some (.array m e) ∧ x = .agg xs ∧ xs.length = m ∧ tI P e = some (1, b, false) ∧ P.underlying e = some d ∧ ∀ y ∈ xs, key0 d y = true) ∨ ∃ d, P.underlying kt = some d ∧ key0 d x = true := by
  unfold keyE at h
  split at h
  · rename_i fs xs hu
    simp only [Bool.and_eq_true, Bool.not_eq_true'] at h
    exact .inl ⟨fs, xs, hu, rfl, h.1, h.2⟩
  · rename_i m e xs hu
    simp only [Bool.and_eq_true, beq_iff_eq] at h
    obtain ⟨⟨h1, h2⟩, h3⟩ := h
    split at h3
    · rename_i d hd; exact .inr (.inl ⟨m, e, xs, _, d, hu, rfl, h1, h2, hd, fun y hy => List.all_eq_true.1 h3 y hy⟩)
    · cases h3
  · rename_i d hu _ _; exact .inr (.inr ⟨d, hu, h⟩)
  · cases h
theorem check_n {kt : TypeId} {x : EV} {v : Value} (hk : keyE P kt x = true) (hv : VV G v x) (em : Bool) (n : Nat) : (Instr.checkKey em (n + 1 + 1) kt v).run P w = .ok () w := by
  rcases keyE_cases hk with ⟨fs, xs, hu, rfl, hp, _⟩ | ⟨m, e, xs, bb, d, hu, rfl, hm, ht, hd, hall⟩ | ⟨d, hu, h0⟩
  rotate_left
  · cases hv with
    | leaf h => cases h
    | agg hc =>
      rename_i cs
      have hx := vc_at hc
      rw [Instr.checkKey]
      simp only [Sem.run_bind, run_under hu, run_size ht, Result.andThen_ok, Nat.mul_one]
      simp only [Std.Legacy.Range.forIn_eq_forIn_range', Std.Legacy.Range.size, Nat.sub_zero, Nat.add_one_sub_one, Nat.div_one]
      subst hm
      clear hk hu hc
      obtain ⟨i, hi⟩ : ∃ i, i = 0 := ⟨0, rfl⟩
      simp only [← hi] at hx ⊢
      clear hi
      induction xs generalizing i with
      | nil => rfl
      | cons x xs ih =>
        obtain ⟨vx, hvx, hlx⟩ := hx 0 x rfl
        have hrest := ih (fun y hy => hall y (by simp [hy])) (i + 1) (fun j z hz => by have := hx (j + 1) z (by simpa using hz); rwa [show i + 1 + j = i + (j + 1) by omega])
        have hck : (Instr.checkKey em (n + 1) e vx).run P w = .ok () w := by
          rcases key0_cases (hall x (by simp)) with ⟨k, k', m, rfl, rfl⟩ | ⟨rfl, s, rfl⟩ | ⟨rfl, s, rfl⟩ <;> (rw [hlx.raw]; simp [Instr.checkKey, run_under hd])
        rw [List.length_cons, List.range'_succ]
        simp only [List.forIn_cons, Sem.run_bind, run_size ht, Nat.mul_one, part_one (w := w) ht (show cs[i]? = some vx from hvx), Result.andThen_ok, hck, Sem.run_pure]
        exact hrest
  rotate_left
  · cases hv with
    | leaf h => cases h
    | agg hc =>
      rename_i cs
      have hx := vc_at hc
      rw [Instr.checkKey]
      simp only [Sem.run_bind, run_under hu, Result.andThen_ok]
      rw [← Array.forIn_toList]
      clear hk hu hc
      obtain ⟨i, hi⟩ : ∃ i, i = 0 := ⟨0, rfl⟩
      rw [← hi] at hp
      simp only [← hi] at hx
      clear hi
      generalize fs.toList = l at hp ⊢
      induction l generalizing i xs with
      | nil => rfl
      | cons f l ih =>
        cases xs with
        | nil => simp [plainFields] at hp
        | cons x xs =>
          obtain ⟨q1, q2, ⟨bb, q3⟩, ⟨d, q4, q5⟩, q6⟩ := plainFields_cons hp
          obtain ⟨vx, hvx, hlx⟩ := hx 0 x rfl
          have hrest := ih xs (i + 1) (fun j z hz => by have := hx (j + 1) z (by simpa using hz); rwa [show i + 1 + j = i + (j + 1) by omega]) q6
          have hck : (Instr.checkKey em (n + 1) f.type vx).run P w = .ok () w := by
            rcases key0_cases q5 with ⟨k, k', m, rfl, rfl⟩ | ⟨rfl, s, rfl⟩ | ⟨rfl, s, rfl⟩ <;> (rw [hlx.raw]; simp [Instr.checkKey, run_under q4])
          simp only [List.forIn_cons, Sem.run_bind, q2, ne_eq, not_false_eq_true, if_true, part_one (w := w) q3 (show cs[f.offset]? = some vx by rw [q1]; exact hvx), Result.andThen_ok, hck, Sem.run_pure]
          exact hrest
  · rcases key0_cases h0 with ⟨k, k', m, rfl, rfl⟩ | ⟨rfl, s, rfl⟩ | ⟨rfl, s, rfl⟩ <;> (rw [hv.raw]; simp [Instr.checkKey, run_under hu])

theorem check_run {kt : TypeId} {x : EV} {v : Value} (hk : keyE P kt x = true) (hv : VV G v x) (em : Bool) : (Instr.checkKey em 10000 kt v).run P w = .ok () w := check_n hk hv em 9998

/-- What a search finds. -/
def Hit (G : Gg) (key : EV) (ents : List MapEntry) (es : List (EV × EV × Nat)) (r : Option (EV × Nat)) (i : Nat) (q : Option (Nat × Value)) : Prop :=
  (r = none ∧ q = none ∧ ∀ val clk, putE key val clk es = some (es ++ [(key, val, clk)])) ∨
  ∃ j e x, ents[j]? = some e ∧ es[j]? = some x ∧ r = some (x.2.1, x.2.2) ∧ q = some (i + j, e.val) ∧ eqKE key x.1 = some true ∧ ∀ val clk, putE key val clk es = some (es.set j (key, val, x.2.2))
def Ents (G : Gg) (ents : List MapEntry) (es : List (EV × EV × Nat)) : Prop := ents.length = es.length ∧ ∀ (j : Nat) e x, ents[j]? = some e → es[j]? = some x → VV G e.key x.1 ∧ VV G e.val x.2.1 ∧ e.born = x.2.2
theorem Ents.tail {e : MapEntry} {x : EV × EV × Nat} {ents : List MapEntry} {es : List (EV × EV × Nat)} (h : Ents G (e :: ents) (x :: es)) : Ents G ents es :=
  ⟨by simpa using h.1, fun j a b p q => h.2 (j + 1) a b (by simpa using p) (by simpa using q)⟩
theorem Hit.cons {key : EV} {ents : List MapEntry} {es : List (EV × EV × Nat)} {r : Option (EV × Nat)} {i : Nat} {q : Option (Nat × Value)} (h : Hit G key ents es r (i + 1) q) (e : MapEntry) (k v : EV) (n : Nat) (hq : eqKE key k = some false) : Hit G key (e :: ents) ((k, v, n) :: es) r i q := by
  rcases h with ⟨rfl, rfl, h⟩ | ⟨j, e', x, h1, h2, rfl, rfl, h5, h6⟩
  · exact .inl ⟨rfl, rfl, fun val clk => by simp [putE, hq, h val clk]⟩
  · exact .inr ⟨j + 1, e', x, by simpa using h1, by simpa using h2, rfl, by congr 2; omega, h5, fun val clk => by simp [putE, hq, h6 val clk]⟩

theorem find_now {kd : TypeDesc} {key : EV} {v : Value} (hk : key0 kd key = true) (hv : VL G v key) : ∀ (ents : List MapEntry) (es : List (EV × EV × Nat)) (i : Nat) (r : Option (EV × Nat)), Ents G ents es → findE key es = some r →
    ∃ q, Instr.findNow kd v ents i = some q ∧ Hit G key ents es r i q := by
  intro ents
  induction ents with
  | nil =>
    intro es i r hE hf
    obtain rfl : es = [] := List.eq_nil_of_length_eq_zero hE.1.symm
    simp [findE] at hf
    subst hf
    exact ⟨none, rfl, .inl ⟨rfl, rfl, fun _ _ => rfl⟩⟩
  | cons e ents ih =>
    intro es i r hE hf
    cases es with
    | nil => simp [Ents] at hE
    | cons x es =>
      obtain ⟨k, vl, n⟩ := x
      obtain ⟨hek, hev, heb⟩ := hE.2 0 e _ rfl rfl
      have same : ∀ b, eqKE key k = some b → Instr.sameNow kd v e.key = some b := by
        intro b hb
        have hb0 : eq0 key k = some b := by
          rcases key0_cases hk with ⟨_, _, _, _, rfl⟩ | ⟨_, _, rfl⟩ | ⟨_, _, rfl⟩ <;> (cases k <;> first | exact hb | cases hb)
        rcases eq0_cases hb0 with ⟨kk, a, c, rfl, rfl, rfl⟩ | ⟨a, c, rfl, rfl, rfl⟩ | ⟨a, c, rfl, rfl, rfl⟩
        · rw [hv.raw, hek.raw]; cases kd <;> simp [key0, er] at hk; simp [Instr.sameNow]
        · rw [hv.raw, hek.raw]; cases kd <;> simp [key0, er] at hk; simp [Instr.sameNow, beq_toListBytes, toList_bs]
        · rw [hv.raw, hek.raw]; cases kd <;> simp [key0, er] at hk; simp [Instr.sameNow]
      simp only [findE] at hf
      split at hf
      · rename_i hq
        injection hf with hf
        subst hf
        exact ⟨some (i, e.val), by simp only [Instr.findNow, same _ hq], .inr ⟨0, e, _, rfl, rfl, rfl, rfl, hq, fun val clk => by simp [putE, hq]⟩⟩
      · rename_i hq
        obtain ⟨q, h1, h2⟩ := ih es (i + 1) r hE.tail hf
        exact ⟨q, by simp only [Instr.findNow, same _ hq]; exact h1, h2.cons e k vl n hq⟩
      · cases hf
theorem find_ask {kt : TypeId} {xs : List EV} {cs : Array Value} (same : ∀ (k : EV) (vk : Value) (b : Bool), VV G vk k → eqKE (.agg xs) k = some b → (Op.equal kt (.agg cs) vk).run P w = .ok b w) : ∀ (ents : List MapEntry) (es : List (EV × EV × Nat)) (i : Nat) (r : Option (EV × Nat)), Ents G ents es → findE (.agg xs) es = some r →
    ∃ q, (Instr.findAsking kt (.agg cs) ents i).run P w = .ok q w ∧ Hit G (.agg xs) ents es r i q := by
  intro ents
  induction ents with
  | nil =>
    intro es i r hE hf
    obtain rfl : es = [] := List.eq_nil_of_length_eq_zero hE.1.symm
    simp [findE] at hf
    subst hf
    exact ⟨none, rfl, .inl ⟨rfl, rfl, fun _ _ => rfl⟩⟩
  | cons e ents ih =>
    intro es i r hE hf
    cases es with
    | nil => simp [Ents] at hE
    | cons x es =>
      obtain ⟨k, vl, n⟩ := x
      obtain ⟨hek, hev, heb⟩ := hE.2 0 e _ rfl rfl
      simp only [findE] at hf
      split at hf
      · rename_i hq
        injection hf with hf
        subst hf
        exact ⟨some (i, e.val), by simp only [Instr.findAsking, Sem.run_bind, same k e.key _ hek hq, Result.andThen_ok, if_true, Sem.run_pure], .inr ⟨0, e, _, rfl, rfl, rfl, rfl, hq, fun val clk => by simp [putE, hq]⟩⟩
      · rename_i hq
        obtain ⟨q, h1, h2⟩ := ih es (i + 1) r hE.tail hf
        exact ⟨q, by simp only [Instr.findAsking, Sem.run_bind, same k e.key _ hek hq, Result.andThen_ok, Bool.false_eq_true, if_false]; exact h1, h2.cons e k vl n hq⟩
      · cases hf
theorem find_runE {kt : TypeId} {key : EV} {v : Value} (hk : keyE P kt key = true) (hv : VV G v key) {ents : List MapEntry} {es : List (EV × EV × Nat)} {r : Option (EV × Nat)} (hE : Ents G ents es) (hf : findE key es = some r) :
    ∃ q, (Instr.findKey kt v ents).run P w = .ok q w ∧ Hit G key ents es r 0 q := by
  have asked : ∀ (td : TypeDesc) (xs : List EV) (cs : Array Value), P.underlying kt = some td → (∀ e l, Instr.findNow td (.agg cs) (e :: l) 0 = none) → key = .agg xs → v = .agg cs →
      (∀ (k : EV) (vk : Value) (b : Bool), VV G vk k → eqKE (.agg xs) k = some b → (Op.equal kt (.agg cs) vk).run P w = .ok b w) → ∃ q, (Instr.findKey kt v ents).run P w = .ok q w ∧ Hit G key ents es r 0 q := by
    intro td xs cs hu hnow hkx hvx same
    subst hkx hvx
    obtain ⟨q, h1, h2⟩ := find_ask (P := P) (w := w) same ents es 0 r hE hf
    refine ⟨q, ?_, h2⟩
    cases ents with
    | nil =>
      simp only [Instr.findAsking, Sem.run_pure] at h1
      simp only [Instr.findKey, Sem.run_bind, run_under hu, Result.andThen_ok, Instr.findNow, Sem.run_pure]
      exact h1
    | cons e ents =>
      simp only [Instr.findKey, Sem.run_bind, run_under hu, Result.andThen_ok, hnow]
      exact h1
  have agg : ∀ (xs : List EV) (k : EV) (vk : Value) (b : Bool), VV G vk k → eqKE (.agg xs) k = some b → ∃ ys cy, vk = .agg cy ∧ VC G cy.toList ys ∧ eqL xs ys = some b := by
    intro xs k vk b hkk hb
    cases k with
    | agg ys =>
      cases hkk with
      | leaf h => cases h
      | agg hy => exact ⟨ys, _, rfl, hy, hb⟩
    | _ => simp [eqKE] at hb
  rcases keyE_cases hk with ⟨fs, xs, hu, rfl, hp, hst⟩ | ⟨m, e, xs, bb, d, hu, rfl, hm, ht, hd, hall⟩ | ⟨d, hu, h0⟩
  · cases hv with
    | leaf h => cases h
    | agg hc =>
      rename_i cs
      have hfs : P.fieldsOf kt = fs := by simp [Program.fieldsOf, hu]
      refine asked _ xs cs hu (fun e l => by simp [Instr.findNow, Instr.sameNow]) rfl rfl fun k vk b hkk hb => ?_
      obtain ⟨ys, cy, rfl, hy, hb⟩ := agg xs k vk b hkk hb
      show (Op.equalIn (9999 + 1) kt (.agg cs) (.agg cy)).run P w = _
      rw [run_equalIn_struct w 9999 kt cs cy (by rw [hfs]; exact hu) hst, hfs]
      exact eqFields_runE 9998 cs cy fs.toList 0 xs ys b hp (vc_at hc) (vc_at hy) hb
  · cases hv with
    | leaf h => cases h
    | agg hc =>
      rename_i cs
      refine asked _ xs cs hu (fun e l => by simp [Instr.findNow, Instr.sameNow]) rfl rfl fun k vk b hkk hb => ?_
      obtain ⟨ys, cy, rfl, hy, hb⟩ := agg xs k vk b hkk hb
      show (Op.equalIn (9999 + 1) kt (.agg cs) (.agg cy)).run P w = _
      obtain ⟨i, _, hi, _⟩ := tI_spec ht
      rw [run_equalIn_array w 9999 cs cy hu hi, cellsOf_of ht, List.range_eq_range', ← hm]
      exact eqItems_runE 9998 cs cy ht hd xs ys 0 b hall (vc_at hc) (vc_at hy) hb
  · have hl : leafE key = true := by rcases key0_cases h0 with ⟨_, _, _, _, rfl⟩ | ⟨_, _, rfl⟩ | ⟨_, _, rfl⟩ <;> rfl
    obtain ⟨q, h1, h2⟩ := find_now h0 (hv.leaf' hl) ents es 0 r hE hf
    exact ⟨q, by simp only [Instr.findKey, Sem.run_bind, run_under hu, Result.andThen_ok, h1, Sem.run_pure], h2⟩

theorem ObjOk.ents {es : List (EV × EV × Nat)} {clk : Nat} {p : Pl} (h : ObjOk G (.map es clk) p w) : p.o = 0 ∧ ∃ ents : Array MapEntry, w.heap[p.b]? = some (.map ents clk) ∧ Ents G ents.toList es := by
  obtain ⟨h0, ents, h1, h2, h3⟩ := h
  exact ⟨h0, ents, h1, by simpa using h2, fun j e x a b => h3 j e x (by simpa using a) b⟩
theorem ObjOk.of_ents {es : List (EV × EV × Nat)} {clk : Nat} {p : Pl} {ents : Array MapEntry} (h0 : p.o = 0) (h1 : w.heap[p.b]? = some (.map ents clk)) (h : Ents G ents.toList es) : ObjOk G (.map es clk) p w :=
  ⟨h0, ents, h1, by simpa using h.1, fun j e x a b => h.2 j e x (by simpa using a) b⟩

theorem found_vv {r : Option (EV × Nat)} {z : Value} {ok : Bool} {u : Value} {b : Bool} (h : (r = none ∧ b = false ∧ u = z) ∨ ∃ x n, r = some (x, n) ∧ b = true ∧ VV G u x) : VV G (if ok then .tuple #[u, .bool b] else u) (foundE r (lite z) ok) := by
  have tup : ∀ x, VV G u x → VV G (.tuple #[u, .bool b]) (.tup [x, er (.bool b)]) := fun x hx => .tup rfl fun j a d ha hd => by
    match j with
    | 0 => simp at ha hd; subst ha hd; exact hx
    | 1 => simp at ha hd; subst ha hd; exact VV.er rfl
    | j + 2 => simp at ha
  rcases h with ⟨rfl, rfl, rfl⟩ | ⟨x, n, rfl, rfl, hx⟩
  · cases ok
    · exact VV.lite G u
    · exact tup _ (VV.lite G u)
  · cases ok
    · exact hx
    · exact tup _ hx

theorem lookup_look (hW : WE T w0 R G h w) {t k : Nat} {vm vk : Value} {m key : EV} {ok : Bool} {r : EO → EV → Prop} (hm : VV G vm m) (hkey : VV G vk key) (hl : lookupE P t m key ok = .look k r) {o : EO} {d : EV} (hk : h k = some o) (hr : r o d) :
    ∃ v, (Instr.lookup t vm vk ok).run P w = .ok v w ∧ VV G v d := by
  unfold lookupE at hl
  split at hl
  · rename_i kt et hu
    split at hl
    · rename_i z hz
      split at hl
      · rename_i hke
        split at hl
        · rename_i k'
          injection hl with e1 e2
          subst e1 e2
          obtain ⟨es, clk, rr, rfl, hf, rfl⟩ := hr
          cases hm.leaf' rfl with
          | mp hp =>
            rename_i p
            obtain ⟨_, ents, h1, hE⟩ := (hW.at' hk hp).2.ents
            obtain ⟨q, hq, hH⟩ := find_runE (P := P) (w := w) hke hkey hE hf
            rcases hH with ⟨rfl, rfl, _⟩ | ⟨j, e, x, a1, a2, rfl, rfl, _, _⟩
            · exact ⟨_, by simp only [Instr.lookup, Sem.run_bind, run_under hu, Result.andThen_ok, Go.MapKept.run_getObj_map h1, Sem.run_pure, check_run hke hkey, hq, run_zero hz], found_vv (.inl ⟨rfl, rfl, rfl⟩)⟩
            · exact ⟨_, by simp only [Instr.lookup, Sem.run_bind, run_under hu, Result.andThen_ok, Go.MapKept.run_getObj_map h1, Sem.run_pure, check_run hke hkey, hq], found_vv (.inr ⟨_, _, rfl, rfl, (hE.2 j e x a1 a2).2.1⟩)⟩
        · cases hl
        · cases hl
      · cases hl
    · cases hl
  · cases hl
theorem lookup_val {t : Nat} {vm vk : Value} {m key : EV} {ok : Bool} {c : Prop} {d : EV} (hm : VV G vm m) (hkey : VV G vk key) (hl : lookupE P t m key ok = .val c d) :
    ∃ v, (Instr.lookup t vm vk ok).run P w = .ok v w ∧ VV G v d := by
  unfold lookupE at hl
  split at hl
  · rename_i kt et hu
    split at hl
    · rename_i z hz
      split at hl
      · rename_i hke
        split at hl
        · cases hl
        · injection hl with e1 e2
          subst e1 e2
          obtain ⟨q, hq, hH⟩ := find_runE (P := P) (w := w) (ents := []) (es := []) hke hkey ⟨rfl, by simp⟩ rfl
          rcases hH with ⟨_, rfl, _⟩ | ⟨j, e, x, a1, _⟩
          · exact ⟨_, by simp only [hm.raw, Instr.lookup, Sem.run_bind, run_under hu, Result.andThen_ok, Sem.run_pure, check_run hke hkey, hq, run_zero hz], found_vv (.inl ⟨rfl, rfl, rfl⟩)⟩
          · simp at a1
        · cases hl
      · cases hl
    · cases hl
  · cases hl

theorem Ents.push {ents : Array MapEntry} {es : List (EV × EV × Nat)} (h : Ents G ents.toList es) {k v : Value} {x y : EV} (hk : VV G k x) (hv : VV G v y) (n : Nat) : Ents G (ents.push { key := k, val := v, born := n }).toList (es ++ [(x, y, n)]) := by
  refine ⟨by simp [h.1.symm], fun j e z he hz => ?_⟩
  rw [Array.toList_push] at he
  by_cases hj : j < es.length
  · rw [List.getElem?_append_left (by rw [h.1]; exact hj)] at he
    rw [List.getElem?_append_left hj] at hz
    exact h.2 j e z he hz
  · rw [List.getElem?_append_right (by rw [h.1]; omega), h.1] at he
    rw [List.getElem?_append_right (by omega)] at hz
    cases hjj : j - es.length with
    | zero => rw [hjj] at he hz; simp at he hz; subst he hz; exact ⟨hk, hv, rfl⟩
    | succ i => rw [hjj] at he; simp at he
theorem Ents.set {ents : Array MapEntry} {es : List (EV × EV × Nat)} (h : Ents G ents.toList es) (j : Nat) (f : MapEntry → MapEntry) (y : EV × EV × Nat) (hf : ∀ e x, ents.toList[j]? = some e → es[j]? = some x → VV G (f e).key y.1 ∧ VV G (f e).val y.2.1 ∧ (f e).born = y.2.2) : Ents G (ents.modify j f).toList (es.set j y) := by
  refine ⟨by simp [h.1.symm], fun i e z he hz => ?_⟩
  rw [Array.getElem?_toList, Array.getElem?_modify] at he
  rw [List.getElem?_set] at hz
  by_cases hi : j = i
  · subst hi
    rw [if_pos rfl] at he hz
    split at hz
    · rename_i hlt
      injection hz with hz
      subst hz
      cases hq : ents[j]? with
      | none => rw [hq] at he; cases he
      | some e' =>
        rw [hq] at he
        simp at he
        subst he
        exact hf e' _ (by rw [Array.getElem?_toList]; exact hq) (List.getElem?_eq_getElem hlt)
    · cases hz
  · rw [if_neg hi] at he hz
    exact h.2 i e z (by rw [Array.getElem?_toList]; exact he) hz

/-- Another map in its place. -/
theorem WE.setMap (hW : WE T w0 R G h w) {k : Nat} {o : EO} {p : Pl} (hk : h k = some o) (hp : G.pl k = some p) (h0 : p.o = 0) (ents : Array MapEntry) (es : List (EV × EV × Nat)) (clk : Nat) (hE : Ents G ents.toList es) :
    WE T w0 R G (upd h k (some (.map es clk))) { w with heap := w.heap.setIfInBounds p.b (.map ents clk) } := by
  have hlt := hW.lt hk hp
  exact hW.turn hk hp rfl rfl rfl (by simp) (fun b hb hne => Array.getElem?_setIfInBounds_ne (Ne.symm hne)) (ObjOk.of_ents h0 (by simp [hlt]) hE)

theorem update_run (hW : WE T w0 R G h w) {t : Nat} {vm vk vv : Value} {m key val : EV} {r : Hp → Nat → EV → Hp → Nat → Prop} (hm : VV G vm m) (hkey : VV G vk key) (hval : VV G vv val) (hu0 : updateE P t m key val = .eff r) {nx nx' : Nat} {d : EV} {h' : Hp} (hr : r h nx d h' nx') :
    ∃ w', (Instr.mapUpdate t vm vk vv).run P w = .ok () w' ∧ d = er undef ∧ nx' = nx ∧ WE T w0 R G h' w' ∧ w'.heap.size = w.heap.size ∧ ∀ b, (∀ k o p, h k = some o → G.pl k = some p → p.b ≠ b) → w'.heap[b]? = w.heap[b]? := by
  unfold updateE at hu0
  split at hu0
  · rename_i kt et k hu
    split at hu0
    · rename_i hke
      injection hu0 with hu0
      subst hu0
      obtain ⟨es, clk, es', rr, hk, hput, hf, rfl, rfl, rfl⟩ := hr
      cases hm.leaf' rfl with
      | mp hp =>
        rename_i p
        obtain ⟨h0, ents, h1, hE⟩ := (hW.at' hk hp).2.ents
        obtain ⟨q, hq, hH⟩ := find_runE (P := P) (w := w) hke hkey hE hf
        have hoth : ∀ (ob : Obj) (b' : Nat), (∀ k o p, h k = some o → G.pl k = some p → p.b ≠ b') → ({ w with heap := w.heap.setIfInBounds p.b ob } : World).heap[b']? = w.heap[b']? := fun ob b' hb' => Array.getElem?_setIfInBounds_ne (hb' k _ p hk hp)
        rcases hH with ⟨rfl, rfl, hp1⟩ | ⟨j, e, x, a1, a2, rfl, rfl, hq2, hp1⟩
        · rw [hp1] at hput
          injection hput with hput
          subst hput
          refine ⟨{ w with heap := w.heap.setIfInBounds p.b (.map (ents.push { key := vk, val := vv, born := clk }) (clk + 1)) }, ?_, rfl, rfl, hW.setMap hk hp h0 _ _ _ (hE.push hkey hval clk), by simp, hoth _⟩
          simp only [Instr.mapUpdate, Sem.run_bind, run_under hu, Result.andThen_ok, Sem.run_pure, Go.MapKept.run_getObj_map h1, check_run hke hkey, hq]
          rw [Go.MapKept.run_setObj_map _ h1]
        · rw [hp1] at hput
          injection hput with hput
          subst hput
          rw [Nat.zero_add] at hq
          have hej : ents[j]? = some e := by rw [← Array.getElem?_toList]; exact a1
          refine ⟨{ w with heap := w.heap.setIfInBounds p.b (.map (ents.modify j fun e => { e with key := vk, val := vv }) clk) }, ?_, rfl, rfl, hW.setMap hk hp h0 _ _ _ (hE.set j _ _ fun e' x' b1 b2 => ⟨hkey, hval, by rw [a2] at b2; injection b2 with b2; subst b2; exact (hE.2 j e' _ b1 a2).2.2⟩), by simp, hoth _⟩
          simp only [Instr.mapUpdate, Sem.run_bind, run_under hu, Result.andThen_ok, Sem.run_pure, Go.MapKept.run_getObj_map h1, check_run hke hkey, hq, hej, Option.map_some, Option.getD_some, Instr.keyThatStays]
          rw [if_pos (eqKE_bits hkey (hE.2 j e x a1 a2).1 hq2 9999)]
          simp only [Sem.run_pure, Result.andThen_ok]
          rw [Go.MapKept.run_setObj_map _ h1]
    · cases hu0
  · cases hu0

theorem entry_run (hW : WE T w0 R G h w) {t : Nat} {vm vk : Value} {m key : EV} {r : Hp → Nat → EV → Hp → Nat → Prop} (hm : VV G vm m) (hkey : VV G vk key) (hu0 : entryE P t m key = .eff r) {nx nx' : Nat} {d : EV} {h' : Hp} (hr : r h nx d h' nx') :
    ∃ v w', (Instr.mapEntry t vm vk).run P w = .ok v w' ∧ VV G v d ∧ nx' = nx ∧ WE T w0 R G h' w' ∧ w'.heap.size = w.heap.size ∧ ∀ b, (∀ k o p, h k = some o → G.pl k = some p → p.b ≠ b) → w'.heap[b]? = w.heap[b]? := by
  unfold entryE at hu0
  split at hu0
  · rename_i kt et k hu
    split at hu0
    · rename_i z hz
      split at hu0
      · rename_i hke
        injection hu0 with hu0
        subst hu0
        obtain ⟨es, clk, es', rr, v, n, hk, hf, hvn, hput, rfl, rfl, rfl⟩ := hr
        have tup : ∀ (u : Value) (m : Nat), VV G u v → m = n → VV G (.tuple #[u, goInt m]) (.tup [v, er (.int .i64 n)]) := fun u m hx hmn => .tup rfl fun j a d ha hd => by
          subst hmn
          match j with
          | 0 => simp at ha hd; subst ha hd; exact hx
          | 1 => simp at ha hd; subst ha hd; exact VV.er rfl
          | j + 2 => simp at ha
        cases hm.leaf' rfl with
        | mp hp =>
          rename_i p
          obtain ⟨h0, ents, h1, hE⟩ := (hW.at' hk hp).2.ents
          obtain ⟨q, hq, hH⟩ := find_runE (P := P) (w := w) hke hkey hE hf
          have hoth : ∀ (ob : Obj) (b' : Nat), (∀ k o p, h k = some o → G.pl k = some p → p.b ≠ b') → ({ w with heap := w.heap.setIfInBounds p.b ob } : World).heap[b']? = w.heap[b']? := fun ob b' hb' => Array.getElem?_setIfInBounds_ne (hb' k _ p hk hp)
          rcases hH with ⟨rfl, rfl, hp1⟩ | ⟨j, e, x, a1, a2, rfl, rfl, hq2, hp1⟩
          · rw [hp1] at hput
            injection hput with hput
            subst hput
            simp only [Option.getD_none, Prod.mk.injEq] at hvn
            obtain ⟨rfl, rfl⟩ := hvn
            refine ⟨_, { w with heap := w.heap.setIfInBounds p.b (.map (ents.push { key := vk, val := z, born := n }) (n + 1)) }, ?_, tup z n (VV.lite G z) rfl, rfl, hW.setMap hk hp h0 _ _ _ (hE.push hkey (VV.lite G z) n), by simp, hoth _⟩
            simp only [Instr.mapEntry, Sem.run_bind, run_under hu, Result.andThen_ok, Sem.run_pure, Go.MapKept.run_getObj_map h1, check_run hke hkey, hq, run_zero hz]
            rw [Go.MapKept.run_setObj_map _ h1]
            simp only [Result.andThen_ok]
          · rw [hp1] at hput
            injection hput with hput
            subst hput
            simp only [Option.getD_some, Prod.mk.injEq] at hvn
            obtain ⟨rfl, rfl⟩ := hvn
            rw [Nat.zero_add] at hq
            have hej : ents[j]? = some e := by rw [← Array.getElem?_toList]; exact a1
            obtain ⟨c1, c2, c3⟩ := hE.2 j e x a1 a2
            refine ⟨_, { w with heap := w.heap.setIfInBounds p.b (.map (ents.modify j fun e => { e with key := vk }) clk) }, ?_, tup e.val e.born c2 c3, rfl, hW.setMap hk hp h0 _ _ _ (hE.set j _ _ fun e' x' b1 b2 => by rw [a1] at b1; rw [a2] at b2; injection b1 with b1; injection b2 with b2; subst b1 b2; exact ⟨hkey, c2, c3⟩), by simp, hoth _⟩
            simp only [Instr.mapEntry, Sem.run_bind, run_under hu, Result.andThen_ok, Sem.run_pure, Go.MapKept.run_getObj_map h1, check_run hke hkey, hq, hej, Option.map_some, Option.getD_some, Instr.keyThatStays]
            rw [if_pos (eqKE_bits hkey c1 hq2 9999)]
            simp only [Sem.run_pure, Result.andThen_ok]
            rw [Go.MapKept.run_setObj_map _ h1]
            simp only [Result.andThen_ok]
      · cases hu0
    · cases hu0
  · cases hu0

theorem stamp_find (born : Nat) (val : EV) : ∀ (ents : List MapEntry) (es es' : List (EV × EV × Nat)), Ents G ents es → stampE born val es = some es' → ∃ j x, ents.findIdx? (fun e => (e.born : Int) == (born : Int)) = some j ∧ es[j]? = some x ∧ es' = es.set j (x.1, val, x.2.2) := by
  intro ents
  induction ents with
  | nil =>
    intro es es' hE h
    obtain rfl : es = [] := List.eq_nil_of_length_eq_zero hE.1.symm
    simp [stampE] at h
  | cons e ents ih =>
    intro es es' hE h
    cases es with
    | nil => simp [Ents] at hE
    | cons x es =>
      obtain ⟨k, v, n⟩ := x
      obtain ⟨_, _, hb⟩ := hE.2 0 e _ rfl rfl
      simp only at hb
      simp only [stampE] at h
      split at h
      · rename_i hn
        injection h with h
        subst h
        exact ⟨0, _, by simp [List.findIdx?_cons, hb, hn], rfl, rfl⟩
      · rename_i hn
        cases hs : stampE born val es with
        | none => rw [hs] at h; cases h
        | some es2 =>
          rw [hs] at h
          simp at h
          subst h
          obtain ⟨j, x, h1, h2, h3⟩ := ih es es2 hE.tail hs
          refine ⟨j + 1, x, ?_, by simpa using h2, by simp [h3]⟩
          have : ((e.born : Int) == (born : Int)) = false := by simp [hb]; omega
          simp only [List.findIdx?_cons, this, Bool.false_eq_true, if_false, h1, Option.map_some]
theorem entryStore_run (hW : WE T w0 R G h w) {t : Nat} {vm vs vv : Value} {m st val : EV} {r : Hp → Nat → EV → Hp → Nat → Prop} (hm : VV G vm m) (hst : VV G vs st) (hval : VV G vv val) (hu0 : entryStoreE m st val = .eff r) {nx nx' : Nat} {d : EV} {h' : Hp} (hr : r h nx d h' nx') :
    ∃ w', (Instr.entryStore t vm vs vv).run P w = .ok () w' ∧ d = er undef ∧ nx' = nx ∧ WE T w0 R G h' w' ∧ w'.heap.size = w.heap.size ∧ ∀ b, (∀ k o p, h k = some o → G.pl k = some p → p.b ≠ b) → w'.heap[b]? = w.heap[b]? := by
  unfold entryStoreE at hu0
  split at hu0
  · rename_i k n hi
    injection hu0 with hu0
    subst hu0
    obtain ⟨es, clk, es', hk, hn0, hs, rfl, rfl, rfl⟩ := hr
    obtain ⟨kk, rfl⟩ := hst.int hi
    cases hm.leaf' rfl with
    | mp hp =>
      rename_i p
      obtain ⟨h0, ents, h1, hE⟩ := (hW.at' hk hp).2.ents
      obtain ⟨j, x, q1, q2, rfl⟩ := stamp_find n.toNat val ents.toList es es' hE hs
      have q1' : ents.findIdx? (fun e => (e.born : Int) == n) = some j := by
        rw [Int.toNat_of_nonneg hn0] at q1
        have e1 := List.findIdx?_toArray (fun e : MapEntry => (e.born : Int) == n) ents.toList
        rw [Array.toArray_toList] at e1
        rw [e1]
        exact q1
      refine ⟨{ w with heap := w.heap.setIfInBounds p.b (.map (ents.modify j fun e => { e with val := vv }) clk) }, ?_, rfl, rfl, hW.setMap hk hp h0 _ _ _ (hE.set j _ _ fun e' x' b1 b2 => by rw [q2] at b2; injection b2 with b2; subst b2; exact ⟨(hE.2 j e' _ b1 q2).1, hval, (hE.2 j e' _ b1 q2).2.2⟩), by simp, fun b' hb' => Array.getElem?_setIfInBounds_ne (hb' k _ p hk hp)⟩
      simp only [Instr.entryStore, Sem.run_bind, Go.MapKept.run_getObj_map h1, Result.andThen_ok, asInt, asIntOf, Sem.run_pure, q1']
      rw [Go.MapKept.run_setObj_map _ h1]
  · cases hu0
end
end Go.Proofs.YtdbaklnjemcfgaaGreatDoor.E
