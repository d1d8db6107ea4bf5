/- What an operation that only yields a value does in the model (val_soundE). Conditions: none. -/
import Derived.Test.YtdbaklnjemcfgaaGreatDoorEOps
namespace Go.Proofs.YtdbaklnjemcfgaaGreatDoor.E
open Go.RowKit Go.Proofs.YtdbaklnjemcfgaaGreatDoor.Mem Go.Proofs.YtdbaklnjemcfgaaGreatDoor.D
set_option linter.unusedVariables false
set_option linter.unusedSimpArgs false

section
variable {P : Program} {G : Gg} {w : World}

theorem mk_ofE {cs : List Value} {ds : List EV} {g : Bool} {n : Nat} (h : VC G cs ds) (hn : cs.length = n) (h1 : g = false → n = 1) : VV G (if g then .agg cs.toArray else cs.headD undef) (mkE g ds) := by
  cases g with
  | true => exact .agg (by simpa using h)
  | false =>
    have := h1 rfl
    subst this
    obtain ⟨x, rfl⟩ := List.length_eq_one_iff.1 hn
    obtain ⟨d, rfl⟩ := List.length_eq_one_iff.1 (h.1.symm.trans hn)
    exact .leaf (h.2 0 x d rfl rfl)
theorem part_soundE {t n bb : Nat} {g : Bool} (ht : tI P t = some (n, bb, g)) (cs : Array Value) (ds : List EV) (h : VC G cs.toList ds) (off : Nat) (hl : off + n ≤ ds.length) (h1 : g = false → n = 1) :
    ∃ v, (part t cs off).run P w = .ok v w ∧ VV G v (mkE g ((ds.drop off).take n)) := by
  have hcs : cs.size = ds.length := by simpa using h.1
  refine ⟨_, ?_, mk_ofE ((h.drop off).take n) (n := n) (by simp; omega) h1⟩
  unfold part
  simp only [Sem.run_bind, run_agg ht, Result.andThen_ok]
  cases g with
  | true =>
    simp only [if_true, Sem.run_bind, run_size ht, Result.andThen_ok, Sem.run_pure]
    congr 2
    apply Array.ext'
    simp [Array.toList_extract, List.extract_eq_take_drop]
  | false =>
    have := h1 rfl
    subst this
    have hlt : off < cs.size := by omega
    simp only [Bool.false_eq_true, if_false]
    rw [Array.getElem?_eq_getElem hlt]
    simp only [Sem.run_pure]
    congr 1
    rw [List.drop_eq_getElem_cons (by simpa using hlt)]
    simp
theorem VV.int {v : Value} {d : EV} {n : Int} (h : VV G v d) (hd : intE? d = some n) : ∃ k, v = .int k n := by
  unfold intE? at hd
  split at hd
  · injection hd with hd; subst hd; exact ⟨_, h.raw⟩
  · cases hd

theorem VC.splice {cs : List Value} {ds : List EV} {new : List Value} {dn : List EV} (h : VC G cs ds) (hn : VC G new dn) (off : Nat) :
    VC G (cs.take off ++ new ++ cs.drop (off + new.length)) (spliceE ds off dn) := by
  unfold spliceE
  rw [← hn.1]
  exact ((h.take off).append hn).append (h.drop _)
theorem fill_soundE (place : Nat → Option (Nat × Nat)) : ∀ (parts : List (Nat × Value)) (dp : List (Nat × EV)) (cs : Array Value) (ds r : List EV), parts.length = dp.length → (∀ (j : Nat) x y, parts[j]? = some x → dp[j]? = some y → x.1 = y.1 ∧ VV G x.2 y.2) →
    VC G cs.toList ds → fillE place ds dp = some r → ∃ cs', Instr.fill place cs parts = some cs' ∧ VC G cs'.toList r ∧ cs'.size = cs.size := by
  intro parts
  induction parts with
  | nil =>
    intro dp cs ds r hl hp hcs h
    obtain rfl : dp = [] := List.eq_nil_of_length_eq_zero hl.symm
    simp [fillE] at h
    subst h
    exact ⟨cs, rfl, hcs, rfl⟩
  | cons x parts ih =>
    intro dp cs ds r hl hp hcs h
    cases dp with
    | nil => simp at hl
    | cons y dp =>
      obtain ⟨i, v⟩ := x
      obtain ⟨i', d⟩ := y
      obtain ⟨h1, hv⟩ := hp 0 _ _ rfl rfl
      simp at h1 hv
      subst h1
      simp only [fillE] at h
      cases hpl : place i with
      | none => simp [hpl] at h
      | some on =>
        obtain ⟨off, n⟩ := on
        simp only [hpl] at h
        split at h
        · rename_i hok
          simp only [Bool.and_eq_true, beq_iff_eq, decide_eq_true_eq] at hok
          obtain ⟨⟨k1, k2⟩, k3⟩ := hok
          have hc := hv.cells k1
          have hvs : v.cells.size = n := by rw [← k2, ← hc.1]; simp
          have hcs1 : cs.size = ds.length := by simpa using hcs.1
          have hfold : (v.cells.zipIdx.foldl (fun cs (x : Value × Nat) => cs.setIfInBounds (off + x.2) x.1) cs).toList = cs.toList.take off ++ v.cells.toList ++ cs.toList.drop (off + v.cells.toList.length) := by
            rw [← Array.foldl_toList, Array.toList_zipIdx]
            have := fold_splice off v.cells.toList 0 cs (by simp; omega)
            simpa using this
          have hsz : (v.cells.zipIdx.foldl (fun cs (x : Value × Nat) => cs.setIfInBounds (off + x.2) x.1) cs).size = cs.size := by
            rw [← Array.length_toList, hfold]
            simp only [List.length_append, List.length_take, List.length_drop, Array.length_toList]
            omega
          obtain ⟨cs', hf, hr, hs⟩ := ih dp _ _ r (by simpa using hl) (fun j x y a b => hp (j + 1) x y (by simpa using a) (by simpa using b)) (by rw [hfold]; exact hcs.splice hc off) h
          refine ⟨cs', ?_, hr, hs.trans hsz⟩
          simp only [Instr.fill, hpl]
          rw [if_neg (by simp [hvs]; omega)]
          exact hf
        · cases h
theorem parts_evE {ρ : Operand → Value} {ρE : Operand → EV} (hρ : ∀ x, VV G (ρ x) (ρE x)) (parts : Array (Nat × Operand)) :
    ((parts.map fun (i, x) => (i, ρ x)).toList.length = (parts.toList.map fun (i, x) => (i, ρE x)).length) ∧ ∀ (j : Nat) x y, (parts.map fun (i, x) => (i, ρ x)).toList[j]? = some x → (parts.toList.map fun (i, x) => (i, ρE x))[j]? = some y → x.1 = y.1 ∧ VV G x.2 y.2 := by
  refine ⟨by simp, fun j x y a b => ?_⟩
  rw [Array.toList_map, List.getElem?_map] at a
  rw [List.getElem?_map] at b
  cases hp : parts.toList[j]? with
  | none => rw [hp] at a; simp at a
  | some p => rw [hp] at a b; simp at a b; subst a b; exact ⟨rfl, hρ _⟩
theorem zero_cellsE {z : Value} (hz : solid (lite z) = true) : VC G z.cells.toList (lite z).cells := (VV.lite G z).cells hz

theorem buildE_sound {t : TypeId} {ρ : Operand → Value} {ρE : Operand → EV} (hρ : ∀ x, VV G (ρ x) (ρE x)) (parts : Array (Nat × Operand)) {c : Prop} {d : EV} (h : buildE P t (parts.toList.map fun (i, x) => (i, ρE x)) = .val c d) (hc : c) :
    ∃ v, (Instr.build t (parts.map fun (i, x) => (i, ρ x))).run P w = .ok v w ∧ VV G v d := by
  have hp := parts_evE hρ parts
  unfold buildE at h
  split at h
  · rename_i fs z hu hz
    split at h
    · rename_i hok
      simp only [Bool.and_eq_true] at hok
      split at h
      · rename_i cells hfl
        injection h with h1 h2; subst h1 h2
        obtain ⟨pl, hpl, hpi⟩ := places_run (P := P) (w := w) fs hok.2
        have hpe : (fun i => pl[i]?) = places P fs := funext hpi
        obtain ⟨cs', hf, hr, _⟩ := fill_soundE (G := G) (places P fs) _ _ z.cells _ _ hp.1 hp.2 (zero_cellsE hok.1) hfl
        refine ⟨.agg cs', ?_, .agg hr⟩
        simp only [Instr.build, Sem.run_bind, run_zero hz, run_under hu, Result.andThen_ok, hpl, hpe, hf, Sem.run_pure]
      · cases h
    · cases h
  · rename_i m e z hu hz
    split at h
    · rename_i n b g ht
      split at h
      · rename_i hok
        split at h
        · rename_i cells hfl
          injection h with h1 h2; subst h1 h2
          obtain ⟨cs', hf, hr, _⟩ := fill_soundE (G := G) (fun i => some (i * n, n)) _ _ z.cells _ _ hp.1 hp.2 (zero_cellsE hok) hfl
          refine ⟨.agg cs', ?_, .agg hr⟩
          simp only [Instr.build, Sem.run_bind, run_zero hz, run_under hu, run_size ht, Result.andThen_ok, hf, Sem.run_pure]
        · cases h
      · cases h
    · cases h
  · cases h

theorem fieldE_sound {t f : Nat} {vx : Value} {dx : EV} {c : Prop} {d : EV} (hx : VV G vx dx) (h : fieldE P t dx f = .val c d) (hc : c) :
    ∃ v, (Instr.field t vx f).run P w = .ok v w ∧ VV G v d := by
  unfold fieldE at h
  split at h
  · rename_i fs hu
    split at h
    · rename_i fd hfd
      split at h
      · rename_i cells n b g ht
        injection h with h1 h2; subst h1 h2
        cases hx with
        | leaf h => cases h
        | agg hcs =>
          rename_i cs
          obtain ⟨v, hv, hr⟩ := part_soundE (P := P) (w := w) ht cs cells hcs fd.offset hc.1 hc.2
          exact ⟨v, by simp only [Instr.field, Sem.run_bind, run_under hu, Result.andThen_ok, hfd, asAgg, Sem.run_pure, hv], hr⟩
      · cases h
    · cases h
  · cases h
theorem fieldAddrE_sound {t f k off : Nat} {vx : Value} {c : Prop} {d : EV} (hx : VV G vx (.ptr k off)) (h : fieldAddrE P t k off f = .val c d) (hc : c) :
    ∃ v, (Instr.fieldAt t vx f).run P w = .ok v w ∧ VV G v d := by
  unfold fieldAddrE at h
  split at h
  · rename_i fs hu
    split at h
    · rename_i fd hfd
      split at h
      · rename_i n b g ht
        injection h with h1 h2; subst h1 h2
        cases hx.leaf' rfl with
        | ptr _ hp =>
          refine ⟨_, ?_, .leaf (.ptr (off + fd.offset) hp)⟩
          simp only [Instr.fieldAt, Sem.run_bind, run_under hu, Result.andThen_ok, hfd, sureAddr_run, fieldPlace, run_size ht, Sem.run_pure]
          rw [if_neg (by simpa using hc)]
          simp only [Sem.run_pure, Result.andThen_ok, add_lit, Nat.add_assoc]
      · cases h
    · cases h
  · cases h
theorem indexE_sound {t : Nat} {vx vi : Value} {cells : List EV} {di : EV} {c : Prop} {d : EV} (hx : VV G vx (.agg cells)) (hi : VV G vi di) (h : indexE P t cells di = .val c d) (hc : c) :
    ∃ v, (Instr.index t vx vi).run P w = .ok v w ∧ VV G v d := by
  unfold indexE at h
  split at h
  · rename_i i m e hii hu
    split at h
    · rename_i n b g ht
      injection h with h1 h2; subst h1 h2
      obtain ⟨k, rfl⟩ := hi.int hii
      cases hx with
      | leaf h => cases h
      | agg hcs =>
        rename_i cs
        obtain ⟨v, hv, hr⟩ := part_soundE (P := P) (w := w) ht cs cells hcs (i.toNat * n) hc.2.2.1 hc.2.2.2
        refine ⟨v, ?_, hr⟩
        simp only [Instr.index, Sem.run_bind, asIntOf_run, Result.andThen_ok, run_under hu]
        rw [if_pos ⟨hc.1, hc.2.1⟩]
        simp only [Sem.run_bind, run_size ht, Result.andThen_ok, hv]
    · cases h
  · cases h
theorem indexAddrE_sound {t : Nat} {vx vi : Value} {dx di : EV} {c : Prop} {d : EV} (hx : VV G vx dx) (hi : VV G vi di) (h : indexAddrE P t dx di = .val c d) (hc : c) :
    ∃ v, (Instr.indexAt t vx vi).run P w = .ok v w ∧ VV G v d := by
  unfold indexAddrE at h
  split at h
  · rename_i i e k off len cap n ex hii hu
    split at h
    · rename_i n' b g ht
      injection h with h1 h2; subst h1 h2
      obtain ⟨rfl, h0, hlt⟩ := hc
      obtain ⟨kk, rfl⟩ := hi.int hii
      cases hx.leaf' rfl with
      | sl _ _ _ _ _ c hp hl hcc hxx ha hm hs =>
        rename_i p a
        have hc0 : c ≠ 0 := by omega
        have ha' : a = p.o + off := ha.resolve_right hc0
        subst ha'
        refine ⟨_, ?_, .leaf (.ptr (off + i.toNat * n') hp)⟩
        simp only [Instr.indexAt, Sem.run_bind, asIntOf_run, Result.andThen_ok, run_under hu, Sem.run_pure]
        rw [if_pos ⟨h0, hlt⟩]
        simp only [Sem.run_bind, run_size ht, Result.andThen_ok, Sem.run_pure, add_lit, Nat.add_assoc]
    · cases h
  · rename_i i m e k off hii hu
    split at h
    · rename_i n b g ht
      injection h with h1 h2; subst h1 h2
      obtain ⟨h0, hlt⟩ := hc
      obtain ⟨kk, rfl⟩ := hi.int hii
      cases hx.leaf' rfl with
      | ptr _ hp =>
        refine ⟨_, ?_, .leaf (.ptr (off + i.toNat * n) hp)⟩
        simp only [Instr.indexAt, Sem.run_bind, asIntOf_run, Result.andThen_ok, run_under hu, Sem.run_pure, sureAddr_run]
        rw [if_pos ⟨h0, hlt⟩]
        simp only [Sem.run_bind, run_size ht, Result.andThen_ok, Sem.run_pure, add_lit, Nat.add_assoc]
    · cases h
  · cases h

theorem optmapE {ρ : Operand → Value} {ρE : Operand → EV} (hρ : ∀ x, VV G (ρ x) (ρE x)) {lo : Option Operand} {x : EV} (h : lo.map ρE = some x) : ∃ v, lo.map ρ = some v ∧ VV G v x := by
  cases lo with
  | none => cases h
  | some y => simp at h; subst h; exact ⟨_, rfl, hρ y⟩
theorem loE_sound {ρ : Operand → Value} {ρE : Operand → EV} (hρ : ∀ x, VV G (ρ x) (ρE x)) {lo : Option Operand} {l : Int} (h : loE (lo.map ρE) = some l) : (lo.map ρ = none ∧ l = 0) ∨ ∃ k, lo.map ρ = some (.int k l) := by
  cases lo with
  | none => simp [loE] at h; exact .inl ⟨rfl, h.symm⟩
  | some y => obtain ⟨k, hk⟩ := (hρ y).int (by simpa [loE] using h); exact .inr ⟨k, by simp [hk]⟩
theorem hiE_sound {ρ : Operand → Value} {ρE : Operand → EV} (hρ : ∀ x, VV G (ρ x) (ρE x)) {lo : Option Operand} {n : Nat} {l : Int} (h : hiE n (lo.map ρE) = some l) : (lo.map ρ = none ∧ l = n) ∨ ∃ k, lo.map ρ = some (.int k l) := by
  cases lo with
  | none => simp [hiE] at h; exact .inl ⟨rfl, h.symm⟩
  | some y => obtain ⟨k, hk⟩ := (hρ y).int (by simpa [hiE] using h); exact .inr ⟨k, by simp [hk]⟩

/-- s[l:h] of a slice, in the model. -/
theorem slice_run {t e n bb : Nat} {g : Bool} (hu : P.underlying t = some (.slice e)) (ht : tI P e = some (n, bb, g)) (A : Option Addr) (len c : Nat) (lo hi : Option Value) (l h : Int)
    (hlo : (lo = none ∧ l = 0) ∨ ∃ k, lo = some (.int k l)) (hhi : (hi = none ∧ h = len) ∨ ∃ k, hi = some (.int k h)) (h0 : 0 ≤ l) (h1 : l ≤ h) (h2 : h ≤ c) (hlen : len ≤ c) :
    (Instr.sliceAt t (.slice A len c) lo hi none).run P w = .ok (.slice (if c = l.toNat then A else A.map (·.add (l.toNat * n))) (h.toNat - l.toNat) (c - l.toNat)) w := by
  have hb : (Instr.sliceBounds true len c lo hi none).run P w = .ok (l.toNat, h.toNat, c) w := bounds_sound (P := P) (w := w) true len c lo hi l h hlo hhi h0 h1 h2 hlen
  simp only [Instr.sliceAt, Instr.slice, Sem.run_bind, run_under hu, Result.andThen_ok, hb, run_size ht, Sem.run_pure]
theorem slice3_run {t e n bb : Nat} {g : Bool} (hu : P.underlying t = some (.slice e)) (ht : tI P e = some (n, bb, g)) (A : Option Addr) (len c : Nat) (lo hi mx : Option Value) (l h m : Int)
    (hlo : (lo = none ∧ l = 0) ∨ ∃ k, lo = some (.int k l)) (hhi : ∃ k, hi = some (.int k h)) (hmx : ∃ k, mx = some (.int k m)) (h0 : 0 ≤ l) (h1 : l ≤ h) (h2 : h ≤ m) (h3 : m ≤ c) :
    (Instr.sliceAt t (.slice A len c) lo hi mx).run P w = .ok (.slice (if m.toNat = l.toNat then A else A.map (·.add (l.toNat * n))) (h.toNat - l.toNat) (m.toNat - l.toNat)) w := by
  obtain ⟨kh, rfl⟩ := hhi
  obtain ⟨km, rfl⟩ := hmx
  have b1 := bound_sound (P := P) (w := w) km m c .slice3Acap (by omega) h3
  have b2 := bound_sound (P := P) (w := w) kh h m.toNat .slice3B (by omega) (by omega)
  rcases hlo with ⟨rfl, rfl⟩ | ⟨kl, rfl⟩
  · simp only [Instr.sliceAt, Instr.slice, Instr.sliceBounds, Sem.run_bind, run_under hu, Result.andThen_ok, if_true, b1, b2, Sem.run_pure, run_size ht, Int.toNat_zero]
  · have b3 := bound_sound (P := P) (w := w) kl l h.toNat .slice3C h0 (by omega)
    simp only [Instr.sliceAt, Instr.slice, Instr.sliceBounds, Sem.run_bind, run_under hu, Result.andThen_ok, if_true, b1, b2, Option.isSome_some, b3, Sem.run_pure, run_size ht]

theorem sliceE_sound {t k off len cap n : Nat} {ex : Bool} {vx : Value} {ρ : Operand → Value} {ρE : Operand → EV} (hρ : ∀ x, VV G (ρ x) (ρE x)) {lo hi mx : Option Operand} {c : Prop} {d : EV} (hx : VV G vx (.sl k off len cap n ex))
    (h : sliceE P t k off len cap n ex (lo.map ρE) (hi.map ρE) (mx.map ρE) = .val c d) (hc : c) :
    ∃ v, (Instr.sliceAt t vx (lo.map ρ) (hi.map ρ) (mx.map ρ)).run P w = .ok v w ∧ VV G v d := by
  unfold sliceE at h
  split at h
  · rename_i e hu
    split at h
    · rename_i n' b g l hh ht hl hhh
      have hlo := loE_sound hρ hl
      have hhi := hiE_sound hρ hhh
      cases hx.leaf' rfl with
      | sl _ _ _ _ _ cc hp hle hcc hxx ha hm hs =>
        rename_i p a
        split at h
        · rename_i hmx
          injection h with h1 h2; subst h1 h2
          obtain ⟨rfl, h0, h1, h2⟩ := hc
          have hmn : mx = none := by cases mx with | none => rfl | some y => simp at hmx
          subst hmn
          refine ⟨_, slice_run hu ht _ len cc _ _ l hh hlo hhi h0 h1 (by omega) (by omega), .leaf ?_⟩
          by_cases hcl : cc = l.toNat
          · rw [if_pos hcl]
            refine .sl _ _ _ _ _ _ hp (by omega) (by omega) (fun he => by have := hxx he; omega) (.inr (by omega)) (by omega) (.inl (by omega))
          · rw [if_neg hcl]
            have hc0 : cc ≠ 0 := by omega
            have ha' : a = p.o + off := ha.resolve_right hc0
            subst ha'
            simp only [Option.map_some, add_lit, Nat.add_assoc]
            refine .sl _ _ _ _ _ _ hp (by omega) (by omega) (fun he => by have := hxx he; omega) (.inl rfl) (by omega) (.inr ?_)
            have := hs.resolve_left hc0
            have hmul : l.toNat * n' + (cc - l.toNat) * n' = cc * n' := by rw [← Nat.add_mul]; congr 1; omega
            omega
        · rename_i m hmx
          split at h
          · rename_i hx' m' hhx hmi
            injection h with h1 h2; subst h1 h2
            obtain ⟨rfl, h0, h1, h2, h3⟩ := hc
            obtain ⟨vm, hvm, hvm2⟩ := optmapE hρ hmx
            obtain ⟨km, rfl⟩ := hvm2.int hmi
            obtain ⟨vh, hvh, hvh2⟩ := optmapE hρ hhx
            have hhi' : ∃ k, hi.map ρ = some (.int k hh) := by
              rcases hhi with ⟨hn, _⟩ | hk
              · rw [hvh] at hn; cases hn
              · exact hk
            refine ⟨_, slice3_run hu ht _ len cc _ _ _ l hh m' hlo hhi' ⟨km, hvm⟩ h0 h1 h2 (by omega), .leaf ?_⟩
            by_cases hcl : m'.toNat = l.toNat
            · rw [if_pos hcl]
              refine .sl _ _ _ _ _ _ hp (by omega) (by omega) (fun he => by omega) (.inr (by omega)) (by omega) (.inl (by omega))
            · rw [if_neg hcl]
              have hc0 : cc ≠ 0 := by omega
              have ha' : a = p.o + off := ha.resolve_right hc0
              subst ha'
              simp only [Option.map_some, add_lit, Nat.add_assoc]
              refine .sl _ _ _ _ _ _ hp (by omega) (by omega) (fun he => rfl) (.inl rfl) (by omega) (.inr ?_)
              have := hs.resolve_left hc0
              have hmul : l.toNat * n' + (m'.toNat - l.toNat) * n' = m'.toNat * n' := by rw [← Nat.add_mul]; congr 1; omega
              have hmle : m'.toNat * n' ≤ cc * n' := Nat.mul_le_mul_right _ (by omega)
              omega
          · cases h
    · cases h
  · cases h
theorem sliceNoneE_sound {t : Nat} {vx : Value} {dx : EV} {ρ : Operand → Value} {ρE : Operand → EV} (hρ : ∀ x, VV G (ρ x) (ρE x)) {lo hi mx : Option Operand} {c : Prop} {d : EV} (hx : VV G vx dx)
    (h : sliceNoneE P t dx (lo.map ρE) (hi.map ρE) (mx.map ρE) = .val c d) (hc : c) :
    ∃ v, (Instr.sliceAt t vx (lo.map ρ) (hi.map ρ) (mx.map ρ)).run P w = .ok v w ∧ VV G v d := by
  unfold sliceNoneE at h
  split at h
  · rename_i e dd hu
    split at h
    · rename_i tt rows l hh m ht hr hl hhi hmx
      injection h with h1 h2; subst h1 h2
      obtain ⟨rfl, rfl, rfl⟩ := hc
      obtain ⟨n, b, g⟩ := tt
      have hlo := loE_sound hρ hl
      have hhi' : ∃ k, hi.map ρ = some (.int k 0) := by
        cases hi with
        | none => cases hhi
        | some y => obtain ⟨k, hk⟩ := (hρ y).int (by simpa using hhi); exact ⟨k, by simp [hk]⟩
      have hmx' : ∃ k, mx.map ρ = some (.int k 0) := by
        cases mx with
        | none => cases hmx
        | some y => obtain ⟨k, hk⟩ := (hρ y).int (by simpa using hmx); exact ⟨k, by simp [hk]⟩
      have hsl : ∃ A len cc, vx = .slice A len cc := by
        cases hx.leaf' rfl with
        | im h =>
          cases h with
          | raw v hv =>
            unfold rowsOf at hr
            split at hr
            · rename_i hq; cases hq
            · rename_i hq; cases hq
            · rename_i hq; injection hq with hq; subst hq; exact ⟨_, _, _, rfl⟩
            · cases hr
          | sl0 A c => exact ⟨_, _, _, rfl⟩
          | sl b off c sz rows x h0 hm hc hsz hF hR => exact ⟨_, _, _, rfl⟩
          | ptr => simp [rowsOf] at hr
      obtain ⟨A, len, cc, rfl⟩ := hsl
      refine ⟨_, slice3_run hu ht A len cc _ _ _ 0 0 0 hlo hhi' hmx' (by omega) (by omega) (by omega) (by omega), .leaf ?_⟩
      exact .emp _
    · cases h
  · rename_i e hu
    split at h
    · rename_i tt l hh m ht hl hhi hmx
      injection h with h1 h2; subst h1 h2
      obtain ⟨rfl, rfl, rfl, himp⟩ := hc
      obtain ⟨n, b, g⟩ := tt
      have hlo := loE_sound hρ hl
      have hhi' := hiE_sound hρ hhi
      have hmx' := hiE_sound hρ hmx
      cases hx.leaf' rfl with
      | emp A =>
        cases hmv : mx.map ρ with
        | none =>
          refine ⟨_, slice_run hu ht A 0 0 _ _ 0 0 hlo (by simpa using hhi') (by omega) (by omega) (by omega) (by omega), .leaf ?_⟩
          exact .emp _
        | some vm =>
          rw [hmv] at hmx'
          obtain ⟨km, hkm⟩ := hmx'.resolve_left (by simp)
          have hms : (mx.map ρE).isSome = true := by cases mx with | none => simp at hmv | some y => rfl
          have hhs := himp hms
          obtain ⟨kh, hkh⟩ := hhi'.resolve_left (by rintro ⟨hn, _⟩; cases hi with | none => simp at hhs | some y => simp at hn)
          rw [← hmv] at hkm ⊢
          refine ⟨_, slice3_run hu ht A 0 0 _ _ _ 0 0 0 hlo ⟨kh, hkh⟩ ⟨km, hkm⟩ (by omega) (by omega) (by omega) (by omega), .leaf ?_⟩
          exact .emp _
    · cases h
  · cases h

/-! two values of which one at least is nil -/
theorem eqp1 (d : Nat) {t e : TypeId} (hu : P.underlying t = some (.pointer e)) (b : Option Addr) : (Op.equalIn (d + 1) t (.pointer none) (.pointer b)).run P w = .ok b.isNone w := by simp [Op.equalIn, run_under hu]
theorem eqp2 (d : Nat) {t e : TypeId} (hu : P.underlying t = some (.pointer e)) (b : Addr) : (Op.equalIn (d + 1) t (.pointer (some b)) (.pointer none)).run P w = .ok false w := by simp [Op.equalIn, run_under hu]
theorem eqs1 (d : Nat) {t e : TypeId} (hu : P.underlying t = some (.slice e)) (l c : Nat) (b : Option Addr) : (Op.equalIn (d + 1) t (.slice none 0 0) (.slice b l c)).run P w = .ok b.isNone w := by simp [Op.equalIn, run_under hu]
theorem eqs2 (d : Nat) {t e : TypeId} (hu : P.underlying t = some (.slice e)) (l c : Nat) (b : Addr) : (Op.equalIn (d + 1) t (.slice (some b) l c) (.slice none 0 0)).run P w = .ok false w := by simp [Op.equalIn, run_under hu]
theorem eqm1 (d : Nat) {t e f : TypeId} (hu : P.underlying t = some (.map e f)) (b : Option Nat) : (Op.equalIn (d + 1) t (.map none) (.map b)).run P w = .ok b.isNone w := by simp [Op.equalIn, run_under hu]
theorem eqm2 (d : Nat) {t e f : TypeId} (hu : P.underlying t = some (.map e f)) (b : Nat) : (Op.equalIn (d + 1) t (.map (some b)) (.map none)).run P w = .ok false w := by simp [Op.equalIn, run_under hu]
theorem eqf1 (d : Nat) {t : TypeId} {e f : Array TypeId} {i : Bool} (hu : P.underlying t = some (.func e f i)) : (Op.equalIn (d + 1) t .nilFunc .nilFunc).run P w = .ok true w := by simp [Op.equalIn, run_under hu]
theorem eqf2 (d : Nat) {t : TypeId} {e f : Array TypeId} {i : Bool} (hu : P.underlying t = some (.func e f i)) (a : Fn) (l c : Array Value) : (Op.equalIn (d + 1) t .nilFunc (.func a l c)).run P w = .ok false w := by simp [Op.equalIn, run_under hu]
theorem eqf3 (d : Nat) {t : TypeId} {e f : Array TypeId} {i : Bool} (hu : P.underlying t = some (.func e f i)) (a : Fn) (l c : Array Value) : (Op.equalIn (d + 1) t (.func a l c) .nilFunc).run P w = .ok false w := by simp [Op.equalIn, run_under hu]
/-- What may be compared with nil. -/
inductive NilV (P : Program) (t : TypeId) : Bool → Value → Prop
  | p1 (e : TypeId) (hu : P.underlying t = some (.pointer e)) : NilV P t true (.pointer none)
  | p2 (e : TypeId) (a : Addr) (hu : P.underlying t = some (.pointer e)) : NilV P t false (.pointer (some a))
  | s1 (e : TypeId) (hu : P.underlying t = some (.slice e)) : NilV P t true (.slice none 0 0)
  | s2 (e : TypeId) (a : Addr) (l c : Nat) (hu : P.underlying t = some (.slice e)) : NilV P t false (.slice (some a) l c)
  | m1 (e f : TypeId) (hu : P.underlying t = some (.map e f)) : NilV P t true (.map none)
  | m2 (e f : TypeId) (a : Nat) (hu : P.underlying t = some (.map e f)) : NilV P t false (.map (some a))
  | f1 (e f : Array TypeId) (i : Bool) (hu : P.underlying t = some (.func e f i)) : NilV P t true .nilFunc
  | f2 (e f : Array TypeId) (i : Bool) (a : Fn) (l c : Array Value) (hu : P.underlying t = some (.func e f i)) : NilV P t false (.func a l c)
theorem nilK_v {t : TypeId} {v : Value} {z : EV} {b : Bool} (hv : VV G v z) (hz : nilK P t z = some b) : NilV P t b v := by
  unfold nilK at hz
  split at hz <;> (try (cases hz; done)) <;> (injection hz with hz; subst hz)
  · rename_i e hu; rw [hv.raw]; exact .p1 e hu
  · rename_i e cs hu
    cases hv.leaf' rfl with
    | im h => cases h; exact .p2 e _ hu
  · rename_i e k off hu
    cases hv.leaf' rfl with
    | ptr _ h => exact .p2 e _ hu
  · rename_i e hu; rw [hv.raw]; exact .s1 e hu
  · rename_i e r rs hu
    cases hv.leaf' rfl with
    | im h => cases h; exact .s2 e _ _ _ hu
  · rename_i e _ _ _ _ _ _ hu
    cases hv.leaf' rfl with
    | sl => exact .s2 e _ _ _ hu
  · rename_i e f hu; rw [hv.raw]; exact .m1 e f hu
  · rename_i e f k hu
    cases hv.leaf' rfl with
    | mp h => exact .m2 e f _ hu
  · rename_i e f i hu; rw [hv.raw]; exact .f1 e f i hu
  · rename_i e f i _ _ hu
    cases hv.leaf' rfl with
    | clo _ _ _ => exact .f2 e f i _ _ _ hu
  · rename_i e f i _ _ hu
    cases hv.leaf' rfl with
    | bnd _ _ _ => exact .f2 e f i _ _ _ hu
  · rename_i e f i _ _ _ hu; rw [hv.raw]; exact .f2 e f i _ _ _ hu
theorem nilV_eq {t : TypeId} {b c : Bool} {x y : Value} (hx : NilV P t b x) (hy : NilV P t c y) (h : b = true ∨ c = true) : (Op.equal t x y).run P w = .ok (b == c) w := by
  cases hx with
  | p1 e hu => cases hy <;> rename_i hu' <;> rw [hu] at hu' <;> first | (cases hu'; done) | exact eqp1 9999 hu _
  | p2 e a hu =>
    obtain rfl := h.resolve_left (by simp)
    cases hy <;> rename_i hu' <;> rw [hu] at hu' <;> first | (cases hu'; done) | exact eqp2 9999 hu _
  | s1 e hu => cases hy <;> rename_i hu' <;> rw [hu] at hu' <;> first | (cases hu'; done) | exact eqs1 9999 hu _ _ _
  | s2 e a l c hu =>
    obtain rfl := h.resolve_left (by simp)
    cases hy <;> rename_i hu' <;> rw [hu] at hu' <;> first | (cases hu'; done) | exact eqs2 9999 hu _ _ _
  | m1 e f hu => cases hy <;> rename_i hu' <;> rw [hu] at hu' <;> first | (cases hu'; done) | exact eqm1 9999 hu _
  | m2 e f a hu =>
    obtain rfl := h.resolve_left (by simp)
    cases hy <;> rename_i hu' <;> rw [hu] at hu' <;> first | (cases hu'; done) | exact eqm2 9999 hu _
  | f1 e f i hu => cases hy <;> rename_i hu' <;> rw [hu] at hu' <;> first | (cases hu'; done) | exact eqf1 9999 hu | exact eqf2 9999 hu _ _ _
  | f2 e f i a l c hu =>
    obtain rfl := h.resolve_left (by simp)
    cases hy <;> rename_i hu' <;> rw [hu] at hu' <;> first | (cases hu'; done) | exact eqf3 9999 hu _ _ _
theorem nilV_op {t : TypeId} {b : Bool} {x : Value} (hx : NilV P t b x) : x ≠ .nilIface ∧ (∀ c, x ≠ .agg c) := by
  cases hx <;> exact ⟨by simp, by simp⟩
theorem nilV_eql {t : TypeId} {b : Bool} {x y : Value} (hx : NilV P t b x) : binOp .eql t x y = (do pure (.bool (← Op.equal t x y))) := by
  cases hx <;> cases y <;> rfl
theorem nilV_neq {t : TypeId} {b : Bool} {x y : Value} (hx : NilV P t b x) : binOp .neq t x y = (do pure (.bool (!(← Op.equal t x y)))) := by
  cases hx <;> cases y <;> rfl
theorem eqNil_cases {t : TypeId} {x y : EV} {b : Bool} (h : eqNil P t x y = some b) : ∃ c d, nilK P t x = some c ∧ nilK P t y = some d ∧ (c = true ∨ d = true) ∧ b = (c == d) := by
  unfold eqNil at h
  split at h
  · rename_i b' h1 h2; injection h with h; subst h; exact ⟨_, _, h1, h2, .inl rfl, by simp⟩
  · rename_i h1 h2; injection h with h; subst h; exact ⟨_, _, h1, h2, .inr rfl, rfl⟩
  · cases h
theorem guard_leaf (op : BinOp) (t : TypeId) (x y : Operand) (a b : Value) (h1 : a ≠ .nilIface) (h2 : ∀ c, a ≠ .agg c) : (eqGuard op t x y a b).run P w = .ok () w := by
  unfold eqGuard
  cases a <;> first | (exact absurd rfl h1) | (exact absurd rfl (h2 _)) | (cases op <;> rfl)

theorem deleg_sound {o : Oper} {ρ : Operand → Value} {ρE : Operand → EV} {c : Prop} {d : EV} (hF : G.F.ok w) (hρ : ∀ x, VV G (ρ x) (ρE x)) (h : delegD P o ρE = .val c d) (hc : c) :
    ∃ v, (execOp ρ o).run P w = .ok (.value v) w ∧ VV G v d := by
  unfold delegD at h
  split at h
  · rename_i c' d' ho
    injection h with h1 h2
    subst h1 h2
    obtain ⟨v, hv, hr⟩ := val_sound (G := G.gh) hF (fun x => toD_sound (hρ x)) ho hc
    exact ⟨v, hv, ofD_sound hr⟩
  · cases h
end
end Go.Proofs.YtdbaklnjemcfgaaGreatDoor.E
