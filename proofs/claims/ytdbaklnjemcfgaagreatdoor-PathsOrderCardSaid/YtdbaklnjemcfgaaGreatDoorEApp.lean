/- append, on memory of the call's own: in its place, or elsewhere. Conditions: none. -/
import Derived.Test.YtdbaklnjemcfgaaGreatDoorEMem
import Derived.Deep.AppendSrc
import Derived.Lib.AppendZerosOnto
namespace Go.Proofs.YtdbaklnjemcfgaaGreatDoor.E
open Go.RowKit Go.Proofs.YtdbaklnjemcfgaaGreatDoor.Mem Go.Proofs.YtdbaklnjemcfgaaGreatDoor.D
set_option linter.unusedVariables false
set_option linter.unusedSimpArgs false

section
variable {P : Program} {G G' : Gg} {w w' w0 : World} {T R : Nat → Prop} {h : Hp}

theorem upd_id {α : Type} (f : Nat → α) (k : Nat) (v : α) (hv : f k = v) : upd f k v = f := by
  funext i
  by_cases hi : i = k
  · subst hi; rw [upd_same]; exact hv.symm
  · exact upd_ne _ _ hi
theorem splice_nil (cs : List EV) (o : Nat) : spliceE cs o [] = cs := by simp [spliceE]

theorem zero_infoE {e n b : Nat} {g : Bool} (ht : tI P e = some (n, b, g)) {z : Value} (hz : zeroT P e = some z) : ∃ i, P.info? e = some i ∧ i.size = n ∧ i.bytes = b ∧ i.zero = some z := by
  obtain ⟨i, d, hi, h1, h2, _, _⟩ := tI_spec ht
  unfold zeroT at hz
  rw [hi] at hz
  exact ⟨i, hi, h1, h2, hz⟩
theorem flat_len {n : Nat} : ∀ rows : List (List DV), (∀ r ∈ rows, r.length = n) → rows.flatten.length = rows.length * n := by
  intro rows
  induction rows with
  | nil => intro _; simp
  | cons r rows ih =>
    intro hsz
    rw [List.flatten_cons, List.length_append, List.length_cons, Nat.add_mul, Nat.one_mul, ih (fun r hr => hsz r (by simp [hr])), hsz r (by simp)]
    omega
theorem flat_at {n : Nat} (hn0 : 0 < n) : ∀ (rows : List (List DV)) (j : Nat), (∀ r ∈ rows, r.length = n) → rows.flatten[j]? = (rows[j / n]?).bind (·[j % n]?) := by
  intro rows
  induction rows with
  | nil => intro j _; simp
  | cons r rows ih =>
    intro j hsz
    have hr := hsz r (by simp)
    rw [List.flatten_cons]
    by_cases hj : j < n
    · rw [List.getElem?_append_left (by omega), Nat.div_eq_of_lt hj, Nat.mod_eq_of_lt hj]; rfl
    · rw [List.getElem?_append_right (by omega), hr, ih (j - n) (fun r hr => hsz r (by simp [hr]))]
      have e1 : j / n = (j - n) / n + 1 := by rw [Nat.div_eq_sub_div hn0 (by omega)]
      have e2 : j % n = (j - n) % n := Nat.mod_eq_sub_mod (by omega)
      rw [e1, e2, List.getElem?_cons_succ]

/-- What an append adds, in the model. -/
theorem src_run (hW : WE T w0 R G h w) {n m : Nat} {x : EV} {vx : Value} {add : List EV} (hx : VV G vx x) (hs : srcE h n x m add) (h1 : ∀ u ∈ add, oneE u = true) {tx e : TypeId} (hk : P.underlying tx = some (.slice e)) :
    ∃ news, VC G news add ∧ Go.Src P n tx vx m news w ∧ ∀ q, q ≤ m → (Builtin.firstCells n q vx).run P w = .ok (news.take (q * n)).toArray w := by
  have none_case : ∀ A c, m = 0 → add = [] → vx = .slice A 0 c → ∃ news, VC G news add ∧ Go.Src P n tx vx m news w ∧ ∀ q, q ≤ m → (Builtin.firstCells n q vx).run P w = .ok (news.take (q * n)).toArray w := by
    intro A c hm ha hv
    subst hm ha hv
    refine ⟨[], VC.nil G, ?_⟩
    cases A with
    | none => exact ⟨Go.Src.ofNil w hk c, fun q hq => by rw [List.take_nil]; exact run_firstCells_none w n q 0 c⟩
    | some a => exact ⟨Go.Src.ofSlice w hk a 0 c [] (by simp) (by simp) (by simp), fun q hq => by
        obtain rfl : q = 0 := by omega
        rw [List.take_nil]
        exact run_firstCells_some w n 0 a 0 c [] (by simp) (by simp)⟩
  have some_case : ∀ b o c (vs : List Value), vx = .slice (some ⟨b, o, none⟩) m c → vs.length = m * n → VC G vs add → (∀ (j : Nat) u, vs[j]? = some u → w.cell? ⟨b, o + j, none⟩ = some u) → ∃ news, VC G news add ∧ Go.Src P n tx vx m news w ∧ ∀ q, q ≤ m → (Builtin.firstCells n q vx).run P w = .ok (news.take (q * n)).toArray w := by
    intro b o c vs hv hl hvc hcell
    subst hv
    refine ⟨vs, hvc, Go.Src.ofSlice w hk _ m c vs hl (fun j u hu => by rw [add_lit]; exact hcell j u hu) (fun u hu => ?_), fun q hq => run_firstCells_some w n q _ m c _ (by rw [List.length_take, hl]; exact Nat.min_eq_left (Nat.mul_le_mul_right _ hq)) (fun j u hu => by
      rw [add_lit]
      refine hcell j u ?_
      rw [List.getElem?_take] at hu
      split at hu
      · exact hu
      · cases hu)⟩
    obtain ⟨j, hj⟩ := List.getElem?_of_mem hu
    have hjl : j < add.length := by rw [← hvc.1]; exact (List.getElem?_eq_some_iff.1 hj).1
    exact one_soundE (hvc.2 j u _ hj (List.getElem?_eq_getElem hjl)) (h1 _ (List.getElem_mem hjl))
  unfold srcE at hs
  split at hs
  · rename_i rows
    obtain ⟨rfl, hsz, rfl⟩ := hs
    cases hx.leaf' rfl with
    | im hri =>
      by_cases h0 : rows = []
      · subst h0
        obtain ⟨A, c, hq, _⟩ := hri.slice
        exact none_case A c rfl rfl hq
      · cases hri with
        | sl0 => exact absurd rfl h0
        | sl b off c sz rows x a1 a2 a3 a4 a5 a6 =>
          obtain ⟨_, news, hl, hf⟩ := RI.lies (RI.sl (F := G.F) b off c sz rows x a1 a2 a3 a4 a5 a6) hsz
          refine some_case b off c news rfl hl.len ⟨?_, fun j u d hu hd => ?_⟩ (fun j u hu => hW.facts _ _ _ (hf j u hu))
          · rw [hl.len, List.length_map, flat_len rows hsz]
          · rw [List.getElem?_map] at hd
            have hjl : j < rows.length * n := by rw [← hl.len]; exact (List.getElem?_eq_some_iff.1 hu).1
            have hn0 : 0 < n := by rcases Nat.eq_zero_or_pos n with hz | hz; subst hz; omega; exact hz
            have hq : j / n < rows.length := (Nat.div_lt_iff_lt_mul hn0).2 hjl
            have hflat := flat_at hn0 rows j hsz
            rw [hflat, List.getElem?_eq_getElem hq] at hd
            simp only [Option.bind_some, Option.map_eq_some_iff] at hd
            obtain ⟨dd, hdd, rfl⟩ := hd
            obtain ⟨y, hy, hR⟩ := hl.at_ (j / n) _ (List.getElem?_eq_getElem hq) (j % n) dd hdd
            have ej : j / n * n + j % n = j := by rw [Nat.mul_comm]; exact Nat.div_add_mod j n
            rw [ej, hu] at hy
            injection hy with hy
            subst hy
            exact .im hR
  · obtain ⟨rfl, rfl⟩ := hs
    exact none_case none 0 rfl rfl hx.raw
  · obtain ⟨rfl, rfl⟩ := hs
    cases hx.leaf' rfl with
    | emp A => exact none_case A 0 rfl rfl rfl
  · rename_i k off len cap n' ex
    obtain ⟨rfl, cs, hkk, hl, rfl, rfl⟩ := hs
    cases hx.leaf' rfl with
    | sl _ _ _ _ _ c hp hle hcc hxx ha hm hs =>
      rename_i p a
      by_cases hc0 : c = 0
      · have hm0 : m = 0 := by omega
        subst hm0
        refine none_case _ _ rfl (by simp) rfl
      · have ha' : a = p.o + off := ha.resolve_right hc0
        subst ha'
        obtain ⟨vs, hvn, hvc, hcell⟩ := (hW.at' hkk hp).2.read off (m * n') hl
        exact some_case p.b (p.o + off) c vs rfl hvn hvc hcell
  · exact hs.elim

/-- There is room. -/
theorem run_append_room_st (t tx ty e : TypeId) (i : TypeInfo) (ht : P.underlying t = some (.slice e)) (hi : P.info? e = some i) (b off sLen sCap : Nat) (x : Value) (n : Nat) (news : List Value) (hs : Go.Src P i.size tx x n news w)
    (hroom : sLen + n ≤ sCap) (hst : (storeCells ⟨b, off + sLen * i.size, none⟩ news).run P w = .ok () w') :
    (Builtin.append_ #[t, tx] ty #[.slice (some ⟨b, off, none⟩) sLen sCap, x]).run P w = .ok (.slice (some ⟨b, off, none⟩) (sLen + n) sCap) w' := by
  rcases hs.kind with ⟨e', hk⟩ | hk <;> simp [Builtin.append_, run_underlying ht, run_underlying hk, sizeOf, typeInfo, hi, hs.len, hroom, hs.cells, Addr.add_lit, hst]
theorem run_append_zero (t tx ty e : TypeId) (i : TypeInfo) (ht : P.underlying t = some (.slice e)) (hi : P.info? e = some i) (A : Option Addr) (sLen sCap : Nat) (x : Value) (hs : Go.Src P i.size tx x 0 [] w) (hroom : sLen ≤ sCap) :
    (Builtin.append_ #[t, tx] ty #[.slice A sLen sCap, x]).run P w = .ok (.slice A sLen sCap) w := by
  rcases hs.kind with ⟨e', hk⟩ | hk <;> cases A <;> simp [Builtin.append_, run_underlying ht, run_underlying hk, sizeOf, typeInfo, hi, hs.len, hroom, hs.cells, storeCells]

/-- What an append adds, however it is told. -/
structure SrcA (P : Program) (t e : TypeId) (i : TypeInfo) (z : Value) (tx : TypeId) (x : Value) (n : Nat) (news : List Value) (w : World) : Prop where
  newsLen : news.length = n * i.size
  one : ∀ u ∈ news, u.oneCell' = true
  room : ∀ (ty : TypeId) (b off sLen sCap : Nat) (w' : World), sLen + n ≤ sCap → (storeCells ⟨b, off + sLen * i.size, none⟩ news).run P w = .ok () w' →
    (Builtin.append_ #[t, tx] ty #[.slice (some ⟨b, off, none⟩) sLen sCap, x]).run P w = .ok (.slice (some ⟨b, off, none⟩) (sLen + n) sCap) w'
  zero : n = 0 → ∀ (ty : TypeId) (A : Option Addr) (sLen sCap : Nat), sLen ≤ sCap → (Builtin.append_ #[t, tx] ty #[.slice A sLen sCap, x]).run P w = .ok (.slice A sLen sCap) w
  grow : ∀ (ty : TypeId) (base : Option Addr) (sLen sCap : Nat) (olds : List Value),
    (Builtin.firstCells i.size sLen (.slice base sLen sCap)).run P w.drew = .ok olds.toArray w.drew → sLen ≤ sCap → sCap < sLen + n → ((sLen + n : Nat) : Int) ≤ 9223372036854775807 → (sLen + n) * i.bytes ≤ 140737488355328 → Builtin.nextslicecap (sLen + n) sCap * i.bytes ≤ 281474976710656 →
    (Builtin.append_ #[t, tx] ty #[.slice base sLen sCap, x]).run P w =
      .ok (.slice (some ⟨w.heap.size, 0, none⟩) (sLen + n) (grownCap w (sLen + n) sCap e))
        (w.drew.alloc (.cells ((olds ++ news).toArray ++ Builtin.zeroCells z.cells (grownCap w (sLen + n) sCap e - (sLen + n))) e))
theorem SrcA.of {t e : TypeId} {i : TypeInfo} {z : Value} (ht : P.underlying t = some (.slice e)) (hi : P.info? e = some i) (hz : i.zero = some z) {tx : TypeId} {x : Value} {n : Nat} {news : List Value} (hs : Go.Src P i.size tx x n news w) : SrcA P t e i z tx x n news w where
  newsLen := hs.newsLen
  one := hs.one
  room := fun ty b off sLen sCap w' hr hst => run_append_room_st t tx ty e i ht hi b off sLen sCap x n news hs hr hst
  zero := fun h0 ty A sLen sCap hr => by
    subst h0
    have hnn : news = [] := List.eq_nil_of_length_eq_zero (by simpa using hs.newsLen)
    subst hnn
    exact run_append_zero t tx ty e i ht hi A sLen sCap x hs hr
  grow := fun ty base sLen sCap olds ho _ hg h63 _ hfit => run_append_grow_src w t tx ty e i z ht hi hz base sLen sCap olds ho x n news hs hg h63 hfit
theorem SrcA.ofCount {t e : TypeId} {i : TypeInfo} {z : Value} (ht : P.underlying t = some (.slice e)) (hi : P.info? e = some i) (hz : i.zero = some z) {tx : TypeId} {kn kq : IntKind} (htx : P.underlying tx = some (.int kn)) (hsz : z.cells.size = i.size) (h1 : ∀ u ∈ z.cells, u.oneCell' = true) (hs0 : 0 < i.size) (n : Nat) (hn : n ≤ 140737488355328) (hb : n * i.bytes ≤ 281474976710656) :
    SrcA P t e i z tx (.int kq n) n (Builtin.zeroCells z.cells n).toList w := by
  have hw : IntKind.i64.wrap (n : Int) = n := by rw [IntKind.wrap_i64]; omega
  have h48i : ¬ (281474976710656 < (n : Int) * (i.bytes : Int)) := by rw [← Int.natCast_mul]; omega
  have hneg : ¬ ((n : Int) < 0) := by omega
  have hw0 : IntKind.i64.wrap 0 = 0 := by rw [IntKind.wrap_i64]; omega
  refine ⟨by rw [Array.length_toList, size_zeroCells, hsz], fun u hu => ?_, fun ty b off sLen sCap w' hr hst => ?_, fun h0 ty A sLen sCap hr => ?_, fun ty base sLen sCap olds ho hle hg h63 hby hfit => ?_⟩
  · have hu' : u ∈ Builtin.zeroCells z.cells n := by simpa using hu
    unfold Builtin.zeroCells at hu'
    obtain ⟨j, hj, rfl⟩ := Array.mem_map.1 hu'
    have hj' : j < n * z.cells.size := by simpa using hj
    have hpos : 0 < z.cells.size := by omega
    have hlt : j % z.cells.size < z.cells.size := Nat.mod_lt _ hpos
    rw [getElem!_pos z.cells _ hlt]
    exact h1 _ (Array.getElem_mem hlt)
  · by_cases h0 : n = 0
    · subst h0
      have hz0 : (Builtin.zeroCells z.cells 0).toList = [] := by simp [Builtin.zeroCells]
      rw [hz0] at hst
      have hww : w' = w := by simp [storeCells] at hst; exact hst.symm
      subst hww
      simp at hr
      simp [Builtin.append_, run_underlying ht, run_underlying htx, sizeOf, typeInfo, hi, asInt, asIntOf, hw0, hr, storeCells]
    · have hns : ¬ (n * i.size = 0) := Nat.mul_ne_zero h0 (by omega)
      simp [Builtin.append_, run_underlying ht, run_underlying htx, sizeOf, typeInfo, zeroValue, hi, hz, asInt, asIntOf, hw, hneg, hns, h48i, hr, Addr.add_lit, hst]
  · subst h0
    cases A <;> simp [Builtin.append_, run_underlying ht, run_underlying htx, sizeOf, typeInfo, hi, asInt, asIntOf, hw0, hr, storeCells]
  · have := Go.Lib.run_append_grow_zeros (P := P) w t tx ty e i z kq kn ht htx hi hz base sLen sCap olds ho n (by omega) hs0 hg h63 hb hfit
    rw [this]
    congr 3
    apply Array.ext'
    simp
theorem le_one {n : Nat} {G' : Gg} (h : G.le (fun k => k = n) G') : G.le (fun k => n ≤ k ∧ k < n + 1) G' := Gg.le_mono h (fun i hi => by omega)
theorem sub_one {n : Nat} (hW : WE T w0 (fun i => R i ∧ i ≠ n) G h w) : WE T w0 (fun k => R k ∧ ¬ (n ≤ k ∧ k < n + 1)) G h w := hW.sub (fun _ _ h => h) (fun k hk => ⟨hk.1, fun e => hk.2 (by omega)⟩)

theorem app_run (hW : WE T w0 R G h w) {nx nx' : Nat} (hR : ∀ k, nx ≤ k → R k) {t tx e ty : TypeId} {i : TypeInfo} (hi : P.info? e = some i) (hn0 : 0 < i.size) (hb0 : 0 < i.bytes) {z : Value} (hi3 : i.zero = some z) (hzs : z.cells.size = i.size)
    {s d : EV} {vs vx : Value} {m : Nat} {add : List EV} {news : List Value} {h' : Hp} (hsv : VV G vs s) (hnv : VC G news add) (hsr : SrcA P t e i z tx vx m news w) (h1 : ∀ u ∈ add, oneE u = true) (ha : appE h nx i.size i.bytes s m add d h' nx') :
    ∃ v w' G', (Builtin.append_ #[t, tx] ty #[vs, vx]).run P w = .ok v w' ∧ nx ≤ nx' ∧ G.le (fun k => nx ≤ k ∧ k < nx') G' ∧ VV G' v d ∧ WE T w0 (fun k => R k ∧ ¬ (nx ≤ k ∧ k < nx')) G' h' w' ∧ w.heap.size ≤ w'.heap.size ∧
      ∀ b, b < w.heap.size → (∀ k o p, h k = some o → G.pl k = some p → p.b ≠ b) → w'.heap[b]? = w.heap[b]? := by
  have hnl : news.length = m * i.size := hsr.newsLen
  have same : ∀ {v : Value} {d : EV} , VV G v d → (Builtin.append_ #[t, tx] ty #[vs, vx]).run P w = .ok v w → ∃ v w' G', (Builtin.append_ #[t, tx] ty #[vs, vx]).run P w = .ok v w' ∧ nx ≤ nx ∧ G.le (fun k => nx ≤ k ∧ k < nx) G' ∧ VV G' v d ∧ WE T w0 (fun k => R k ∧ ¬ (nx ≤ k ∧ k < nx)) G' h w' ∧ w.heap.size ≤ w'.heap.size ∧
      ∀ b, b < w.heap.size → (∀ k o p, h k = some o → G.pl k = some p → p.b ≠ b) → w'.heap[b]? = w.heap[b]? := fun hv hr =>
    ⟨_, w, G, hr, Nat.le_refl _, Gg.le_refl _ _, hv, hW.sub (fun _ _ h => h) (fun k hk => hk.1), Nat.le_refl _, fun _ _ _ => rfl⟩
  -- a new row
  have fresh : ∀ (base : Option Addr) (len c : Nat) (olds : List Value) (old : List EV) (hh : Hp) (d : EV), VC G olds old → olds.length = len * i.size → (Builtin.firstCells i.size len (.slice base len c)).run P w.drew = .ok olds.toArray w.drew → len ≤ c → c < len + m → (len + m) * i.bytes ≤ 140737488355328 →
      vs = .slice base len c → d = .sl nx 0 (len + m) (len + m) i.size false → (∀ k o, k ≠ nx → hh k = some o → h k = some o) → hh nx = some (.cells (old ++ add)) →
      ∃ v w' G', (Builtin.append_ #[t, tx] ty #[vs, vx]).run P w = .ok v w' ∧ nx ≤ nx + 1 ∧ G.le (fun k => nx ≤ k ∧ k < nx + 1) G' ∧ VV G' v d ∧ WE T w0 (fun k => R k ∧ ¬ (nx ≤ k ∧ k < nx + 1)) G' hh w' ∧ w.heap.size ≤ w'.heap.size ∧
        ∀ b, b < w.heap.size → (∀ k o p, h k = some o → G.pl k = some p → p.b ≠ b) → w'.heap[b]? = w.heap[b]? := by
    intro base len c olds old hh d hov hol hfirst hlc hg hby hvs hd hrest hat
    subst hvs hd
    have hlen : len + m ≤ 140737488355328 := Nat.le_trans (Nat.le_mul_of_pos_right _ hb0) hby
    have hrun := hsr.grow ty base len c olds hfirst hlc hg (by omega) hby (growslice_fits (by omega) hby)
    have hge := grownCap_ge w (len + m) c e
    have hmax := grownCap_le_maxLen w (len + m) c e (by unfold maxLen; omega)
    generalize hcap : grownCap w (len + m) c e = cap' at hrun hge hmax
    have hvcn := hov.append hnv
    have hln : (olds ++ news).length = (len + m) * i.size := by rw [List.length_append, hol, hnl, Nat.add_mul]
    have hsize : ((olds ++ news).toArray ++ Builtin.zeroCells z.cells (cap' - (len + m))).size = cap' * i.size := by
      rw [Array.size_append, size_zeroCells, hzs, List.size_toArray, hln, ← Nat.add_mul]
      congr 1
      omega
    have hle2 : (len + m) * i.size ≤ cap' * i.size := Nat.mul_le_mul_right _ hge
    obtain ⟨q1, q2⟩ := hW.add (w' := w.drew.alloc (.cells ((olds ++ news).toArray ++ Builtin.zeroCells z.cells (cap' - (len + m))) e)) nx (hR nx (Nat.le_refl _)) (.cells (old ++ add)) (cap' * i.size) rfl rfl rfl (by rw [size_alloc]; exact Nat.le_succ _) (fun bb hb => heap_alloc_lt w.drew _ hb)
      ⟨_, e, heap_alloc_new w.drew _, hsize, by rw [Nat.zero_add, ← hvcn.1, hln]; exact hle2, fun j dd hd => by
        have hjl : j < (olds ++ news).length := by rw [hvcn.1]; exact (List.getElem?_eq_some_iff.1 hd).1
        refine ⟨(olds ++ news)[j], ?_, (hvcn.2 j _ dd (List.getElem?_eq_getElem hjl) hd).mono (Gg.put_le (hW.fresh nx (hR nx (Nat.le_refl _))) _)⟩
        rw [Nat.zero_add, Array.getElem?_append_left (by simpa using hjl), List.getElem?_toArray, List.getElem?_eq_getElem hjl]⟩ hh hat (fun k' o hne hk' => hrest k' o hne hk')
    refine ⟨_, _, _, hrun, Nat.le_succ _, le_one q2, .leaf ?_, sub_one q1, by rw [size_alloc]; exact Nat.le_succ _, fun bb hb _ => heap_alloc_lt w.drew _ hb⟩
    have := VL.sl (G := G.put nx ⟨w.heap.size, 0, cap' * i.size⟩) (a := 0) 0 (len + m) (len + m) i.size false cap' (k := nx) (p := ⟨w.heap.size, 0, cap' * i.size⟩) (upd_same ..) (Nat.le_refl _) hge (by simp) (.inl rfl) hmax (.inr (by simp))
    exact this
  unfold appE at ha
  split at ha
  · rename_i k off len cap n' ex
    obtain ⟨rfl, cs, hk, hl, hby, hif⟩ := ha
    cases hsv.leaf' rfl with
    | sl _ _ _ _ _ c hp hle hcc hxx haa hm hs =>
      rename_i p a
      split at hif
      · rename_i hroom
        obtain ⟨rfl, rfl, rfl⟩ := hif
        by_cases hm0 : m = 0
        · subst hm0
          have hnn : news = [] := List.eq_nil_of_length_eq_zero (by simpa using hnl)
          subst hnn
          have han : add = [] := List.eq_nil_of_length_eq_zero (by simpa using hnv.1.symm)
          subst han
          rw [splice_nil, upd_id h k _ hk]
          exact same (.leaf (.sl off (len + 0) cap _ ex c hp (by omega) hcc hxx haa hm hs)) (hsr.zero rfl ty _ len c (by omega))
        · have hc0 : c ≠ 0 := by omega
          have ha' : a = p.o + off := haa.resolve_right hc0
          subst ha'
          have hmul : len * i.size + m * i.size ≤ cap * i.size := by rw [← Nat.add_mul]; exact Nat.mul_le_mul_right _ hroom
          obtain ⟨w', hst, hWE, hoth, hsz⟩ := write_run (P := P) hW hk hp (off + len * i.size) news add hnv h1 (by rw [← hnv.1, hnl]; omega)
          rw [← Nat.add_assoc] at hst
          refine ⟨_, w', G, hsr.room ty p.b (p.o + off) len c w' (by omega) hst, Nat.le_refl _, Gg.le_refl _ _, .leaf (.sl off (len + m) cap _ ex c hp hroom hcc hxx (.inl rfl) hm hs), hWE.sub (fun _ _ h => h) (fun k hk => hk.1), by omega, fun b' hb' hne => hoth b' (fun e => hne k _ p hk hp e.symm)⟩
      · rename_i hroom
        obtain ⟨rfl, rfl, rfl⟩ := hif
        obtain ⟨olds, hon, hov, hocell⟩ := (hW.at' hk hp).2.read off (len * i.size) (by have : len * i.size ≤ cap * i.size := Nat.mul_le_mul_right _ hle; omega)
        have hfirst : ∀ w1 : World, (∀ x, w1.cell? x = w.cell? x) → (Builtin.firstCells i.size len (.slice (some ⟨p.b, a, none⟩) len c)).run P w1 = .ok olds.toArray w1 := by
          intro w1 hw1
          refine run_firstCells_some (P := P) w1 i.size len ⟨p.b, a, none⟩ len c olds hon (fun j v hj => ?_)
          rw [hw1, add_lit]
          have hc0 : c ≠ 0 := by
            intro e
            have : len = 0 := by omega
            subst this
            have := (List.getElem?_eq_some_iff.1 hj).1
            omega
          have ha' : a = p.o + off := haa.resolve_right hc0
          subst ha'
          exact hocell j v hj
        by_cases hgrow : c < len + m
        · refine fresh _ len c olds _ _ _ hov hon (hfirst w.drew (fun _ => rfl)) (by omega) hgrow hby rfl rfl (fun k' o hne hk' => ?_) (upd_same ..)
          rw [upd_ne _ _ hne] at hk'
          split at hk'
          · exact hk'
          · by_cases hkk : k' = k
            · subst hkk; rw [upd_same] at hk'; cases hk'
            · rw [upd_ne _ _ hkk] at hk'; exact hk'
        · -- in its place, beyond what was known of it
          have hexf : ex = false := by
            cases ex with
            | false => rfl
            | true => have := hxx rfl; omega
          subst hexf
          have hc0 : c ≠ 0 := by omega
          have ha' : a = p.o + off := haa.resolve_right hc0
          subst ha'
          obtain ⟨cc, tt, q1, q2, q3, q4⟩ := (hW.at' hk hp).2
          have hfit := hs.resolve_left hc0
          have hmul : (len + m) * i.size ≤ c * i.size := Nat.mul_le_mul_right _ (by omega)
          rw [Nat.add_mul] at hmul
          have hst := run_storeCells_at P p.b (p.o + off + len * i.size) tt news 0 cc w q1 (by omega) hsr.one
          simp only [Nat.add_zero, add_lit] at hst
          let new := (cc.toList.take (p.o + off + len * i.size) ++ news ++ cc.toList.drop (p.o + off + len * i.size + news.length)).toArray
          have hnewsz : new.size = p.sz := by
            simp only [new, List.size_toArray, List.length_append, List.length_take, List.length_drop, Array.length_toList]; omega
          have hoth : ∀ b', b' ≠ p.b → (w.setRow p.b new).heap[b']? = w.heap[b']? := fun b' hb' => setRow_other w p.b b' new hb'
          have hle := Gg.put_le (G := G) (hW.fresh nx (hR nx (Nat.le_refl _))) ⟨p.b, p.o + off, p.sz⟩
          have hvcn := hov.append hnv
          have hkne : k ≠ nx := fun e => by subst e; rw [hW.fresh k (hR k (Nat.le_refl _))] at hp; cases hp
          have hone := hW.one (w' := w.setRow p.b new) nx (.cells ((cs.drop off).take (len * i.size) ++ add)) ⟨p.b, p.o + off, p.sz⟩ (upd (upd h k none) nx (some (.cells ((cs.drop off).take (len * i.size) ++ add)))) hle (upd_same ..) rfl rfl rfl (by simp [World.setRow]) (fun b' _ hb' => hoth b' hb')
            (hW.at' hk hp).1 (hW.noF k _ p hk hp) ⟨new, tt, setRow_heap w p.b cc new tt (0, 0) q1, hnewsz, by
              rw [← hvcn.1, List.length_append, hon, hnl]; show p.o + off + _ ≤ p.sz; omega, fun j d hd => by
              have hjl : j < (olds ++ news).length := by rw [hvcn.1]; exact (List.getElem?_eq_some_iff.1 hd).1
              refine ⟨(olds ++ news)[j], ?_, (hvcn.2 j _ d (List.getElem?_eq_getElem hjl) hd).mono hle⟩
              show new[p.o + off + j]? = _
              have hto : (cc.toList.take (p.o + off + len * i.size)).length = p.o + off + len * i.size := by rw [List.length_take, Array.length_toList]; omega
              by_cases hj1 : j < len * i.size
              · have e1 : (olds ++ news)[j] = olds[j]'(by omega) := List.getElem_append_left (by omega)
                have e2 := hocell j _ (List.getElem?_eq_getElem (by omega))
                simp only [World.cell?, q1, Option.isSome_none, Bool.false_eq_true, if_false] at e2
                simp only [new, List.getElem?_toArray]
                rw [List.append_assoc, List.getElem?_append_left (by omega), List.getElem?_take_of_lt (by omega), Array.getElem?_toList, e2, e1]
              · have hj2 : j - len * i.size < news.length := by rw [List.length_append, hon] at hjl; omega
                have e1 : (olds ++ news)[j] = news[j - len * i.size] := by
                  rw [List.getElem_append_right (by omega)]
                  congr 1
                  omega
                simp only [new, List.getElem?_toArray]
                rw [List.append_assoc, List.getElem?_append_right (by omega), hto, List.getElem?_append_left (by omega), e1, List.getElem?_eq_getElem (by omega)]
                congr 2
                omega⟩ (fun o ho => by rw [upd_same] at ho; injection ho with ho; exact ho.symm) (fun k' o hne hk' => by
              rw [upd_ne _ _ hne] at hk'
              by_cases hkk : k' = k
              · subst hkk; rw [upd_same] at hk'; cases hk'
              · rw [upd_ne _ _ hkk] at hk'
                exact ⟨hk', fun p' hp' => hW.apart k' k o _ p' p hk' hk hkk hp' hp⟩)
          refine ⟨_, _, _, hsr.room ty p.b (p.o + off) len c _ (by omega) hst, Nat.le_succ _, le_one hle, .leaf ?_, sub_one hone, by simp [World.setRow], fun b' hb' hne => hoth b' (fun e => hne k _ p hk hp e.symm)⟩
          have := VL.sl (G := G.put nx ⟨p.b, p.o + off, p.sz⟩) (a := p.o + off) 0 (len + m) (len + m) i.size false c (k := nx) (p := ⟨p.b, p.o + off, p.sz⟩) (upd_same ..) (Nat.le_refl _) (by omega) (by simp) (.inl (by simp)) hm (.inr (by simpa using hfit))
          exact this
  · rename_i hns
    obtain ⟨hs, hby, hif⟩ := ha
    have hsl : ∃ A, vs = .slice A 0 0 := by
      rcases hs with rfl | rfl
      · cases hsv.leaf' rfl with
        | emp A => exact ⟨A, rfl⟩
      · exact ⟨none, hsv.raw⟩
    obtain ⟨A, rfl⟩ := hsl
    split at hif
    · rename_i hm0
      subst hm0
      obtain ⟨rfl, rfl, rfl⟩ := hif
      have hnn : news = [] := List.eq_nil_of_length_eq_zero (by simpa using hnl)
      subst hnn
      exact same hsv (hsr.zero rfl ty A 0 0 (Nat.le_refl _))
    · rename_i hm0
      obtain ⟨rfl, rfl, rfl⟩ := hif
      have hf0 : (Builtin.firstCells i.size 0 (.slice A 0 0)).run P w.drew = .ok ([] : List Value).toArray w.drew := by
        cases A with
        | none => exact run_firstCells_none w.drew i.size 0 0 0
        | some a => exact run_firstCells_some (P := P) w.drew i.size 0 a 0 0 [] (by simp) (by simp)
      have := fresh A 0 0 [] [] (upd h nx (some (.cells add))) (.sl nx 0 m m i.size false) (VC.nil G) (by simp) hf0 (Nat.le_refl _) (by omega) (by simpa using hby) rfl (by simp) (fun k' o hne hk' => by rw [upd_ne _ _ hne] at hk'; exact hk') (by simp [upd_same])
      exact this
end
end Go.Proofs.YtdbaklnjemcfgaaGreatDoor.E
