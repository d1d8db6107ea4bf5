/- slices.Sorted(maps.Keys(m)), for maps keyed by texts: the keys, in order, in a slice of their own; over the shelf's contracts. Conditions: none. -/
import Derived.Test.YtdbaklnjemcfgaaGreatDoorERunT
import Derived.Test.YtdbaklnjemcfgaaGreatDoorELays
namespace Go.Proofs
open Go.RowKit Go.Maps Go.Sort Go.Shelf
theorem Tryz.sortsL (m : Nat) : AnyZ.SortsIn Tryz.prog Tryz.sortedL_ren Fence.wide m :=
  ⟨fun blk off cap ss W hH hblk hsz => callsIn_wide.2 (AnyM.slices_Sort_string Tryz.sortL blk off cap ss W hH hblk hsz),
   fun p cap W => callsIn_wide.2 (AnyM.slices_Sort_string_none Tryz.sortL p cap W)⟩
theorem Tryz.mapsKeys (mb : Option Nat) (W : World) : CallsIn Fence.wide 5 Tryz.prog 64 #[.map mb] W fun e w' => e = .returned (.func (.func 90) #[] #[.pointer (some ⟨W.heap.size, 0, none⟩)]) ∧ w' = W.alloc (.cells #[.map mb] 122) :=
  AnyZ.keys_in Tryz.keysL Fence.wide 5 trivial rfl mb W
set_option maxHeartbeats 1000000 in
theorem Tryz.sortedKeys {H : Type} (r b nn : Nat) (D0 : DataW H) (R : Value → Option (DataW H × List MemPlace)) (w : World) (hr : r < w.heap.size) (hc : w.cell? ⟨r, 0, none⟩ = some (.map (some b))) (hown : w.ownsMap Tryz.prog 9 R b nn D0) (hmax : Maps.size D0 ≤ maxLen) (hbytes : Maps.size D0 * 16 ≤ 140737488355328) :
    CallsIn Fence.wide 5 Tryz.prog 63 #[.func (.func 90) #[] #[.pointer (some ⟨r, 0, none⟩)]] w fun e w' => ∃ (v : Value) (ss : List (List UInt8)), e = .returned v ∧ ss.Perm (strKeys D0) ∧
      w'.ownsRow w.heap.size 9 1 v ss.length ((ss.mergeSort (fun x y => decide (x ≤ y))).map encStr) ∧ (v = .slice none 0 0 ↔ ss = []) ∧ Below w.heap.size w w' := by
  have hseq : SeqGives Fence.wide 2 Tryz.prog 90 #[.pointer (some ⟨r, 0, none⟩)] encStr (fun ss => ss.Perm (strKeys D0)) (Maps.size D0) w :=
    AnyZ.keys_gives (ρ := Tryz.keysL_ren) { Tryz.keysL with } Fence.wide _ trivial rfl (by omega) r b nn D0 _ hr hc hown
  exact AnyZ.sorted_in Tryz.sortedL Fence.wide 5 trivial trivial trivial trivial rfl (by omega) (Tryz.sortsL _) (enters_of Tryz.func89 (by kernel_rfl) rfl) 90 #[.pointer (some ⟨r, 0, none⟩)] trivial (enters_of Tryz.func90 (by kernel_rfl) rfl) _ _ hmax hbytes _ hseq
end Go.Proofs
namespace Go.Proofs.YtdbaklnjemcfgaaGreatDoor.E
open Go.RowKit Go.Proofs.YtdbaklnjemcfgaaGreatDoor.Mem Go.Proofs.YtdbaklnjemcfgaaGreatDoor.D
set_option linter.unusedVariables false
set_option linter.unusedSimpArgs false

/-- Texts in order. -/
def leK (x y : List UInt8) : Bool := decide (x ≤ y)
def insK (x : List UInt8) : List (List UInt8) → List (List UInt8)
  | [] => [x]
  | y :: r => if leK x y then x :: y :: r else y :: insK x r
def sortK : List (List UInt8) → List (List UInt8)
  | [] => []
  | x :: l => insK x (sortK l)
theorem insK_perm (x : List UInt8) : ∀ l, (insK x l).Perm (x :: l) := by
  intro l
  induction l with
  | nil => exact List.Perm.refl _
  | cons y r ih =>
    simp only [insK]
    split
    · exact List.Perm.refl _
    · exact (List.Perm.cons y ih).trans (List.Perm.swap x y r)
theorem sortK_perm : ∀ l, (sortK l).Perm l := by
  intro l
  induction l with
  | nil => exact List.Perm.refl _
  | cons x l ih => exact (insK_perm x _).trans (List.Perm.cons x ih)
theorem leK_tr (a b c : List UInt8) (h1 : leK a b = true) (h2 : leK b c = true) : leK a c = true := by
  simp only [leK, decide_eq_true_eq] at *; exact List.le_trans h1 h2
theorem leK_to (a b : List UInt8) : (leK a b || leK b a) = true := by
  simp only [leK, Bool.or_eq_true, decide_eq_true_eq]; exact List.le_total a b
theorem insK_sorted (x : List UInt8) : ∀ l, l.Pairwise (fun a b => leK a b = true) → (insK x l).Pairwise (fun a b => leK a b = true) := by
  intro l
  induction l with
  | nil => intro _; exact List.pairwise_singleton _ _
  | cons y r ih =>
    intro h
    obtain ⟨h1, h2⟩ := List.pairwise_cons.1 h
    simp only [insK]
    split
    · rename_i hxy
      exact List.pairwise_cons.2 ⟨fun z hz => by rcases List.mem_cons.1 hz with e | e; exact e ▸ hxy; exact leK_tr _ _ _ hxy (h1 z e), h⟩
    · rename_i hxy
      have hyx : leK y x = true := by
        have := leK_to x y
        rw [Bool.or_eq_true] at this
        exact this.resolve_left hxy
      exact List.pairwise_cons.2 ⟨fun z hz => by
        rcases List.mem_cons.1 ((insK_perm x r).mem_iff.1 hz) with e | e
        · exact e ▸ hyx
        · exact h1 z e, ih h2⟩
theorem sortK_sorted : ∀ l, (sortK l).Pairwise (fun a b => leK a b = true) := by
  intro l
  induction l with
  | nil => exact List.Pairwise.nil
  | cons x l ih => exact insK_sorted x _ ih
theorem sortK_eq (l l' : List (List UInt8)) (h : l'.Perm l) : l'.mergeSort (fun x y => decide (x ≤ y)) = sortK l := by
  refine List.Perm.eq_of_pairwise (le := fun a b => leK a b = true) (fun a b _ _ h1 h2 => ?_) (List.pairwise_mergeSort leK_tr leK_to l') (sortK_sorted l) ((List.mergeSort_perm l' _).trans (h.trans (sortK_perm l).symm))
  simp only [leK, decide_eq_true_eq] at h1 h2
  exact List.le_antisymm h1 h2

/-- The texts of a map's keys. -/
def keyTexts : List (EV × EV × Nat) → Option (List (List UInt8))
  | [] => some []
  | (.im (.raw (.string s)), _, _) :: l => (keyTexts l).map (bs s :: ·)
  | _ => none
def nodupN : List Nat → Bool
  | [] => true
  | x :: l => !l.contains x && nodupN l
def nodupB : List (List UInt8) → Bool
  | [] => true
  | x :: l => !l.contains x && nodupB l
theorem nodupN_nd : ∀ l, nodupN l = true → l.Nodup := by
  intro l
  induction l with
  | nil => intro _; exact List.nodup_nil
  | cons x l ih => intro h; simp only [nodupN, Bool.and_eq_true, Bool.not_eq_true', List.contains_eq_mem, decide_eq_false_iff_not] at h; exact List.nodup_cons.2 ⟨h.1, ih h.2⟩
theorem nodupB_nd : ∀ l, nodupB l = true → l.Nodup := by
  intro l
  induction l with
  | nil => intro _; exact List.nodup_nil
  | cons x l ih => intro h; simp only [nodupB, Bool.and_eq_true, Bool.not_eq_true', List.contains_eq_mem, decide_eq_false_iff_not] at h; exact List.nodup_cons.2 ⟨h.1, ih h.2⟩
/-- A map whose keys are texts, each once, none too long. -/
def tidy (es : List (EV × EV × Nat)) (clk : Nat) (ks : List (List UInt8)) : Bool :=
  nodupN (es.map (·.2.2)) && es.all (fun x => Nat.blt x.2.2 clk) && nodupB ks && ks.all (fun k => Nat.ble k.length 140737488355328) && Nat.ble (ks.length * 16) 140737488355328
theorem keyTexts_at : ∀ (es : List (EV × EV × Nat)) (ks : List (List UInt8)), keyTexts es = some ks → ks.length = es.length ∧ ∀ (j : Nat) x k, es[j]? = some x → ks[j]? = some k → x.1 = er (str k) := by
  intro es
  induction es with
  | nil => intro ks h; simp [keyTexts] at h; subst h; exact ⟨rfl, by simp⟩
  | cons x es ih =>
    intro ks h
    unfold keyTexts at h
    split at h
    · rename_i hq; cases hq
    · rename_i s v n l hq
      injection hq with h1 h2
      subst h1 h2
      cases hk : keyTexts es with
      | none => rw [hk] at h; cases h
      | some ks' =>
        rw [hk] at h
        simp at h
        subst h
        obtain ⟨q1, q2⟩ := ih ks' hk
        refine ⟨by simp [q1], fun j y k hy hkk => ?_⟩
        cases j with
        | zero => simp at hy hkk; subst hy hkk; simp [er, str, bs]
        | succ j => exact q2 j y k (by simpa using hy) (by simpa using hkk)
    · cases h

section
variable {G : Gg} {w w0 : World} {T R : Nat → Prop} {h : Hp}
theorem str_bs (k : List UInt8) : Value.string ⟨k.toArray⟩ = str k := rfl
/-- maps.Keys. -/
theorem keys_call (km : Nat) (h : Hp) (n : Nat) : CallE Tryz.prog 64 [.mp km] h n (.clo 90 [.ptr n 0]) (upd h n (some (.box0 (.mp km)))) (n + 1) := by
  refine ⟨Nat.le_succ _, ⟨_, Tryz.func64, by kernel_rfl, rfl⟩, fun T w0 R G w vs hW hR hn hv => ?_⟩
  obtain ⟨v, rfl⟩ : ∃ v, vs = #[v] := by
    match vs, hn with
    | ⟨[v]⟩, _ => exact ⟨v, rfl⟩
  have hvv := hv 0 v _ rfl rfl
  cases hvv.leaf' rfl with
  | mp hp =>
    rename_i p
    refine (callsIn_wide.1 (Tryz.mapsKeys (some p.b) w)).mono ?_
    rintro e w' ⟨rfl, rfl⟩
    have hle := Gg.put_le (hW.fresh n (hR n (Nat.le_refl _))) ⟨w.heap.size, 0, 1⟩
    obtain ⟨q1, q2⟩ := hW.add (w' := w.alloc (.cells #[.map (some p.b)] 122)) n (hR n (Nat.le_refl _)) (.box0 (.mp km)) 1 rfl rfl rfl (by rw [size_alloc]; exact Nat.le_succ _) (fun b hb => heap_alloc_lt w _ hb)
      ⟨rfl, .map (some p.b), 122, heap_alloc_new w _, (VL.mp hp).mono hle⟩ (upd h n (some (.box0 (.mp km)))) (upd_same ..) (fun k' o hne hk' => by rw [upd_ne _ _ hne] at hk'; exact hk')
    refine ⟨_, _, rfl, le_one q2, .leaf (.clo _ rfl fun j x d hx hd => ?_), sub_one q1⟩
    match j with
    | 0 =>
      simp at hx hd
      subst hx hd
      exact VL.ptr (G := G.put n ⟨w.heap.size, 0, 1⟩) (p := ⟨w.heap.size, 0, 1⟩) 0 (Gg.put_at ..)
    | j + 1 => simp at hx
/-- slices.Sorted, of a map's keys. -/
theorem sorted_call (kb km : Nat) (h : Hp) (n : Nat) (es : List (EV × EV × Nat)) (clk : Nat) (ks : List (List UInt8)) (hb : h kb = some (.box0 (.mp km))) (hm : h km = some (.map es clk)) (hk : keyTexts es = some ks) (ht : tidy es clk ks = true) (h0 : ks ≠ []) :
    CallE Tryz.prog 63 [.clo 90 [.ptr kb 0]] h n (.sl n 0 ks.length ks.length 1 false) (upd h n (some (.cells ((sortK ks).map fun k => er (str k))))) (n + 1) := by
  refine ⟨Nat.le_succ _, ⟨_, Tryz.func63, by kernel_rfl, rfl⟩, fun T w0 R G w vs hW hR hn hv => ?_⟩
  simp only [tidy, Bool.and_eq_true] at ht
  obtain ⟨⟨⟨⟨t1, t2⟩, t3⟩, t4⟩, t5⟩ := ht
  obtain ⟨v, rfl⟩ : ∃ v, vs = #[v] := by
    match vs, hn with
    | ⟨[v]⟩, _ => exact ⟨v, rfl⟩
  have hvv := hv 0 v _ rfl rfl
  cases hvv.leaf' rfl with
  | clo _ hcn hcs =>
    rename_i cs
    obtain ⟨c, rfl⟩ : ∃ c, cs = #[c] := by
      match cs, hcn with
      | ⟨[c]⟩, _ => exact ⟨c, rfl⟩
    have hc := hcs 0 c _ rfl rfl
    cases hc with
    | ptr _ hp =>
      rename_i p
      obtain ⟨hp0, cc, tt, hh, hcc⟩ := (hW.at' hb hp).2
      cases hcc with
      | mp hpm =>
        rename_i pm
        obtain ⟨_, ents, hmh, hE⟩ := (hW.at' hm hpm).2.ents
        obtain ⟨kl, kat⟩ := keyTexts_at es ks hk
        have hkey : ∀ (j : Nat) e, ents[j]? = some e → ∃ k, ks[j]? = some k ∧ e.key = str k ∧ ∃ x, es[j]? = some x ∧ e.born = x.2.2 := by
          intro j e he
          have hj : j < es.length := by rw [← hE.1, Array.length_toList]; exact (Array.getElem?_eq_some_iff.1 he).1
          have hx := List.getElem?_eq_getElem hj
          have hkk := List.getElem?_eq_getElem (show j < ks.length by omega)
          obtain ⟨e1, _, e3⟩ := hE.2 j e _ (by rw [Array.getElem?_toList]; exact he) hx
          rw [kat j _ _ hx hkk] at e1
          exact ⟨_, hkk, e1.raw, _, hx, e3⟩
        have hke : ents.toList.map (·.key) = ks.map str := by
          apply List.ext_getElem?
          intro j
          rw [List.getElem?_map, List.getElem?_map, Array.getElem?_toList]
          cases he : ents[j]? with
          | none =>
            have : ents.size ≤ j := by simpa using he
            have h2 : ks.length = ents.size := by rw [kl, ← hE.1, Array.length_toList]
            rw [List.getElem?_eq_none (by omega)]; rfl
          | some e => obtain ⟨k, q1, q2, _⟩ := hkey j e he; rw [q1]; simp [q2]
        have hbo : ents.toList.map (·.born) = es.map (·.2.2) := by
          apply List.ext_getElem?
          intro j
          rw [List.getElem?_map, List.getElem?_map, Array.getElem?_toList]
          cases he : ents[j]? with
          | none =>
            have : ents.size ≤ j := by simpa using he
            have h2 : es.length = ents.size := by rw [← hE.1, Array.length_toList]
            rw [List.getElem?_eq_none (by omega)]; rfl
          | some e => obtain ⟨k, _, _, x, q1, q2⟩ := hkey j e he; rw [q1]; simp [q2]
        have hlen : ∀ k ∈ ks, k.length ≤ maxLen := fun k hk' => by
          have := Nat.le_of_ble_eq_true (List.all_eq_true.1 t4 k hk')
          unfold maxLen; omega
        have hinj : Function.Injective str := fun a b hab => by injection hab with hab; injection hab with hab; injection hab
        have hknd : (ks.map str).Nodup := by
          have := nodupB_nd ks t3
          rw [List.nodup_iff_pairwise_ne] at this ⊢
          exact List.pairwise_map.2 (this.imp fun hne e => hne (hinj e))
        let RR : Value → Option (DataW Nat × List MemPlace) := fun _ => some (.nil, [])
        have hstamp : MapKept.Stamped ents clk := by
          refine ⟨fun x hx => ?_, by rw [hbo]; exact nodupN_nd _ t1, by rw [hke]; exact hknd⟩
          obtain ⟨j, hj⟩ := List.getElem?_of_mem hx
          obtain ⟨_, _, _, y, q1, q2⟩ := hkey j x (by rw [← Array.getElem?_toList]; exact hj)
          rw [q2]
          exact Nat.le_of_ble_eq_true (List.all_eq_true.1 t2 y (List.mem_of_getElem? q1))
        have hrd : ∀ x ∈ ents.toList, ∃ k, k ∈ ks ∧ WideElems.rd Tryz.prog 9 RR x = some (.string k, .nil) := by
          intro x hx
          obtain ⟨j, hj⟩ := List.getElem?_of_mem hx
          obtain ⟨k, q1, q2, _⟩ := hkey j x (by rw [← Array.getElem?_toList]; exact hj)
          have hkm := List.mem_of_getElem? q1
          refine ⟨k, hkm, ?_⟩
          have hsz : (⟨k.toArray⟩ : ByteArray).size ≤ maxLen := by have := hlen k hkm; simpa [ByteArray.size] using this
          have hko : keyOf Tryz.prog 9 x.key = some (.string k) := by
            rw [q2]
            simp [keyOf, Tryz.underlying9, mapKey, str, hsz]
          unfold WideElems.rd
          rw [hko]
          rfl
        have hfit : WideElems.Fit Tryz.prog 9 RR ents clk := by
          refine ⟨?_, hstamp, fun x hx => by obtain ⟨k, _, q⟩ := hrd x hx; exact ⟨_, q⟩⟩
          have h2 : ks.length = ents.size := by rw [kl, ← hE.1, Array.length_toList]
          have := Nat.le_of_ble_eq_true t5
          unfold maxLen; omega
        have hrg : ents.toList.map (WideElems.rg Tryz.prog 9 RR) = ks.map fun k => (Lit.string k, DataW.nil) := by
          apply List.ext_getElem?
          intro j
          rw [List.getElem?_map, List.getElem?_map, Array.getElem?_toList]
          cases he : ents[j]? with
          | none =>
            have : ents.size ≤ j := by simpa using he
            have h2 : ks.length = ents.size := by rw [kl, ← hE.1, Array.length_toList]
            rw [List.getElem?_eq_none (by omega)]; rfl
          | some e =>
            obtain ⟨k, q1, q2, _⟩ := hkey j e he
            rw [q1]
            have hkm := List.mem_of_getElem? q1
            have hsz : (⟨k.toArray⟩ : ByteArray).size ≤ maxLen := by have := hlen k hkm; simpa [ByteArray.size] using this
            simp [WideElems.rg, WideElems.rd, q2, keyOf, Tryz.underlying9, mapKey, str, hsz, RR]
        have hown : w.ownsMap Tryz.prog 9 RR pm.b ents.size (.map ((ks.map fun k => (Lit.string k, (DataW.nil : DataW Nat))).foldr DataW.insert [])) := ⟨ents, clk, hmh, hfit, Nat.le_refl _, by rw [hrg]⟩
        have hperm := WideShapes.sorted_perm (ks.map fun k => (Lit.string k, (DataW.nil : DataW Nat)))
        have hsize : Maps.size (.map ((ks.map fun k => (Lit.string k, (DataW.nil : DataW Nat))).foldr DataW.insert [])) = ks.length := by
          show List.length _ = _
          rw [hperm.length_eq, List.length_map]
        have hkeys : (strKeys (.map ((ks.map fun k => (Lit.string k, (DataW.nil : DataW Nat))).foldr DataW.insert []))).Perm ks := by
          have := hperm.map (fun p => strOf p.1)
          rw [List.map_map] at this
          have e : ks.map ((fun p : Lit × DataW Nat => strOf p.1) ∘ fun k => (Lit.string k, DataW.nil)) = ks := (List.map_congr_left (fun k _ => rfl)).trans (List.map_id _)
          rw [e] at this
          exact this
        have hb5 := Nat.le_of_ble_eq_true t5
        have hcell : w.cell? ⟨p.b, 0, none⟩ = some (.map (some pm.b)) := by simp [World.cell?, hh]
        have hcall := Tryz.sortedKeys p.b pm.b ents.size _ RR w (hW.lt hb hp) hcell hown (by rw [hsize]; unfold maxLen; omega) (by rw [hsize]; exact hb5)
        have hpo : p.o + 0 = 0 := by omega
        rw [hpo]
        refine (callsIn_wide.1 hcall).mono ?_
        rintro e w' ⟨v, ss, rfl, hS, hrow, hnil, hbel⟩
        have hSk := hS.trans hkeys
        have hsl : ss.length = ks.length := hSk.length_eq
        have hss : ss ≠ [] := fun e => h0 (by rw [e] at hsl; exact List.eq_nil_of_length_eq_zero hsl.symm)
        rcases hrow.2 with ⟨rfl, _⟩ | ⟨gb, cap, cur, rfl, hbase, hgb, r1, r2, r3, r4⟩
        · exact absurd (hnil.1 rfl) hss
        · have hlt : gb < w'.heap.size := lt_of_heap hgb
          rw [sortK_eq ks ss hSk] at r4
          have hle := Gg.put_le (hW.fresh n (hR n (Nat.le_refl _))) ⟨gb, 0, cap⟩
          have hcsz : cur.size = cap := by simpa using r3
          have hone := hW.one (w' := w') n (.cells ((sortK ks).map fun k => er (str k))) ⟨gb, 0, cap⟩ (upd h n (some (.cells ((sortK ks).map fun k => er (str k))))) hle (Gg.put_at ..) hbel.os hbel.tape hbel.output hbel.size (fun b hb' _ => hbel.block b hb') (.inr (Nat.le_trans hW.chg.size hbase))
            (fun off x hx => by have := Facts.lt hW.facts hx; simp at this; omega) ⟨cur, _, hgb, hcsz, by
              show 0 + _ ≤ cap
              rw [List.length_map, (sortK_perm ks).length_eq]; omega, fun j d hd => by
              rw [List.getElem?_map] at hd
              cases hq : (sortK ks)[j]? with
              | none => rw [hq] at hd; cases hd
              | some k =>
                rw [hq] at hd
                simp at hd
                subst hd
                refine ⟨str k, ?_, VL.er rfl⟩
                show cur[0 + j]? = _
                have hjl : j < ss.length * 1 := by
                  have := (List.getElem?_eq_some_iff.1 hq).1
                  rw [(sortK_perm ks).length_eq] at this
                  omega
                have e1 : (cur.toList.take (ss.length * 1))[j]? = ((sortK ks).map Go.Proofs.encStr)[j]? := by rw [r4]
                rw [List.getElem?_take_of_lt hjl, List.getElem?_map, hq, Array.getElem?_toList] at e1
                rw [Nat.zero_add]
                exact e1⟩ (fun o ho => by rw [upd_same] at ho; injection ho with ho; exact ho.symm) (fun k' o hne hk' => by
              rw [upd_ne _ _ hne] at hk'
              exact ⟨hk', fun p' hp' => by have := hW.lt hk' hp'; show p'.b ≠ gb; omega⟩)
          refine ⟨_, _, rfl, le_one hle, .leaf ?_, sub_one hone⟩
          rw [hsl]
          exact VL.sl (G := G.put n ⟨gb, 0, cap⟩) (a := 0) 0 ks.length ks.length 1 false cap (k := n) (p := ⟨gb, 0, cap⟩) (Gg.put_at ..) (Nat.le_refl _) (by omega) (by simp) (.inl rfl) r2 (.inr (by show 0 + 0 + cap * 1 ≤ cap; omega))
end

/-- Calls of which the answer is known. -/
noncomputable def libS : LibF := fun f args h n =>
  cond (Nat.beq f 64)
    (match args with
    | [.mp km] => cond (fits n) (some (.clo 90 [.ptr n 0], Tr.set (some (.box0 (.mp km))) deep h n, n + 1)) none
    | _ => none)
    (cond (Nat.beq f 63)
      (match args with
      | [.clo g [.ptr kb 0]] => match h.get kb with
        | some (.box0 (.mp km)) => match h.get km with
          | some (.map es clk) => match keyTexts es with
            | some ks => cond (Nat.beq g 90 && tidy es clk ks && !ks.isEmpty && fits n) (some (.sl n 0 ks.length ks.length 1 false, Tr.set (some (.cells ((sortK ks).map fun k => er (str k)))) deep h n, n + 1)) none
            | none => none
          | _ => none
        | _ => none
      | _ => none) none)
theorem libS_ok : LibOk Tryz.prog libS := by
  intro f args h n d h' n' he
  unfold libS at he
  cases hf : Nat.beq f 64 with
  | true =>
    have := Nat.eq_of_beq_eq_true hf
    subst this
    rw [hf] at he
    simp only [cond_true] at he
    split at he
    · rename_i km
      cases hn : fits n with
      | false => rw [hn] at he; cases he
      | true =>
        rw [hn] at he
        simp only [cond_true, Option.some.injEq, Prod.mk.injEq] at he
        obtain ⟨rfl, rfl, rfl⟩ := he
        refine ⟨?_, dom_set hn _ (.inr ⟨Nat.le_refl _, Nat.lt_succ_self _⟩)⟩
        rw [absH_set hn]
        exact keys_call km (absH h) n
    · cases he
  | false =>
    rw [hf] at he
    simp only [cond_false] at he
    cases hf2 : Nat.beq f 63 with
    | false => rw [hf2] at he; cases he
    | true =>
      have := Nat.eq_of_beq_eq_true hf2
      subst this
      rw [hf2] at he
      simp only [cond_true] at he
      split at he
      · rename_i g kb
        split at he
        · rename_i km hb
          split at he
          · rename_i es clk hm
            split at he
            · rename_i ks hk
              cases hc : (Nat.beq g 90 && tidy es clk ks && !ks.isEmpty && fits n) with
              | false => rw [hc] at he; cases he
              | true =>
                rw [hc] at he
                simp only [cond_true, Option.some.injEq, Prod.mk.injEq] at he
                obtain ⟨rfl, rfl, rfl⟩ := he
                simp only [Bool.and_eq_true, Bool.not_eq_true', List.isEmpty_eq_false_iff] at hc
                obtain ⟨⟨⟨c1, c2⟩, c3⟩, c4⟩ := hc
                have := Nat.eq_of_beq_eq_true c1
                subst this
                refine ⟨?_, dom_set c4 _ (.inr ⟨Nat.le_refl _, Nat.lt_succ_self _⟩)⟩
                rw [absH_set c4]
                exact sorted_call kb km (absH h) n es clk ks hb hm hk c2 c3
            · cases he
          · cases he
        · cases he
      · cases he
end Go.Proofs.YtdbaklnjemcfgaaGreatDoor.E
