/- A machine that runs code on plain data, for the kernel; what it says is what the model does (ev_sound, evCall_sound). Conditions: none. -/
import Derived.Test.YtdbaklnjemcfgaaGreatDoorECode
import Derived.Test.YtdbaklnjemcfgaaGreatDoorDTac
namespace Go.Proofs.YtdbaklnjemcfgaaGreatDoor.E
open Go.RowKit Go.Proofs.YtdbaklnjemcfgaaGreatDoor.Mem Go.Proofs.YtdbaklnjemcfgaaGreatDoor.D
set_option linter.unusedVariables false
set_option linter.unusedSimpArgs false

/-! ### tables by number -/
inductive Tr (α : Type) where
  | nil
  | node (l : Tr α) (v : Option α) (r : Tr α)
  deriving Inhabited
section
variable {α : Type}
noncomputable def Tr.get (t : Tr α) : Nat → Option α :=
  Tr.rec (motive := fun _ => Nat → Option α) (fun _ => none)
    (fun _ v _ gl gr n => Nat.rec (motive := fun _ => Option α) v (fun m _ => Bool.rec (motive := fun _ => Option α) (gr (m / 2)) (gl (m / 2)) (Nat.beq (m % 2) 0)) n) t
noncomputable def Tr.kids (t : Tr α) {β : Type} (k : Tr α → Option α → Tr α → β) : β :=
  Tr.rec (motive := fun _ => β) (k .nil none .nil) (fun l v r _ _ => k l v r) t
/-- Another entry, in a table of at most so many levels. -/
noncomputable def Tr.put (β : Type) (x : Option α) (f : Nat) : Tr α → Nat → (Tr α → β) → β :=
  Nat.rec (motive := fun _ => Tr α → Nat → (Tr α → β) → β) (fun t _ k => k t)
    (fun _ ih t n k => t.kids fun l v r => Nat.rec (motive := fun _ => β) (k (.node l x r)) (fun m _ => Bool.rec (motive := fun _ => β) (ih r (m / 2) fun r' => k (.node l v r')) (ih l (m / 2) fun l' => k (.node l' v r)) (Nat.beq (m % 2) 0)) n) f
noncomputable def Tr.set (x : Option α) (f : Nat) : Tr α → Nat → Tr α :=
  Nat.rec (motive := fun _ => Tr α → Nat → Tr α) (fun t _ => t)
    (fun _ ih t n => t.kids fun l v r => Nat.rec (motive := fun _ => Tr α) (.node l x r) (fun m _ => Bool.rec (motive := fun _ => Tr α) (.node l v (ih r (m / 2))) (.node (ih l (m / 2)) v r) (Nat.beq (m % 2) 0)) n) f
theorem Tr.kids_eq (t : Tr α) {β γ : Type} (g : β → γ) (k : Tr α → Option α → Tr α → β) : t.kids (fun l v r => g (k l v r)) = g (t.kids k) := by cases t <;> rfl
theorem Tr.put_eq (β : Type) (x : Option α) : ∀ (f : Nat) (t : Tr α) (n : Nat) (k : Tr α → β), Tr.put β x f t n k = k (Tr.set x f t n) := by
  intro f
  induction f with
  | zero => intro t n k; rfl
  | succ f ih =>
    intro t n k
    have h1 : Tr.put β x (f + 1) t n k = t.kids fun l v r => Nat.rec (motive := fun _ => β) (k (.node l x r)) (fun m _ => Bool.rec (motive := fun _ => β) (Tr.put β x f r (m / 2) fun r' => k (.node l v r')) (Tr.put β x f l (m / 2) fun l' => k (.node l' v r)) (Nat.beq (m % 2) 0)) n := rfl
    have h2 : Tr.set x (f + 1) t n = t.kids fun l v r => Nat.rec (motive := fun _ => Tr α) (.node l x r) (fun m _ => Bool.rec (motive := fun _ => Tr α) (.node l v (Tr.set x f r (m / 2))) (.node (Tr.set x f l (m / 2)) v r) (Nat.beq (m % 2) 0)) n := rfl
    rw [h1, h2, ← Tr.kids_eq t k]
    congr 1
    funext l v r
    cases n with
    | zero => rfl
    | succ m =>
      have : ∀ b, Bool.rec (motive := fun _ => β) (Tr.put β x f r (m / 2) fun r' => k (.node l v r')) (Tr.put β x f l (m / 2) fun l' => k (.node l' v r)) b = k (Bool.rec (motive := fun _ => Tr α) (.node l v (Tr.set x f r (m / 2))) (.node (Tr.set x f l (m / 2)) v r) b) := fun b => by
        cases b
        · exact ih r (m / 2) _
        · exact ih l (m / 2) _
      exact this _
theorem Tr.get_nil (n : Nat) : (Tr.nil : Tr α).get n = none := rfl
theorem Tr.get_zero (l : Tr α) (v : Option α) (r : Tr α) : (Tr.node l v r).get 0 = v := rfl
theorem nb_false {a b : Nat} (h : ¬ a = b) : Nat.beq a b = false := by
  cases hb : Nat.beq a b with
  | false => rfl
  | true => exact absurd (Nat.eq_of_beq_eq_true hb) h
theorem Tr.get_succ (l : Tr α) (v : Option α) (r : Tr α) (m : Nat) : (Tr.node l v r).get (m + 1) = if m % 2 = 0 then l.get (m / 2) else r.get (m / 2) := by
  have : (Tr.node l v r).get (m + 1) = Bool.rec (motive := fun _ => Option α) (r.get (m / 2)) (l.get (m / 2)) (Nat.beq (m % 2) 0) := rfl
  rw [this]
  by_cases h : m % 2 = 0
  · rw [if_pos h, show Nat.beq (m % 2) 0 = true by simp [h]]
  · rw [if_neg h, nb_false h]
theorem Tr.kids_get (t : Tr α) (n : Nat) : t.get n = (t.kids fun l v r => Tr.node l v r).get n := by
  cases t with
  | nil =>
    show none = (Tr.node .nil none .nil).get n
    cases n with
    | zero => rfl
    | succ m => rw [Tr.get_succ]; split <;> rfl
  | node => rfl
theorem Tr.get_set (x : Option α) : ∀ (f : Nat) (t : Tr α) (n i : Nat), n + 1 < 2 ^ f → (Tr.set x f t n).get i = if i = n then x else t.get i := by
  intro f
  induction f with
  | zero => intro t n i h; simp at h
  | succ f ih =>
    intro t n i h
    rw [Tr.kids_get t i]
    have h2 : Tr.set x (f + 1) t n = t.kids fun l v r => Nat.rec (motive := fun _ => Tr α) (.node l x r) (fun m _ => Bool.rec (motive := fun _ => Tr α) (.node l v (Tr.set x f r (m / 2))) (.node (Tr.set x f l (m / 2)) v r) (Nat.beq (m % 2) 0)) n := rfl
    rw [h2]
    obtain ⟨l, v, r, hk⟩ : ∃ l v r, ∀ {β : Type} (k : Tr α → Option α → Tr α → β), t.kids k = k l v r := by
      cases t with
      | nil => exact ⟨_, _, _, fun k => rfl⟩
      | node l v r => exact ⟨_, _, _, fun k => rfl⟩
    rw [hk, hk]
    cases n with
    | zero =>
      show (Tr.node l x r).get i = _
      cases i with
      | zero => simp [Tr.get_zero]
      | succ i => simp [Tr.get_succ]
    | succ m =>
      show (Bool.rec (motive := fun _ => Tr α) (.node l v (Tr.set x f r (m / 2))) (.node (Tr.set x f l (m / 2)) v r) (Nat.beq (m % 2) 0) : Tr α).get i = _
      have hm : m / 2 + 1 < 2 ^ f := by rw [Nat.pow_succ] at h; omega
      by_cases hp : m % 2 = 0
      · rw [show Nat.beq (m % 2) 0 = true by simp [hp]]
        cases i with
        | zero => simp [Tr.get_zero]
        | succ i =>
          simp only [Tr.get_succ, ih _ _ _ hm]
          by_cases hi : i % 2 = 0
          · by_cases e : i = m
            · subst e; simp [hi]
            · have : i / 2 ≠ m / 2 := by omega
              simp [hi, this, e]
          · have : i ≠ m := by omega
            simp [hi, this]
      · rw [nb_false hp]
        cases i with
        | zero => simp [Tr.get_zero]
        | succ i =>
          simp only [Tr.get_succ, ih _ _ _ hm]
          by_cases hi : i % 2 = 0
          · have : i ≠ m := by omega
            simp [hi, this]
          · by_cases e : i = m
            · subst e; simp [hi]
            · have : i / 2 ≠ m / 2 := by omega
              simp [hi, this, e]
end

/-! ### operations -/
inductive OutB where
  | val (d : EV)
  | new (o : EO) (mk : Nat → EV)
  | look (k : Nat) (f : EO → Option EV)
  | eff (f : Tr EO → Nat → Option (EV × Tr EO × Nat))
  | call (f : FuncId) (args : List EV)
  | bad
/-- How deep a table of blocks may be. -/
abbrev deep : Nat := 24
noncomputable def setH (h : Tr EO) (k : Nat) (o : Option EO) : Tr EO := Tr.set o deep h k
def fits (k : Nat) : Bool := Nat.blt k 16000000

def condInt (op : BinOp) (b : Int) : Bool :=
  match op with
  | .quo => decide (b ≠ 0)
  | .rem => decide (b ≠ 0)
  | .shl => decide (0 ≤ b)
  | .shr => decide (0 ≤ b)
  | _ => true
/-- Whether what method D asks holds. -/
def condD (P : Program) (o : Oper) (ρ : Operand → DV) : Bool :=
  match o.op with
  | .binOp op t x y _ =>
    match ρ x, ρ y with
    | .raw (.int _ _), .raw (.int _ b) => condInt op b
    | .raw (.string a), .raw (.string b) => (match op with | .add => decide ((bs a).length + (bs b).length ≤ 9223372036854775807) | _ => true)
    | .raw (.bool _), .raw (.bool _) => (match P.underlying t with | some .bool => true | _ => false)
    | .agg _, .agg _ => isStructB P t
    | _, _ => false
  | .unOp .. => true
  | .convert .. => true
  | .slice t x lo hi none =>
    match P.underlying t, ρ x with
    | some .string, .raw (.string s) => (match loI (lo.map ρ), hiI (bs s).length (hi.map ρ) with
      | some l, some h => decide (0 ≤ l ∧ l ≤ h ∧ h ≤ (bs s).length)
      | _, _ => false)
    | _, _ => false
  | .index t x i =>
    match intOf? (ρ i), P.underlying t, ρ x with
    | some i, some .string, .raw (.string s) => decide (0 ≤ i ∧ i < (bs s).length)
    | _, _, _ => false
  | .call _ => true
  | .nilCheck _ => true
  | _ => false
theorem condD_sound {P : Program} {o : Oper} {ρ : Operand → DV} {c : Prop} {d : DV} (h : opD P o ρ = .val c d) (hc : condD P o ρ = true) : c := by
  unfold condD at hc
  split at hc <;> rename_i hop
  · rename_i op t x y yt
    simp only [opD, hop, binD] at h
    split at hc <;> rename_i hx hy <;> simp only [hx, hy] at h
    · split at h
      · rename_i k1 a k2 b hk
        unfold intD at h
        unfold condInt at hc
        split at h <;> injection h with h1 h2 <;> subst h1 <;> first | trivial | simpa using hc
      · cases h
    · unfold strD at h
      split at h <;> (try (cases h; done)) <;> injection h with h1 h2 <;> subst h1 <;> first | trivial | simpa using hc
    · split at hc
      · rename_i hu
        split at h <;> (try (cases h; done)) <;> injection h with h1 h2 <;> subst h1 <;> exact hu
      · cases hc
    · have hp := of_eq_true (ps_of hc)
      split at h
      · split at h
        · injection h with h1 h2; subst h1; exact hp
        · cases h
      · split at h
        · injection h with h1 h2; subst h1; exact hp
        · cases h
      · cases h
    · cases hc
  · simp only [opD, hop, unD] at h
    split at h <;> (try (cases h; done)) <;> injection h with h1 h2 <;> subst h1 <;> trivial
  · simp only [opD, hop, convD] at h
    split at h <;> (try (cases h; done)) <;> injection h with h1 h2 <;> subst h1 <;> trivial
  · rename_i t x lo hi
    simp only [opD, hop, sliceD] at h
    split at hc
    · rename_i s hu hx
      simp only [hu, hx, sliceS] at h
      split at hc
      · rename_i l hh hl hhh
        simp only [hl, hhh] at h
        injection h with h1 h2; subst h1
        simpa using hc
      · cases hc
    · cases hc
  · rename_i t x i
    simp only [opD, hop, indexD] at h
    split at hc
    · rename_i i' s hi hu hx
      simp only [hi, hu, hx] at h
      injection h with h1 h2; subst h1
      simpa using hc
    · cases hc
  · rename_i cl
    simp only [opD, hop] at h
    unfold callD at h
    split at h
    · split at h
      · unfold lenD at h
        repeat' (first | split at h | (cases h; done) | (injection h with h1 h2; subst h1; trivial))
      · cases h
    · exfalso
      split at h
      · unfold appendD at h
        repeat' (first | split at h | (cases h; done))
      · cases h
    · exfalso
      repeat' (first | split at h | (cases h; done))
    · cases h
  · simp only [opD, hop] at h
    repeat' (first | split at h | (cases h; done) | (injection h with h1 h2; subst h1; trivial))
  · cases hc
def delegB (P : Program) (o : Oper) (ρ : Operand → EV) : OutB :=
  match opD P o (fun x => toD (ρ x)) with
  | .val _ d => cond (condD P o (fun x => toD (ρ x))) (.val (ofD d)) .bad
  | _ => .bad
theorem delegB_sound {P : Program} {o : Oper} {ρ : Operand → EV} {b : OutB} (h : delegB P o ρ = b) : b = .bad ∨ ∃ d c, b = .val d ∧ delegD P o ρ = .val c d ∧ c := by
  unfold delegB at h
  split at h
  · rename_i c d hd
    cases hc : condD P o (fun x => toD (ρ x)) with
    | false => rw [hc] at h; exact .inl h.symm
    | true => rw [hc] at h; exact .inr ⟨_, c, h.symm, by unfold delegD; rw [hd], condD_sound hd hc⟩
  · exact .inl h.symm

/-- A condition that is decided. -/
def okB (b : Bool) (o : OutB) : OutB := cond b o .bad
def fieldB (P : Program) (t : TypeId) (x : EV) (f : Nat) : OutB :=
  match P.underlying t with
  | some (.struct fs) =>
    match fs[f]? with
    | some fd =>
      match x, tI P fd.type with
      | .agg cells, some (n, _, g) => okB (Nat.ble (fd.offset + n) cells.length && (g || n == 1)) (.val (mkE g ((cells.drop fd.offset).take n)))
      | _, _ => .bad
    | none => .bad
  | _ => .bad
def fieldAddrB (P : Program) (t : TypeId) (k off : Nat) (f : Nat) : OutB :=
  match P.underlying t with
  | some (.struct fs) =>
    match fs[f]? with
    | some fd =>
      match tI P fd.type with
      | some (n, _, _) => okB (!(n == 0)) (.val (.ptr k (off + fd.offset)))
      | _ => .bad
    | none => .bad
  | _ => .bad
def indexB (P : Program) (t : TypeId) (cells : List EV) (i : EV) : OutB :=
  match intE? i, P.underlying t with
  | some i, some (.array m e) =>
    match tI P e with
    | some (n, _, g) => okB (decide (0 ≤ i) && decide (i < m) && Nat.ble (i.toNat * n + n) cells.length && (g || n == 1)) (.val (mkE g ((cells.drop (i.toNat * n)).take n)))
    | none => .bad
  | _, _ => .bad
def indexAddrB (P : Program) (t : TypeId) (x i : EV) : OutB :=
  match intE? i, P.underlying t, x with
  | some i, some (.slice e), .sl k off len cap n ex =>
    match tI P e with
    | some (n', _, _) => okB (n' == n && decide (0 ≤ i) && decide (i < len)) (.val (.ptr k (off + i.toNat * n)))
    | none => .bad
  | some i, some (.array m e), .ptr k off =>
    match tI P e with
    | some (n, _, _) => okB (decide (0 ≤ i) && decide (i < m)) (.val (.ptr k (off + i.toNat * n)))
    | none => .bad
  | _, _, _ => .bad
def sliceB (P : Program) (t : TypeId) (k off len cap n : Nat) (ex : Bool) (lo hi mx : Option EV) : OutB :=
  match P.underlying t with
  | some (.slice e) =>
    match tI P e, loE lo, hiE len hi with
    | some (n', _, _), some l, some h =>
      match mx with
      | none => okB (n' == n && decide (0 ≤ l) && decide (l ≤ h) && decide (h ≤ cap)) (.val (.sl k (off + l.toNat * n) (h.toNat - l.toNat) (cap - l.toNat) n ex))
      | some m =>
        match hi, intE? m with
        | some _, some m => okB (n' == n && decide (0 ≤ l) && decide (l ≤ h) && decide (h ≤ m) && decide (m ≤ cap)) (.val (.sl k (off + l.toNat * n) (h.toNat - l.toNat) (m.toNat - l.toNat) n true))
        | _, _ => .bad
    | _, _, _ => .bad
  | _ => .bad
def sliceNoneB (P : Program) (t : TypeId) (x : EV) (lo hi mx : Option EV) : OutB :=
  match P.underlying t, x with
  | some (.slice e), .im d =>
    match tI P e, rowsOf d, loE lo, hi.bind intE?, mx.bind intE? with
    | some _, some _, some l, some h, some m => okB (decide (l = 0) && decide (h = 0) && decide (m = 0)) (.val .emp)
    | _, _, _, _, _ => .bad
  | some (.slice e), .emp =>
    match tI P e, loE lo, hiE 0 hi, hiE 0 mx with
    | some _, some l, some h, some m => okB (decide (l = 0) && decide (h = 0) && decide (m = 0) && (!mx.isSome || hi.isSome)) (.val .emp)
    | _, _, _, _ => .bad
  | _, _ => .bad
def binB (P : Program) (o : Oper) (ρ : Operand → EV) (op : BinOp) (t : TypeId) (x y : EV) : OutB :=
  match op with
  | .eql => match eqNil P t x y with
    | some b => .val (er (.bool b))
    | none => delegB P o ρ
  | .neq => match eqNil P t x y with
    | some b => .val (er (.bool (!b)))
    | none => delegB P o ρ
  | _ => delegB P o ρ
def buildB (P : Program) (t : TypeId) (parts : List (Nat × EV)) : OutB :=
  match buildE P t parts with
  | .val _ d => .val d
  | _ => .bad
def buildSliceB (P : Program) (t : TypeId) (len : Nat) (parts : List (Nat × EV)) : OutB :=
  match buildSliceE P t len parts with
  | .new _ o mk => .new o mk
  | _ => .bad
def makeSliceB (P : Program) (t : TypeId) (len cap : EV) : OutB :=
  match P.underlying t, intE? len, intE? cap with
  | some (.slice e), some l, some c =>
    match tI P e, zeroT P e with
    | some (n, b, _), some z => if 0 < n && 0 < b && z.cells.size == n && solid (lite z) then
        okB (decide (0 ≤ l) && decide (l ≤ c) && decide (c * b ≤ 140737488355328)) (.new (.cells (reps (lite z).cells c.toNat)) (fun k => .sl k 0 l.toNat c.toNat n true))
      else .bad
    | _, _ => .bad
  | _, _, _ => .bad
def loadB (P : Program) (t : TypeId) (k off : Nat) : OutB :=
  match tI P t with
  | some (n, _, g) => if g || n == 1 then .look k (fun o => match o with | .cells cs => cond (Nat.ble (off + n) cs.length) (some (mkE g ((cs.drop off).take n))) none | _ => none) else .bad
  | _ => .bad
/-- A value, looked at. -/
noncomputable def force {β : Type} (d : EV) (k : EV → β) : β :=
  match d with
  | .im d => k (.im d)
  | .ptr a b => k (.ptr a b)
  | .sl a b c d e f => k (.sl a b c d e f)
  | .agg l => k (.agg l)
  | d => k d
theorem force_eq {β : Type} (d : EV) (k : EV → β) : force d k = k d := by cases d <;> rfl
/-- Cells with some put anew, looked at on the way. -/
noncomputable def overF {β : Type} (new : List EV) : List EV → (List EV → β) → β :=
  List.rec (motive := fun _ => List EV → (List EV → β) → β) (fun cs k => k cs)
    (fun x xs ih cs k => List.rec (motive := fun _ => β) (k (x :: xs)) (fun _ r _ => force x fun x => ih r fun t => k (x :: t)) cs) new
noncomputable def spliceF {β : Type} (off : Nat) : List EV → List EV → (List EV → β) → β :=
  Nat.rec (motive := fun _ => List EV → List EV → (List EV → β) → β) (fun cs new k => overF new cs k)
    (fun _ ih cs new k => List.rec (motive := fun _ => β) (k new) (fun c r _ => ih r new fun t => k (c :: t)) cs) off
noncomputable def listF {β : Type} (l : List EV) : (List EV → β) → β :=
  List.rec (motive := fun _ => (List EV → β) → β) (fun k => k []) (fun x _ ih k => force x fun x => ih fun t => k (x :: t)) l
theorem overF_eq {β : Type} : ∀ (new cs : List EV) (k : List EV → β), overF new cs k = k (new ++ cs.drop new.length) := by
  intro new
  induction new with
  | nil => intro cs k; rfl
  | cons x xs ih =>
    intro cs k
    cases cs with
    | nil => show k (x :: xs) = _; simp
    | cons c r =>
      have : overF (x :: xs) (c :: r) k = force x fun x => overF xs r fun t => k (x :: t) := rfl
      rw [this, force_eq, ih]
      rfl
theorem spliceF_eq {β : Type} : ∀ (off : Nat) (cs new : List EV) (k : List EV → β), spliceF off cs new k = k (spliceE cs off new) := by
  intro off
  induction off with
  | zero =>
    intro cs new k
    have : spliceF 0 cs new k = overF new cs k := rfl
    rw [this, overF_eq]
    simp [spliceE]
  | succ off ih =>
    intro cs new k
    cases cs with
    | nil => show k new = _; simp [spliceE]
    | cons c r =>
      have : spliceF (off + 1) (c :: r) new k = spliceF off r new fun t => k (c :: t) := rfl
      rw [this, ih]
      simp [spliceE, Nat.succ_add]
theorem listF_eq {β : Type} : ∀ (l : List EV) (k : List EV → β), listF l k = k l := by
  intro l
  induction l with
  | nil => intro k; rfl
  | cons x r ih =>
    intro k
    have : listF (x :: r) k = force x fun x => listF r fun t => k (x :: t) := rfl
    rw [this, force_eq, ih]
noncomputable def storeB (P : Program) (t : TypeId) (k off : Nat) (v : EV) : OutB :=
  match tI P t with
  | some (n, _, _) => if solid v && v.cells.length == n && v.cells.all oneE then
      .eff (fun h nx => match h.get k with
        | some (.cells cs) => cond (Nat.ble (off + n) cs.length && fits k) (spliceF off cs v.cells fun cs' => Tr.put _ (some (.cells cs')) deep h k fun h' => some (er undef, h', nx)) none
        | _ => none)
    else .bad
  | _ => .bad
noncomputable def srcB (h : Tr EO) (n : Nat) (x : EV) : Option (Nat × List EV) :=
  match x with
  | .im (.raw (.slice none 0 0)) => some (0, [])
  | .emp => some (0, [])
  | .sl k off len cap n' ex => match h.get k with
    | some (.cells cs) => cond (n' == n && Nat.ble (off + len * n) cs.length) (some (len, (cs.drop off).take (len * n))) none
    | _ => none
  | _ => none
noncomputable def appB (h : Tr EO) (nx n b : Nat) (s : EV) (m : Nat) (add : List EV) : Option (EV × Tr EO × Nat) :=
  match s with
  | .sl k off len cap n' ex => match h.get k with
    | some (.cells cs) =>
      cond (n' == n && Nat.ble (off + cap * n) cs.length && Nat.ble ((len + m) * b) 140737488355328 && fits k && fits nx)
        (cond (Nat.ble (len + m) cap) (spliceF (off + len * n) cs add fun cs' => Tr.put _ (some (.cells cs')) deep h k fun h' => some (.sl k off (len + m) cap n ex, h', nx))
          (listF ((cs.drop off).take (len * n) ++ add) fun cs' => cond ex (Tr.put _ (some (.cells cs')) deep h nx fun h' => some (.sl nx 0 (len + m) (len + m) n false, h', nx + 1))
            (Tr.put _ none deep h k fun h1 => Tr.put _ (some (.cells cs')) deep h1 nx fun h' => some (.sl nx 0 (len + m) (len + m) n false, h', nx + 1))))
        none
    | _ => none
  | .emp => cond (Nat.ble (m * b) 140737488355328 && fits nx) (cond (Nat.beq m 0) (some (.emp, h, nx)) (listF add fun cs' => Tr.put _ (some (.cells cs')) deep h nx fun h' => some (.sl nx 0 m m n false, h', nx + 1))) none
  | .im (.raw (.slice none 0 0)) => cond (Nat.ble (m * b) 140737488355328 && fits nx) (cond (Nat.beq m 0) (some (er (.slice none 0 0), h, nx)) (listF add fun cs' => Tr.put _ (some (.cells cs')) deep h nx fun h' => some (.sl nx 0 m m n false, h', nx + 1))) none
  | _ => none
noncomputable def appZeroB (P : Program) (t' e : TypeId) (n b : Nat) (s x : EV) : OutB :=
  match P.underlying t', zeroT P e, intE? x with
  | some (.int _), some z, some l =>
    if 0 < n && 0 < b && z.cells.size == n && solid (lite z) && (lite z).cells.all oneE then
      .eff (fun h nx => cond (decide (0 ≤ l) && decide (l ≤ 140737488355328)) (appB h nx n b s l.toNat (reps (lite z).cells l.toNat)) none)
    else .bad
  | _, _, _ => .bad
noncomputable def appendB (P : Program) (c : Call) (s x : EV) : OutB :=
  match c.argTypes.toList with
  | [t, t'] =>
    match P.underlying t with
    | some (.slice e) =>
      match tI P e with
      | some (n, b, _) =>
        if t == t' && 0 < n && 0 < b && (zeroT P e).any (·.cells.size == n) then
          .eff (fun h nx => match srcB h n x with
            | some (m, add) => cond (add.all oneE) (appB h nx n b s m add) none
            | none => none)
        else appZeroB P t' e n b s x
      | _ => .bad
    | _ => .bad
  | _ => .bad
def lenB (P : Program) (o : Oper) (ρ : Operand → EV) (c : Call) (x : EV) : OutB :=
  match c.argTypes.toList with
  | [t] =>
    match P.underlying t, x with
    | some (.slice _), .sl _ _ len _ _ _ => .val (er (.int .i64 len))
    | some (.slice _), .emp => .val (er (.int .i64 0))
    | some (.slice _), .im (.raw (.slice none 0 0)) => .val (er (.int .i64 0))
    | some (.map _ _), .im (.raw (.map none)) => .val (er (.int .i64 0))
    | some (.map _ _), .mp k => .look k (fun o => match o with | .map es _ => some (er (.int .i64 es.length)) | _ => none)
    | _, _ => delegB P o ρ
  | _ => .bad
def mmB (mx : Bool) (x y : EV) : OutB :=
  match x, y with
  | .im (.raw (.int k a)), .im (.raw (.int _ b)) => .val (er (.int k (if mx then (if b > a then b else a) else (if b < a then b else a))))
  | _, _ => .bad
def invokeB (P : Program) (name : String) (x : EV) (args : List EV) : OutB :=
  match x with
  | .ifc t d => match methE P t name with
    | some f => .call f (d :: args)
    | none => .bad
  | _ => .bad
noncomputable def copyB (P : Program) (c : Call) (x y : EV) : OutB :=
  match c.argTypes.toList with
  | t :: _ => match P.underlying t with
    | some (.slice e) => match tI P e with
      | some (n, _, _) => match x with
        | .sl k off len _ n' _ => .eff (fun h nx => match srcB h n y with
          | some (m, add) => match h.get k with
            | some (.cells cs) => cond (n' == n && add.all oneE && Nat.ble (off + len * n) cs.length && fits k)
              (spliceF off cs (add.take (min m len * n)) fun cs' => Tr.put _ (some (.cells cs')) deep h k fun h' => some (er (.int .i64 (min m len : Nat)), h', nx)) none
            | _ => none
          | none => none)
        | _ => .bad
      | none => .bad
    | _ => .bad
  | _ => .bad
noncomputable def clearB (P : Program) (c : Call) (x : EV) : OutB :=
  match c.argTypes.toList with
  | [t] => match P.underlying t, x with
    | some (.map _ _), .mp k => .eff (fun h nx => match h.get k with
      | some (.map es clk) => cond (fits k) (Tr.put _ (some (.map [] clk)) deep h k fun h' => some (.tup [], h', nx)) none
      | _ => none)
    | some (.slice e), .sl k off len _ n _ => match tI P e, zeroT P e with
      | some (n', _, _), some z =>
        if solid (lite z) && z.cells.size == n && n' == n && (lite z).cells.all oneE then
          .eff (fun h nx => match h.get k with
            | some (.cells cs) => cond (Nat.ble (off + len * n) cs.length && fits k) (spliceF off cs (reps (lite z).cells len) fun cs' => Tr.put _ (some (.cells cs')) deep h k fun h' => some (.tup [], h', nx)) none
            | _ => none)
        else .bad
      | _, _ => .bad
    | _, _ => .bad
  | _ => .bad
def capB (P : Program) (c : Call) (x : EV) : OutB :=
  match c.argTypes.toList with
  | [t] => match P.underlying t, x with
    | some (.slice _), .sl _ _ _ cap _ true => .val (er (.int .i64 cap))
    | some (.slice _), .im (.raw (.slice none 0 0)) => .val (er (.int .i64 0))
    | some (.slice _), .emp => .val (er (.int .i64 0))
    | _, _ => .bad
  | _ => .bad
noncomputable def extCB (P : Program) (c : Call) (ρ : Operand → EV) : OutB :=
  match c.callee with
  | .invoke x name => invokeB P name (ρ x) (c.args.toList.map ρ)
  | .builtin .copy => match c.args.toList with
    | [x, y] => copyB P c (ρ x) (ρ y)
    | _ => .bad
  | .builtin .clear => match c.args.toList with
    | [x] => clearB P c (ρ x)
    | _ => .bad
  | .builtin .cap => match c.args.toList with
    | [x] => capB P c (ρ x)
    | _ => .bad
  | _ => .bad
def ifaceB (P : Program) (t : TypeId) (x : EV) : OutB :=
  match P.underlying t with
  | some (.interface _) => .bad
  | some _ => if leafE x then .val (.ifc t x) else .bad
  | none => .bad
def extB (P : Program) (o : Oper) (ρ : Operand → EV) : OutB :=
  match o.op with
  | .makeInterface t x => ifaceB P t (ρ x)
  | _ => .bad
def sliceArrB (P : Program) (t : TypeId) (k off : Nat) : OutB :=
  match P.underlying t with
  | some (.array m e) => match tI P e with
    | some (n, _, _) => .look k (fun o => match o with
      | .cells cs => cond (Nat.ble (off + m * n) cs.length && Nat.ble m maxLen) (some (.sl k off m m n true)) none
      | _ => none)
    | none => .bad
  | _ => .bad
def bytesB (P : Program) (src dst : TypeId) (k off len n : Nat) : OutB :=
  if toText P src dst && n == 1 then .look k (fun o => match o with
    | .cells cs => cond (Nat.ble (off + len) cs.length) (match bytesL ((cs.drop off).take len) with | some l => some (er (.string ⟨⟨l⟩⟩)) | none => none) none
    | _ => none) else .bad
def bytesNoneB (P : Program) (src dst : TypeId) : OutB := if toText P src dst then .val (er (.string ⟨⟨[]⟩⟩)) else .bad
noncomputable def callB (P : Program) (o : Oper) (c : Call) (ρ : Operand → EV) : OutB :=
  match c.callee with
  | .builtin .len => match c.args.toList with
    | [x] => lenB P o ρ c (ρ x)
    | _ => .bad
  | .builtin .append => match c.args.toList with
    | [s, x] => appendB P c (ρ s) (ρ x)
    | _ => .bad
  | .builtin .min => match c.args.toList with
    | [x, y] => mmB false (ρ x) (ρ y)
    | _ => .bad
  | .builtin .max => match c.args.toList with
    | [x, y] => mmB true (ρ x) (ρ y)
    | _ => .bad
  | .value f => match ρ f with
    | .im (.raw (.func (.func f) first captured)) => if first.isEmpty && captured.isEmpty then .call f (c.args.toList.map ρ) else .bad
    | .clo f caps => .call f (c.args.toList.map ρ ++ caps)
    | .bnd f first => .call f (first ++ c.args.toList.map ρ)
    | _ => .bad
  | _ => extCB P c ρ
def lookupB (P : Program) (t : TypeId) (m key : EV) (ok : Bool) : OutB :=
  match P.underlying t with
  | some (.map kt et) =>
    match zeroT P et with
    | some z =>
      if keyE P kt key then
        match m with
        | .mp k => .look k (fun o => match o with | .map es _ => (findE key es).map fun r => foundE r (lite z) ok | _ => none)
        | .im (.raw (.map none)) => .val (foundE none (lite z) ok)
        | _ => .bad
      else .bad
    | none => .bad
  | _ => .bad
noncomputable def updateB (P : Program) (t : TypeId) (m key val : EV) : OutB :=
  match P.underlying t, m with
  | some (.map kt _), .mp k =>
    if keyE P kt key then
      .eff (fun h nx => match h.get k with
        | some (.map es clk) => match putE key val clk es, findE key es with
          | some es', some r => cond (fits k) (Tr.put _ (some (.map es' (cond r.isSome clk (clk + 1)))) deep h k fun h' => some (er undef, h', nx)) none
          | _, _ => none
        | _ => none)
    else .bad
  | _, _ => .bad
noncomputable def entryB (P : Program) (t : TypeId) (m key : EV) : OutB :=
  match P.underlying t, m with
  | some (.map kt et), .mp k =>
    match zeroT P et with
    | some z =>
      if keyE P kt key then
        .eff (fun h nx => match h.get k with
          | some (.map es clk) => match findE key es with
            | some r => match putE key (r.getD (lite z, clk)).1 clk es with
              | some es' => cond (fits k) (Tr.put _ (some (.map es' (cond r.isSome clk (clk + 1)))) deep h k fun h' => some (.tup [(r.getD (lite z, clk)).1, er (.int .i64 (r.getD (lite z, clk)).2)], h', nx)) none
              | none => none
            | none => none
          | _ => none)
      else .bad
    | none => .bad
  | _, _ => .bad
noncomputable def entryStoreB (m stamp val : EV) : OutB :=
  match m, intE? stamp with
  | .mp k, some n => .eff (fun h nx => match h.get k with
    | some (.map es clk) => match stampE n.toNat val es with
      | some es' => cond (decide (0 ≤ n) && fits k) (Tr.put _ (some (.map es' clk)) deep h k fun h' => some (er undef, h', nx)) none
      | none => none
    | _ => none)
  | _, _ => .bad
def funcB (fn : Fn) (first caps : List EV) : OutB :=
  match fn, first with
  | .func f, [] => if caps.all leafE then .val (.clo f caps) else .bad
  | .func f, a :: l => if caps.isEmpty && (a :: l).all leafE then .val (.bnd f (a :: l)) else .bad
  | _, _ => .bad
noncomputable def opB (P : Program) (o : Oper) (ρ : Operand → EV) : OutB :=
  match o.op with
  | .move x | .assign x => .val (ρ x)
  | .pick c a b => match ρ c with
    | .im (.raw (.bool t)) => .val (cond t (ρ a) (ρ b))
    | _ => .bad
  | .box t x => if solid (ρ x) then .new (.cells (ρ x).cells) (fun k => .ptr k 0) else .bad
  | .alloc t => match zeroT P t with
    | some z => if solid (lite z) then .new (.cells (lite z).cells) (fun k => .ptr k 0) else .bad
    | none => .bad
  | .build t parts => buildB P t (parts.toList.map fun (i, x) => (i, ρ x))
  | .buildSlice t len parts => buildSliceB P t len (parts.toList.map fun (i, x) => (i, ρ x))
  | .makeSlice t l c => makeSliceB P t (ρ l) (ρ c)
  | .load t a => match ρ a with
    | .ptr k off => loadB P t k off
    | _ => delegB P o ρ
  | .store t a v => match ρ a with
    | .ptr k off => storeB P t k off (ρ v)
    | _ => .bad
  | .nilCheck x => match ρ x with
    | .ptr k off => .val (.ptr k off)
    | .clo f caps => .val (.clo f caps)
    | .bnd f caps => .val (.bnd f caps)
    | _ => delegB P o ρ
  | .binOp op t x y _ => binB P o ρ op t (ρ x) (ρ y)
  | .slice t x lo hi mx => match ρ x with
    | .sl k off len cap n ex => sliceB P t k off len cap n ex (lo.map ρ) (hi.map ρ) (mx.map ρ)
    | .emp => sliceNoneB P t .emp (lo.map ρ) (hi.map ρ) (mx.map ρ)
    | .ptr k off => match lo, hi, mx with
      | none, none, none => sliceArrB P t k off
      | _, _, _ => .bad
    | d => match mx with
      | none => delegB P o ρ
      | some _ => sliceNoneB P t d (lo.map ρ) (hi.map ρ) (mx.map ρ)
  | .fieldAddr t x f => match ρ x with
    | .ptr k off => fieldAddrB P t k off f
    | _ => delegB P o ρ
  | .field t x f => fieldB P t (ρ x) f
  | .indexAddr t x i => match ρ x with
    | .im _ => delegB P o ρ
    | d => indexAddrB P t d (ρ i)
  | .index t x i => match ρ x with
    | .agg cells => indexB P t cells (ρ i)
    | _ => delegB P o ρ
  | .extract x i => match ρ x with
    | .tup ds => match ds[i]? with
      | some d => .val d
      | none => .bad
    | _ => .bad
  | .call c => callB P o c ρ
  | .makeMap _ none => .new (.map [] 0) (fun k => .mp k)
  | .lookup t m k ok => lookupB P t (ρ m) (ρ k) ok
  | .mapUpdate t m k x => updateB P t (ρ m) (ρ k) (ρ x)
  | .mapEntry t m k => entryB P t (ρ m) (ρ k)
  | .entryStore _ m s x => entryStoreB (ρ m) (ρ s) (ρ x)
  | .makeFunc fn first caps => funcB fn (first.toList.map ρ) (caps.toList.map ρ)
  | .unOp .. => delegB P o ρ
  | .convert src dst x => match ρ x with
    | .sl k off len _ n _ => bytesB P src dst k off len n
    | .emp => bytesNoneB P src dst
    | .im (.raw (.slice none 0 0)) => bytesNoneB P src dst
    | _ => delegB P o ρ
  | _ => extB P o ρ

/-! ### code -/
/-- How a run ends: with a result, or stuck, and where. -/
inductive Rz (α : Type) where
  | ok (a : α)
  | bad (l : List Nat)
structure RS where
  env : Tr EV
  heap : Tr EO
  next : Nat
noncomputable def RS.at (s : RS) (t : Nat) : EV := match s.env.get t with | some d => d | none => er undef
noncomputable def RS.ev (s : RS) : Operand → EV
  | .tmp t => s.at t
  | .const v => lite v
  | .global g => er (.pointer (some ⟨g, 0, none⟩))
  | .func f => er (.func (.func f) #[] #[])
noncomputable def putS (s : RS) (dst : Option Tmp) (d : EV) : Rz RS :=
  match dst with
  | some t => cond (fits t) (force d fun d => Tr.put _ (some d) deep s.env t fun e => .ok ⟨e, s.heap, s.next⟩) (.bad [99])
  | none => .ok s
noncomputable def wantedB (ops : Array Oper) (s : RS) (o : Oper) : Option Bool :=
  match o.guard with
  | none => some true
  | some (j, want) =>
    match (ops[j]?).bind (·.dst) with
    | some t => match s.at t with
      | .im (.raw (.bool b)) => some (b == want)
      | .im (.raw _) => some false
      | _ => none
    | none => some false
abbrev CallF := FuncId → List EV → Tr EO → Nat → Rz (EV × Tr EO × Nat)
noncomputable def evOp (P : Program) (call : CallF) (ops : Array Oper) (id : Nat) (o : Oper) (s : RS) : Rz RS :=
  match wantedB ops s o with
  | none => .bad [1]
  | some false => putS s o.dst (er undef)
  | some true =>
    match opB P o s.ev with
    | .val d => putS s o.dst d
    | .new ob mk => cond (fits id) (Tr.put _ (some ob) deep s.heap id fun h => putS ⟨s.env, h, s.next⟩ o.dst (mk id)) (.bad [2])
    | .look k f => match s.heap.get k with
      | some ob => match f ob with
        | some d => putS s o.dst d
        | none => .bad [3]
      | none => .bad [4, k]
    | .eff f => match f s.heap s.next with
      | some (d, h, n) => putS ⟨s.env, h, n⟩ o.dst d
      | none => .bad [5]
    | .call f args => match call f args s.heap s.next with
      | .ok (d, h, n) => putS ⟨s.env, h, n⟩ o.dst d
      | .bad l => .bad (l ++ [1000 + f])
    | .bad => .bad [6]
noncomputable def evOps (P : Program) (call : CallF) (ops : Array Oper) (base : Nat) : List Oper → Nat → RS → Rz RS
  | [], _, s => .ok s
  | o :: l, j, s => match evOp P call ops (base + j) o s with
    | .ok s' => evOps P call ops base l (j + 1) s'
    | .bad m => .bad (m ++ [j])
/-- Of an operation by its form: 0 only yields, 1 makes memory, 2 reads it, 3 changes it. -/
def kindO : Op → Nat
  | .box .. => 1
  | .alloc .. => 1
  | .buildSlice .. => 1
  | .makeSlice .. => 1
  | .makeMap .. => 1
  | .load .. => 2
  | .slice _ _ none none none => 2
  | .convert .. => 2
  | .lookup .. => 2
  | .store .. => 3
  | .mapUpdate .. => 3
  | .mapEntry .. => 3
  | .entryStore .. => 3
  | .call c => match c.callee with
    | .builtin .len => 2
    | _ => 3
  | _ => 0
def meets (a b : Nat) : Bool := (a == 3 && b != 0 && b != 1) || (b == 3 && a != 0)
/-- The pairs that may go either way and may meet. -/
def hot (ops : Array Oper) : List (Nat × Nat) :=
  let t := ancTab ops.toList
  (List.range ops.size).flatMap fun j => (List.range j).filterMap fun i =>
    if (t.getD j 0).testBit i then none else match ops[i]?, ops[j]? with
      | some x, some y => if meets (kindO x.op) (kindO y.op) then some (i, j) else none
      | _, _ => none
def isNewO (o : Oper) : Bool := kindO o.op == 1
/-! what may go either way and meets: looked at one by one -/
def eqV0 : Value → Value → Bool
  | .int k a, .int k' b => decide (k = k') && decide (a = b)
  | .bool a, .bool b => decide (a = b)
  | .string a, .string b => decide (bs a = bs b)
  | .pointer none, .pointer none => true
  | .slice none 0 0, .slice none 0 0 => true
  | .map none, .map none => true
  | .nilFunc, .nilFunc => true
  | _, _ => false
def eqE0 : EV → EV → Bool
  | .im (.raw a), .im (.raw b) => eqV0 a b
  | .ptr k o, .ptr k' o' => k == k' && o == o'
  | .sl a b c d e f, .sl a' b' c' d' e' f' => a == a' && b == b' && c == c' && d == d' && e == e' && f == f'
  | .emp, .emp => true
  | .mp a, .mp b => a == b
  | _, _ => false
def eqE0L : List EV → List EV → Bool
  | [], [] => true
  | x :: xs, y :: ys => eqE0 x y && eqE0L xs ys
  | _, _ => false
def eqE1 : EV → EV → Bool
  | .agg xs, .agg ys => eqE0L xs ys
  | x, y => eqE0 x y
def eqEM : List (EV × EV × Nat) → List (EV × EV × Nat) → Bool
  | [], [] => true
  | (a, b, c) :: xs, (a', b', c') :: ys => eqE1 a a' && eqE1 b b' && c == c' && eqEM xs ys
  | _, _ => false
def eqO : EO → EO → Bool
  | .cells xs, .cells ys => eqE0L xs ys
  | .map xs c, .map ys c' => eqEM xs ys && c == c'
  | _, _ => false
noncomputable def sameAt (h h' : Tr EO) (n k : Nat) : Bool :=
  match h.get k, h'.get k with
  | some a, some b => Nat.blt k n && eqO a b
  | _, _ => false
inductive RecH where
  | look (k : Nat)
  | eff (h h' : Tr EO) (n : Nat)
noncomputable def evEff (call : CallF) (out : OutB) (h : Tr EO) (n : Nat) : Rz (EV × Tr EO × Nat) :=
  match out with
  | .eff f => match f h n with
    | some r => .ok r
    | none => .bad [5]
  | .call f args => match call f args h n with
    | .ok r => .ok r
    | .bad l => .bad (l ++ [1000 + f])
  | _ => .bad [6]
/-- Without those, and with them again. -/
noncomputable def dropT : List Nat → Tr EO → Tr EO
  | [], h => h
  | i :: l, h => dropT l (Tr.set none deep h i)
noncomputable def keepT (h0 : Tr EO) : List Nat → Tr EO → Tr EO
  | [], h => h
  | i :: l, h => keepT h0 l (Tr.set (h0.get i) deep h i)
/-- The new blocks, made ahead, that an operation must not look at. -/
def setAside (ops : Array Oper) (hots : List (Nat × Nat)) (base j : Nat) : List Nat :=
  hots.filterMap fun p => if p.2 == j && ((ops[p.1]?).map isNewO).getD false then some (base + p.1) else none
noncomputable def meetL (hots : List (Nat × Nat)) (j k : Nat) : List (Nat × RecH) → Bool
  | [] => true
  | (i, .look _) :: rc => meetL hots j k rc
  | (i, .eff h h' n) :: rc => (!hots.contains (i, j) || sameAt h h' n k) && meetL hots j k rc
noncomputable def meetE (hots : List (Nat × Nat)) (j : Nat) (h h' : Tr EO) (n : Nat) : List (Nat × RecH) → Bool
  | [] => true
  | (i, .look k) :: rc => (!hots.contains (i, j) || sameAt h h' n k) && meetE hots j h h' n rc
  | (i, .eff _ _ _) :: rc => !hots.contains (i, j) && meetE hots j h h' n rc
noncomputable def evHot (P : Program) (call : CallF) (ops : Array Oper) (hots : List (Nat × Nat)) (base : Nat) : List Oper → Nat → List (Nat × RecH) → RS → Rz RS
  | [], _, _, s => .ok s
  | o :: l, j, rc, s =>
    match wantedB ops s o with
    | none => .bad [1]
    | some false => match putS s o.dst (er undef) with
      | .ok s' => evHot P call ops hots base l (j + 1) rc s'
      | .bad m => .bad m
    | some true =>
      match opB P o s.ev with
      | .val d => match putS s o.dst d with
        | .ok s' => evHot P call ops hots base l (j + 1) rc s'
        | .bad m => .bad m
      | .new ob mk => cond (fits (base + j)) (match putS ⟨s.env, Tr.set (some ob) deep s.heap (base + j), s.next⟩ o.dst (mk (base + j)) with
        | .ok s' => evHot P call ops hots base l (j + 1) rc s'
        | .bad m => .bad m) (.bad [2])
      | .look k f => match s.heap.get k with
        | some ob => match f ob with
          | some d => cond (meetL hots j k rc) (match putS s o.dst d with
            | .ok s' => evHot P call ops hots base l (j + 1) ((j, .look k) :: rc) s'
            | .bad m => .bad m) (.bad [20, k])
          | none => .bad [3]
        | none => .bad [4, k]
      | .bad => .bad [6]
      | out => match evEff call out (dropT (setAside ops hots base j) s.heap) s.next with
        | .ok (d, h, n) => cond (meetE hots j (dropT (setAside ops hots base j) s.heap) h s.next rc && (setAside ops hots base j).all fun i => fits i && Nat.blt i s.next) (match putS ⟨s.env, keepT s.heap (setAside ops hots base j) h, n⟩ o.dst d with
          | .ok s' => evHot P call ops hots base l (j + 1) ((j, .eff (dropT (setAside ops hots base j) s.heap) h s.next) :: rc) s'
          | .bad m => .bad m) (.bad [21])
        | .bad m => .bad (m ++ [j])
noncomputable def evReg (P : Program) (call : CallF) (nt : Nat) (ops : Array Oper) (draw : Bool) (s : RS) : Rz RS :=
  cond (dstOk nt ops && (!draw || regOk ops))
    (cond (!draw || (hot ops).isEmpty) (evOps P call ops s.next ops.toList 0 ⟨s.env, s.heap, s.next + ops.size⟩) (evHot P call ops (hot ops) s.next ops.toList 0 [] ⟨s.env, s.heap, s.next + ops.size⟩)) (.bad [7])
noncomputable def evC (P : Program) (nt : Nat) (call : CallF) : Nat → Code → RS → Rz (Exit × RS)
  | 0, _, _ => .bad [8]
  | n + 1, c, s =>
    match c with
    | .skip => .ok (.normal, s)
    | .label _ => .ok (.normal, s)
    | .region id ops draw => match evReg P call nt ops draw s with
      | .ok s' => .ok (.normal, s')
      | .bad l => .bad (l ++ [2000 + id])
    | .seq x y => match evC P nt call n x s with
      | .ok (.normal, s') => evC P nt call n y s'
      | r => r
    | .cond c x y => match s.ev c with
      | .im (.raw (.bool t)) => cond t (evC P nt call n x s) (evC P nt call n y s)
      | _ => .bad [9]
    | .block id b => match evC P nt call n b s with
      | .ok (.exit i, s') => cond (Nat.beq i id) (.ok (.normal, s')) (.ok (.exit i, s'))
      | r => r
    | .loop b => match evC P nt call n b s with
      | .ok (.normal, s') => evC P nt call n (.loop b) s'
      | r => r
    | .exit id => .ok (.exit id, s)
    | .ret => .ok (.ret, s)
    | _ => .bad [10]
noncomputable def resB (P : Program) (s : RS) : ResultVar → Option EV
  | .tmp t => some (s.at t)
  | .cell b t => match s.at b, tI P t with
    | .ptr k off, some (n, _, g) => match s.heap.get k with
      | some (.cells cs) => cond ((g || n == 1) && Nat.ble (off + n) cs.length) (some (mkE g ((cs.drop off).take n))) none
      | _ => none
    | _, _ => none
noncomputable def resLB (P : Program) (s : RS) : List ResultVar → Option (List EV)
  | [] => some []
  | r :: l => match resB P s r, resLB P s l with
    | some d, some ds => some (d :: ds)
    | _, _ => none
/-- The slots that a call begins with. -/
noncomputable def startT : List EV → Nat → Tr EV → Tr EV
  | [], _, t => t
  | d :: l, i, t => startT l (i + 1) (Tr.set (some d) deep t i)
/-- Calls of which the answer is known. -/
abbrev LibF := FuncId → List EV → Tr EO → Nat → Option (EV × Tr EO × Nat)
noncomputable def evCall (P : Program) (lib : LibF) : Nat → CallF
  | 0, _, _, _, _ => .bad [11]
  | n + 1, f, args, h, nx =>
    match lib f args h nx with
    | some r => .ok r
    | none => match P.funcs[f]? with
    | some fn => match fn.body with
      | some c =>
        cond (!(fn.name == "runtime.NumGoroutine") && Nat.ble args.length fn.ntmps && Nat.ble args.length 1000)
          (match evC P fn.ntmps (evCall P lib n) 1000000 c ⟨startT args 0 .nil, h, nx⟩ with
          | .ok (.normal, s) => (match resLB P s fn.results.toList with | some ds => .ok (tupE ds, s.heap, s.next) | none => .bad [12])
          | .ok (.ret, s) => (match resLB P s fn.results.toList with | some ds => .ok (tupE ds, s.heap, s.next) | none => .bad [13])
          | .ok _ => .bad [14]
          | .bad l => .bad l) (.bad [15])
      | none => .bad [16]
    | none => .bad [17]
end Go.Proofs.YtdbaklnjemcfgaaGreatDoor.E
