/- Rules for proofs about code on plain data. Conditions: none. -/
import Derived.Test.YtdbaklnjemcfgaaGreatDoorDCode
import Derived.IntWalk
namespace Go.Proofs.YtdbaklnjemcfgaaGreatDoor.D
open Go.RowKit Go.Proofs.YtdbaklnjemcfgaaGreatDoor.Mem
set_option linter.unusedVariables false
set_option linter.unusedSimpArgs false

/-- What comes behind, out of sight. -/
structure Imp (A K : St → Prop) : Prop where
  go : ∀ s, A s → K s
theorem Imp.refl (A : St → Prop) : Imp A A := ⟨fun _ h => h⟩

section
variable {P : Program} {s : St} {nt : Nat} {Q : Exit → St → Prop}

theorem d_assoc {x y z : Code} (h : wpD P nt (.seq x (.seq y z)) Q s) : wpD P nt (.seq (.seq x y) z) Q s := by
  show wpD P nt x (thenD (wpD P nt y (thenD (wpD P nt z Q) Q)) (thenD (wpD P nt z Q) Q)) s
  refine wpD_mono (fun e s hs => ?_) (show wpD P nt x (thenD (wpD P nt y (thenD (wpD P nt z Q) Q)) Q) s from h)
  cases e <;> exact hs
theorem d_reg {id : Nat} {l : List Oper} {b : Bool} (hok : (dstOk nt l.toArray && (!b || drawOk l.toArray)) = true) (h : ∀ K : St → Prop, Imp (Q .normal) K → wpL P l.toArray K l s) : wpD P nt (.region id l.toArray b) Q s := ⟨hok, h _ (Imp.refl _)⟩
theorem d_sreg {id : Nat} {l : List Oper} {b : Bool} {y : Code} (hok : (dstOk nt l.toArray && (!b || drawOk l.toArray)) = true) (h : ∀ K : St → Prop, Imp (wpD P nt y Q) K → wpL P l.toArray K l s) : wpD P nt (.seq (.region id l.toArray b) y) Q s := ⟨hok, h _ (Imp.refl _)⟩
theorem d_cond {c : Operand} {x y : Code} (t : Bool) (ht : s.ev c = .raw (.bool t)) (h1 : t = true → wpD P nt x Q s) (h2 : t = false → wpD P nt y Q s) : wpD P nt (.cond c x y) Q s := ⟨t, ht, h1, h2⟩
theorem d_scond {c : Operand} {x y z : Code} (t : Bool) (ht : s.ev c = .raw (.bool t)) (h1 : t = true → wpD P nt (.seq x z) Q s) (h2 : t = false → wpD P nt (.seq y z) Q s) : wpD P nt (.seq (.cond c x y) z) Q s := ⟨t, ht, h1, h2⟩
theorem d_block {id : Nat} {b : Code} (h : ∀ K : St → Prop, Imp (Q .normal) K → wpD P nt b (blockD id (thenD K Q)) s) : wpD P nt (.block id b) Q s := by
  show wpD P nt b (blockD id Q) s
  refine wpD_mono (fun e s hs => ?_) (h _ (Imp.refl _))
  cases e <;> exact hs
theorem d_sblock {id : Nat} {b y : Code} (h : ∀ K : St → Prop, Imp (wpD P nt y Q) K → wpD P nt b (blockD id (thenD K Q)) s) : wpD P nt (.seq (.block id b) y) Q s := by
  show wpD P nt b (blockD id (thenD (wpD P nt y Q) Q)) s
  exact h _ (Imp.refl _)
/-- What holds between two pieces. -/
theorem d_cut {x y : Code} (I : St → Prop) (hy : ∀ s, I s → wpD P nt y Q s) (hx : wpD P nt x (thenD I Q) s) : wpD P nt (.seq x y) Q s := by
  show wpD P nt x (thenD (wpD P nt y Q) Q) s
  refine wpD_mono (fun e s hs => ?_) hx
  cases e with
  | normal => exact hy s hs
  | _ => exact hs
theorem d_skip (h : Q .normal s) : wpD P nt .skip Q s := h
theorem d_sskip {y : Code} (h : wpD P nt y Q s) : wpD P nt (.seq .skip y) Q s := h
theorem d_exit {id : Nat} (h : Q (.exit id) s) : wpD P nt (.exit id) Q s := h
theorem d_sexit {id : Nat} {y : Code} (h : Q (.exit id) s) : wpD P nt (.seq (.exit id) y) Q s := h
theorem d_ret (h : Q .ret s) : wpD P nt .ret Q s := h
theorem d_sret {y : Code} (h : Q .ret s) : wpD P nt (.seq .ret y) Q s := h
/-- A loop: what holds at its head, and what falls. -/
theorem d_loop {b : Code} (I : St → Prop) (μ : St → Nat) (h0 : I s) (h : ∀ s1 (K : St → Prop), I s1 → Imp (fun s2 => I s2 ∧ μ s2 < μ s1) K → wpD P nt b (thenD K Q) s1) : wpD P nt (.loop b) Q s :=
  ⟨I, μ, h0, fun s1 h1 => h s1 _ h1 (Imp.refl _)⟩
theorem d_sloop {b y : Code} (I : St → Prop) (μ : St → Nat) (h0 : I s) (h : ∀ s1 (K : St → Prop), I s1 → Imp (fun s2 => I s2 ∧ μ s2 < μ s1) K → wpD P nt b (thenD K Q) s1) : wpD P nt (.seq (.loop b) y) Q s := by
  show wpD P nt (.loop b) (thenD (wpD P nt y Q) Q) s
  refine d_loop I μ h0 fun s1 K h1 hK => wpD_mono (fun e s hs => ?_) (h s1 K h1 hK)
  cases e <;> exact hs

theorem fin1 {fn : Func} {t : Tmp} {r : DV} {e : Exit} (he : e = .normal ∨ e = .ret) (hf : fn.results = #[.tmp t]) (hr : imm (s.env t) = r) (hp : pureD r = true) : Fin P fn r e s :=
  ⟨he, [r], by rw [hf]; simp [resL, resD, hr], by simpa using hp, rfl⟩
theorem fin2 {fn : Func} {t u : Tmp} {r q : DV} {e : Exit} (he : e = .normal ∨ e = .ret) (hf : fn.results = #[.tmp t, .tmp u]) (hr : imm (s.env t) = r) (hq : imm (s.env u) = q) (hp : pureD r = true) (hp2 : pureD q = true) : Fin P fn (.tup [r, q]) e s :=
  ⟨he, [r, q], by rw [hf]; simp [resL, resD, hr, hq], by simp [hp, hp2], rfl⟩
theorem fin3 {fn : Func} {t u v : Tmp} {r q p : DV} {e : Exit} (he : e = .normal ∨ e = .ret) (hf : fn.results = #[.tmp t, .tmp u, .tmp v]) (hr : imm (s.env t) = r) (hq : imm (s.env u) = q) (hv : imm (s.env v) = p) (hp : pureD r = true) (hp2 : pureD q = true) (hp3 : pureD p = true) : Fin P fn (.tup [r, q, p]) e s :=
  ⟨he, [r, q, p], by rw [hf]; simp [resL, resD, hr, hq, hv], by simp [hp, hp2, hp3], rfl⟩
end

/-- A function's contract, from a state of which its arguments are known. -/
theorem fn1 {P : Program} (hm : P.follows .mixedOrders = true) {f : FuncId} {fn : Func} {c : Code} {a0 r : DV} (hf : P.funcs[f]? = some fn) (hname : (fn.name == "runtime.NumGoroutine") = false) (hb : fn.body = some c) {n : Nat} (hnt : fn.ntmps = n) (hn : 1 ≤ n)
    (h : ∀ s : St, s.env 0 = a0 → wpD P n c (Fin P fn r) s) : FnD P f [a0] r := fn_intro hm hf hname hb (by rw [hnt]; exact hn) (by rw [hnt]; exact h _ rfl)
theorem fn2 {P : Program} (hm : P.follows .mixedOrders = true) {f : FuncId} {fn : Func} {c : Code} {a0 a1 r : DV} (hf : P.funcs[f]? = some fn) (hname : (fn.name == "runtime.NumGoroutine") = false) (hb : fn.body = some c) {n : Nat} (hnt : fn.ntmps = n) (hn : 2 ≤ n)
    (h : ∀ s : St, s.env 0 = a0 → s.env 1 = a1 → wpD P n c (Fin P fn r) s) : FnD P f [a0, a1] r := fn_intro hm hf hname hb (by rw [hnt]; exact hn) (by rw [hnt]; exact h _ rfl rfl)
theorem fn3 {P : Program} (hm : P.follows .mixedOrders = true) {f : FuncId} {fn : Func} {c : Code} {a0 a1 a2 r : DV} (hf : P.funcs[f]? = some fn) (hname : (fn.name == "runtime.NumGoroutine") = false) (hb : fn.body = some c) {n : Nat} (hnt : fn.ntmps = n) (hn : 3 ≤ n)
    (h : ∀ s : St, s.env 0 = a0 → s.env 1 = a1 → s.env 2 = a2 → wpD P n c (Fin P fn r) s) : FnD P f [a0, a1, a2] r := fn_intro hm hf hname hb (by rw [hnt]; exact hn) (by rw [hnt]; exact h _ rfl rfl rfl)
theorem fn4 {P : Program} (hm : P.follows .mixedOrders = true) {f : FuncId} {fn : Func} {c : Code} {a0 a1 a2 a3 r : DV} (hf : P.funcs[f]? = some fn) (hname : (fn.name == "runtime.NumGoroutine") = false) (hb : fn.body = some c) {n : Nat} (hnt : fn.ntmps = n) (hn : 4 ≤ n)
    (h : ∀ s : St, s.env 0 = a0 → s.env 1 = a1 → s.env 2 = a2 → s.env 3 = a3 → wpD P n c (Fin P fn r) s) : FnD P f [a0, a1, a2, a3] r := fn_intro hm hf hname hb (by rw [hnt]; exact hn) (by rw [hnt]; exact h _ rfl rfl rfl rfl)
theorem fn0 {P : Program} (hm : P.follows .mixedOrders = true) {f : FuncId} {fn : Func} {c : Code} {r : DV} (hf : P.funcs[f]? = some fn) (hname : (fn.name == "runtime.NumGoroutine") = false) (hb : fn.body = some c) {n : Nat} (hnt : fn.ntmps = n)
    (h : ∀ s : St, wpD P n c (Fin P fn r) s) : FnD P f [] r := fn_intro hm hf hname hb (Nat.zero_le _) (by rw [hnt]; exact h _)

/-! ### one operation behind the other -/
section
variable {P : Program} {s : St} {K : St → Prop} {ops : Array Oper} {o : Oper} {l : List Oper} {dst : Option Tmp}
theorem wpL_nil : wpL P ops K [] s = K s := rfl
/-- What comes of a guard: nothing else is looked at before it is known. -/
def gate (b : Option Bool) (A B : St → Prop) (s : St) : Prop :=
  match b with
  | some true => A s
  | some false => B s
  | none => False
theorem gate_t {A B : St → Prop} : gate (some true) A B s = A s := rfl
theorem gate_f {A B : St → Prop} : gate (some false) A B s = B s := rfl
def goK (P : Program) (ops : Array Oper) (K : St → Prop) (l : List Oper) (o : Oper) (s : St) : Prop := (opD P o s.ev).wp P o.dst s (wpL P ops K l)
def skipK (P : Program) (ops : Array Oper) (K : St → Prop) (l : List Oper) (o : Oper) (s : St) : Prop := wpL P ops K l (s.put o.dst (.raw undef))
theorem goK_eq : goK P ops K l o s = (opD P o s.ev).wp P o.dst s (wpL P ops K l) := rfl
theorem skipK_eq : skipK P ops K l o s = wpL P ops K l (s.put o.dst (.raw undef)) := rfl
theorem wpL_cons : wpL P ops K (o :: l) s = gate (wantedD ops s o) (goK P ops K l o) (skipK P ops K l o) s := by
  simp only [wpL, gate, goK, skipK]
  split <;> simp_all
theorem wp_val {c : Prop} {d : DV} : (Out.val c d).wp P dst s K = (c ∧ K (s.put dst d)) := rfl
theorem wp_box {t : TypeId} {cells : List DV} {d : Tmp} : (Out.box t cells).wp P (some d) s K = K { env := upd s.env d (.ref (d, s.gen d) 0), heap := updK s.heap (d, s.gen d) (some cells), tip := s.tip, gen := upd s.gen d (s.gen d + 1) } := rfl
theorem wp_fresh {c : Prop} {e : TypeId} {rows : List (List DV)} {d : Tmp} : (Out.fresh c e rows).wp P (some d) s K = (c ∧ K { env := upd s.env d (.own (d, s.gen d) 0 rows), heap := s.heap, tip := updK s.tip (d, s.gen d) (some (0, e)), gen := upd s.gen d (s.gen d + 1) }) := rfl
def cellsK (o : Option (List DV)) (K : List DV → Prop) : Prop :=
  match o with
  | some d => K d
  | none => False
theorem cellsK_some (d : List DV) (K : List DV → Prop) : cellsK (some d) K = K d := rfl
theorem cellsK_iff (o : Option (List DV)) (K : List DV → Prop) : cellsK o K = ∃ c, o = some c ∧ K c := by
  cases o with
  | none => simp [cellsK]
  | some c => simp [cellsK]
theorem wp_load {k : Key} {off n : Nat} {g : Bool} : (Out.load k off n g).wp P dst s K = cellsK (s.heap k) (fun cells => off + n ≤ cells.length ∧ K (s.put dst (mk g ((cells.drop off).take n)))) := by
  rw [cellsK_iff]; rfl
theorem wp_store {k : Key} {off n : Nat} {new : List DV} : (Out.store k off n new).wp P dst s K = cellsK (s.heap k) (fun cells => new.length = n ∧ off + n ≤ cells.length ∧ storable new ∧ K ({ s with heap := updK s.heap k (some (splice cells off new)) }.put dst (.raw undef))) := by
  rw [cellsK_iff]; rfl
theorem wp_call {f : FuncId} {args xs : List DV} {b : Bool} {r : DV} (hs : seenAll s args = some (xs, b)) (hf : FnD P f xs r) (hb : b = false ∨ flatT r = true) (hk : K (s.put dst r)) : (Out.call f args).wp P dst s K :=
  ⟨xs, b, r, hs, hf, fun h => by rcases hb with hb | hb; (rw [hb] at h; cases h); exact hb, hk⟩
theorem wp_grow {c : Prop} {k : Key} {ver : Nat} {e : TypeId} {rows add : List (List DV)} {d : Tmp} : (Out.grow c k ver e rows add).wp P (some d) s K = (c ∧ s.tip k = some (ver, e) ∧ K { env := upd s.env d (.own k (ver + 1) (rows ++ add)), heap := s.heap, tip := updK s.tip k (some (ver + 1, e)), gen := s.gen }) := rfl
end

/-- A guard's value. -/
def wantV (want : Bool) : DV → Option Bool
  | .raw (.bool b) => some (b == want)
  | .raw _ => some false
  | _ => none
theorem wantV_bool (w b : Bool) : wantV w (.raw (.bool b)) = some (b == w) := rfl
theorem wantV_undef (w : Bool) : wantV w (.raw undef) = some false := rfl
theorem wantV_bv (w b : Bool) (h : DV.raw (.bool b) = .raw (.bool b)) : wantV w (.raw (.bool b)) = some (b == w) := rfl
theorem wantedD_eq (ops : Array Oper) (s : St) (o : Oper) : wantedD ops s o = match o.guard with
  | none => some true
  | some (j, want) => match (ops[j]?).bind (·.dst) with
    | some t => wantV want (s.env t)
    | none => some false := by
  unfold wantedD
  cases o.guard with
  | none => rfl
  | some g =>
    obtain ⟨j, want⟩ := g
    simp only
    cases (ops[j]?).bind (·.dst) with
    | none => rfl
    | some t =>
      simp only
      cases s.env t with
      | raw v => cases v <;> rfl
      | _ => rfl

/-! ### lists and numbers -/
def iv (k : IntKind) (n : Int) : DV := .raw (.int k n)
def bv (b : Bool) : DV := .raw (.bool b)
def sv (l : List UInt8) : DV := .raw (str l)
/-- The element at a place. -/
def nth {α : Type} [Inhabited α] (xs : List α) (i : Nat) : α := xs.getD i default
theorem nth_eq {α : Type} [Inhabited α] (xs : List α) (i : Nat) (h : i < xs.length) : nth xs i = xs[i] := by simp [nth, h]
theorem nth_mem {α : Type} [Inhabited α] {xs : List α} {i : Nat} (h : i < xs.length) : nth xs i ∈ xs := by rw [nth_eq xs i h]; exact List.getElem_mem h
theorem take_nth {α : Type} [Inhabited α] (xs : List α) (i : Nat) (h : i < xs.length) : xs.take (i + 1) = xs.take i ++ [nth xs i] := by rw [nth_eq xs i h, List.take_succ_eq_append_getElem h]
theorem drop_nth {α : Type} [Inhabited α] (xs : List α) (i : Nat) (h : i < xs.length) : xs.drop i = nth xs i :: xs.drop (i + 1) := by rw [nth_eq xs i h, List.drop_eq_getElem_cons h]
theorem getD_map {α : Type} [Inhabited α] (f : α → List DV) (xs : List α) (i : Nat) (h : i < xs.length) : (xs.map f).getD i [] = f (nth xs i) := by
  rw [nth_eq xs i h, List.getD_eq_getElem?_getD, List.getElem?_map, List.getElem?_eq_getElem h]; rfl
/-- Elements of one cell. -/
def sl1 {α : Type} (f : α → DV) (xs : List α) : List (List DV) := xs.map fun x => [f x]
theorem sl1_len {α : Type} (f : α → DV) (xs : List α) : (sl1 f xs).length = xs.length := List.length_map ..
theorem sl1_getD {α : Type} [Inhabited α] (f : α → DV) (xs : List α) (i : Nat) (h : i < xs.length) : (sl1 f xs).getD i [] = [f (nth xs i)] := getD_map _ xs i h
theorem sl1_mem {α : Type} (f : α → DV) (xs : List α) : szOk 1 (sl1 f xs) = True := by
  apply eq_true; intro r hr; obtain ⟨x, _, rfl⟩ := List.mem_map.1 hr; rfl
theorem sl1_one {α : Type} (f : α → DV) (hf : ∀ x, one0 (f x) = true) (xs : List α) : oneOk 1 (sl1 f xs) = True := by
  apply eq_true; intro r hr; obtain ⟨x, _, rfl⟩ := List.mem_map.1 hr; exact ⟨rfl, fun d hd => by simp at hd; subst hd; exact hf x⟩
theorem szOk_nil (n : Nat) : szOk n [] = True := by simp [szOk]
theorem szOk_cons (n : Nat) (r : List DV) (rows : List (List DV)) : szOk n (r :: rows) = (r.length = n ∧ szOk n rows) := by simp [szOk]
theorem oneOk_nil (n : Nat) : oneOk n [] = True := by simp [oneOk]
theorem oneOk_cons (n : Nat) (r : List DV) (rows : List (List DV)) : oneOk n (r :: rows) = ((r.length = n ∧ r.all one0 = true) ∧ oneOk n rows) := by simp [oneOk]
theorem pureOk_nil : pureOk [] = True := by simp [pureOk]
theorem pureOk_cons (r : List DV) (rows : List (List DV)) : pureOk (r :: rows) = (r.all pure0 = true ∧ pureOk rows) := by simp [pureOk]
theorem pureCs_eq (r : List DV) : pureCs r = (r.all pure0 = true) := by simp [pureCs]
theorem storable_nil : storable [] = True := by simp [storable]
theorem storable_cons (d : DV) (ds : List DV) : storable (d :: ds) = ((one0 (imm0 d) = true ∨ ∃ k' o', d = .ref k' o') ∧ storable ds) := by simp [storable]
theorem sl1_append {α : Type} (f : α → DV) (xs ys : List α) : sl1 f xs ++ sl1 f ys = sl1 f (xs ++ ys) := (List.map_append ..).symm
theorem sl1_nil {α : Type} (f : α → DV) : sl1 f [] = [] := rfl
theorem sl1_take {α : Type} (f : α → DV) (xs : List α) (n : Nat) : (sl1 f xs).take n = sl1 f (xs.take n) := (List.map_take ..).symm
theorem sl1_drop {α : Type} (f : α → DV) (xs : List α) (n : Nat) : (sl1 f xs).drop n = sl1 f (xs.drop n) := (List.map_drop ..).symm
theorem sl1_snoc (k : IntKind) (xs : List Int) (x : Int) : sl1 (iv k) xs ++ [[.raw (.int k x)]] = sl1 (iv k) (xs ++ [x]) := by rw [← sl1_append]; rfl
theorem nth_zero {α : Type} [Inhabited α] (x : α) (xs : List α) : nth (x :: xs) 0 = x := rfl
theorem nth_succ {α : Type} [Inhabited α] (x : α) (xs : List α) (n : Nat) : nth (x :: xs) (n + 1) = nth xs n := rfl
theorem sl1_single {α : Type} (f : α → DV) (x : α) : [[f x]] = sl1 f [x] := rfl
theorem one_iv (k : IntKind) (n : Int) : one0 (iv k n) = true := rfl
theorem sl1_cons {α : Type} (f : α → DV) (x : α) (xs : List α) : sl1 f (x :: xs) = [f x] :: sl1 f xs := rfl
theorem sl1_all {α : Type} (f : α → DV) (hf : ∀ x, pure0 (f x) = true) (xs : List α) : pureOk (sl1 f xs) = True := by
  apply eq_true; intro r hr; obtain ⟨x, _, rfl⟩ := List.mem_map.1 hr; intro d hd; simp at hd; subst hd; exact hf x
theorem pure_iv (k : IntKind) (n : Int) : pure0 (iv k n) = true := rfl
theorem getD_zero {α : Type} (x : α) (xs : List α) (d : α) : (x :: xs).getD 0 d = x := rfl
theorem getD_succ {α : Type} (x : α) (xs : List α) (d : α) (n : Nat) : (x :: xs).getD (n + 1) d = xs.getD n d := rfl
theorem mem_one {α : Type} (a b : α) : (a ∈ [b]) = (a = b) := by simp
theorem int_lt (a b : Nat) : ((a : Int) < (b : Int)) = (a < b) := by simp
theorem int_le (a b : Nat) : ((a : Int) ≤ (b : Int)) = (a ≤ b) := by simp
theorem int_nn (a : Nat) : ((0 : Int) ≤ (a : Int)) = True := by simp
theorem one0_int (k : IntKind) (n : Int) : one0 (.raw (.int k n)) = true := rfl
theorem one0_bool (b : Bool) : one0 (.raw (.bool b)) = true := rfl
theorem one0_str (s : ByteArray) : one0 (.raw (.string s)) = true := rfl
theorem one0_sl (r : List (List DV)) : one0 (.sl r) = true := rfl
theorem one0_ptr (r : List DV) : one0 (.ptr r) = true := rfl
theorem pure0_raw (v : Value) : pure0 (.raw v) = true := rfl
theorem pure0_sl (r : List (List DV)) : pure0 (.sl r) = true := rfl
theorem pure0_ptr (r : List DV) : pure0 (.ptr r) = true := rfl
theorem sl1_one_iv (k : IntKind) (xs : List Int) : oneOk 1 (sl1 (iv k) xs) = True := sl1_one _ (fun _ => rfl) xs
theorem sl1_all_iv (k : IntKind) (xs : List Int) : pureOk (sl1 (iv k) xs) = True := sl1_all _ (fun _ => rfl) xs
theorem sl1_one_sv (xs : List (List UInt8)) : oneOk 1 (sl1 sv xs) = True := sl1_one _ (fun _ => rfl) xs
theorem sl1_all_sv (xs : List (List UInt8)) : pureOk (sl1 sv xs) = True := sl1_all _ (fun _ => rfl) xs
theorem sl1_one_bv (xs : List Bool) : oneOk 1 (sl1 bv xs) = True := sl1_one _ (fun _ => rfl) xs
theorem sl1_all_bv (xs : List Bool) : pureOk (sl1 bv xs) = True := sl1_all _ (fun _ => rfl) xs
theorem iv_def (k : IntKind) (n : Int) : DV.raw (.int k n) = iv k n := rfl
theorem intOf_iv (k : IntKind) (n : Int) : intOf? (iv k n) = some n := rfl
attribute [go_sem] wpL_nil wpL_cons gate_t gate_f goK_eq skipK_eq wp_val wp_box wp_fresh wp_load wp_store wp_grow wantedD_eq wantV_bool wantV_undef opD St.ev St.put lit binD intD strD unD convD lenD callD appendD rowsOf upd updK indexAddrD indexD intOf? loadD storeD fieldD fieldAddrD sliceD loI hiI sliceS sliceR buildD fillD places splice buildSliceD makeSliceD rowsD mk DV.cells notTup imm0 imm seenAll seen seen0 one0_int one0_bool one0_str one0_sl one0_ptr pure0_raw pure0_sl pure0_ptr iv bv sv
attribute [go_sem] szOk_nil szOk_cons oneOk_nil oneOk_cons pureOk_nil pureOk_cons pureCs_eq storable_nil storable_cons sl1_len sl1_getD sl1_mem sl1_one_iv sl1_one_sv sl1_one_bv sl1_append sl1_nil sl1_take sl1_drop sl1_all_iv sl1_all_sv sl1_all_bv getD_zero getD_succ int_lt int_le int_nn
attribute [go_sem] List.length_cons List.length_nil List.map_cons List.map_nil Option.map_some Option.map_none Prod.mk.injEq false_and and_false Option.getD_some Option.isSome_some Option.any_some List.toArray List.take_zero List.drop_zero List.take_succ_cons List.drop_succ_cons List.drop_nil List.take_nil List.take_length List.headD_cons List.nil_append List.cons_append List.append_nil
attribute [go_sem] true_and and_true and_self Bool.and_true Bool.true_and Bool.and_self Bool.not_true Bool.not_false decide_true decide_false BEq.rfl beq_self_eq_true List.not_mem_nil false_implies implies_true forall_const gt_iff_lt ge_iff_le Int.toNat_natCast Int.toNat_zero Int.toNat_one List.mem_cons or_false forall_eq Bool.false_and Bool.and_false Option.bind_some sl1_snoc List.size_toArray Int.le_refl Nat.le_refl List.replicate_zero true_or Nat.zero_le Nat.zero_lt_succ nth_zero nth_succ one_iv beq_true beq_false cond_true cond_false pure_iv if_true if_false List.all_cons List.all_nil List.getElem?_toArray List.getElem?_cons_zero List.getElem?_cons_succ
/-! ### maps -/
section
variable {P : Program} {s : St} {K : St → Prop} {dst : Option Tmp}
def lookK (o : Option DV) (K : DV → Prop) : Prop :=
  match o with
  | some d => K d
  | none => False
theorem lookK_some (d : DV) (K : DV → Prop) : lookK (some d) K = K d := rfl
def turnK (o : Option (List DV)) (K : List DV → Prop) : Prop :=
  match o with
  | some d => K d
  | none => False
theorem turnK_some (d : List DV) (K : List DV → Prop) : turnK (some d) K = K d := rfl
theorem wp_map {d : Tmp} : (Out.map).wp P (some d) s K = K { env := upd s.env d (.mref (d, s.gen d)), heap := updK s.heap (d, s.gen d) (some [.tup []]), tip := s.tip, gen := upd s.gen d (s.gen d + 1) } := rfl
theorem wp_look {k : Key} {f : List DV → Option DV} : (Out.look k f).wp P dst s K = cellsK (s.heap k) (fun cells => lookK (f cells) (fun d => K (s.put dst d))) := by
  rw [cellsK_iff]
  apply propext
  constructor
  · rintro ⟨c, d, h1, h2, h3⟩
    exact ⟨c, h1, by rw [h2]; exact h3⟩
  · rintro ⟨c, h1, h2⟩
    cases hf : f c with
    | none => rw [hf] at h2; exact h2.elim
    | some d => rw [hf] at h2; exact ⟨c, d, h1, hf, h2⟩
theorem wp_turn {k : Key} {f : List DV → Option (List DV)} : (Out.turn k f).wp P dst s K = cellsK (s.heap k) (fun cells => turnK (f cells) (fun c => K ({ s with heap := updK s.heap k (some c) }.put dst (.raw undef)))) := by
  rw [cellsK_iff]
  apply propext
  constructor
  · rintro ⟨c, d, h1, h2, h3⟩
    exact ⟨c, h1, by rw [h2]; exact h3⟩
  · rintro ⟨c, h1, h2⟩
    cases hf : f c with
    | none => rw [hf] at h2; exact h2.elim
    | some d => rw [hf] at h2; exact ⟨c, d, h1, hf, h2⟩
end
/-- A map as pairs, in the order in which their keys came. -/
def mpL {α β : Type} (f : α → DV) (g : β → DV) (m : List (α × β)) : List DV := [.tup (m.map fun p => .tup [f p.1, g p.2])]
def putM {α β : Type} [DecidableEq α] (k : α) (v : β) : List (α × β) → List (α × β)
  | [] => [(k, v)]
  | p :: l => if k = p.1 then (k, v) :: l else p :: putM k v l
def findM {α β : Type} [DecidableEq α] (k : α) : List (α × β) → Option β
  | [] => none
  | p :: l => if k = p.1 then some p.2 else findM k l
theorem putL_mp {α β : Type} [DecidableEq α] (f : α → DV) (g : β → DV) (hf : ∀ a b, eqK (f a) (f b) = some (decide (a = b))) (k : α) (v : β) : ∀ m : List (α × β), putL (f k) (g v) (m.map fun p => .tup [f p.1, g p.2]) = some ((putM k v m).map fun p => .tup [f p.1, g p.2]) := by
  intro m
  induction m with
  | nil => rfl
  | cons p m ih =>
    simp only [List.map_cons, putL, hf, putM]
    by_cases h : k = p.1
    · simp [h]
    · simp [h, ih]
theorem findL_mp {α β : Type} [DecidableEq α] (f : α → DV) (g : β → DV) (hf : ∀ a b, eqK (f a) (f b) = some (decide (a = b))) (k : α) : ∀ m : List (α × β), findL (f k) (m.map fun p => .tup [f p.1, g p.2]) = some ((findM k m).map g) := by
  intro m
  induction m with
  | nil => rfl
  | cons p m ih =>
    simp only [List.map_cons, findL, hf, findM]
    by_cases h : k = p.1
    · simp [h]
    · simp [h, ih]
theorem eqK_sv (a b : List UInt8) : eqK (sv a) (sv b) = some (decide (a = b)) := by
  simp only [eqK, sv, str, bs_mk, Option.some.injEq]
  by_cases h : a = b <;> simp [h]
theorem eqK_iv (k : IntKind) (a b : Int) : eqK (iv k a) (iv k b) = some (decide (a = b)) := by
  simp only [eqK, iv, if_true, Option.some.injEq]
  by_cases h : a = b <;> simp [h]
theorem mapPut_sv {β : Type} (g : β → DV) (k : List UInt8) (v : β) (m : List (List UInt8 × β)) : mapPut (sv k) (g v) (mpL sv g m) = some (mpL sv g (putM k v m)) := by
  simp [mapPut, mpL, putL_mp sv g eqK_sv]
theorem mapPut_iv {β : Type} (q : IntKind) (g : β → DV) (k : Int) (v : β) (m : List (Int × β)) : mapPut (iv q k) (g v) (mpL (iv q) g m) = some (mpL (iv q) g (putM k v m)) := by
  simp [mapPut, mpL, putL_mp (iv q) g (eqK_iv q)]
theorem mapLen_mp {α β : Type} (f : α → DV) (g : β → DV) (m : List (α × β)) : mapLen (mpL f g m) = some (.raw (.int .i64 m.length)) := by
  simp [mapLen, mpL]
theorem mapFind_sv {β : Type} (g : β → DV) (k : List UInt8) (z : DV) (ok : Bool) (m : List (List UInt8 × β)) : mapFind (sv k) z ok (mpL sv g m) = some (if ok then .tup [((findM k m).map g).getD z, bv (findM k m).isSome] else ((findM k m).map g).getD z) := by
  simp only [mapFind, mpL, findL_mp sv g eqK_sv]
  cases findM k m <;> rfl
theorem mapFind_iv {β : Type} (q : IntKind) (g : β → DV) (k : Int) (z : DV) (ok : Bool) (m : List (Int × β)) : mapFind (iv q k) z ok (mpL (iv q) g m) = some (if ok then .tup [((findM k m).map g).getD z, bv (findM k m).isSome] else ((findM k m).map g).getD z) := by
  simp only [mapFind, mpL, findL_mp (iv q) g (eqK_iv q)]
  cases findM k m <;> rfl
/-- The new map. -/
theorem mpL_nil {α β : Type} (f : α → DV) (g : β → DV) : [DV.tup []] = mpL f g ([] : List (α × β)) := rfl
theorem keyT_s (s : ByteArray) : keyT .string (.raw (.string s)) = true := rfl
theorem keyT_i (k k' : IntKind) (n : Int) : keyT (.int k) (.raw (.int k' n)) = true := rfl
theorem flatD_raw (v : Value) : flatD (.raw v) = true := rfl
theorem flatD_agg (l : List DV) : flatD (.agg l) = l.all flat0 := rfl
theorem flat0_raw (v : Value) : flat0 (.raw v) = true := rfl
def isStructB (P : Program) (t : TypeId) : Bool := (match P.underlying t with | some (.struct _) => true | _ => false) && !P.stoodInHeld t && !P.eqGuardType P.depth t
theorem ps_of {P : Program} {t : TypeId} (h : isStructB P t = true) : plainStruct P t = True := by
  apply eq_true
  simp only [isStructB, Bool.and_eq_true, Bool.not_eq_true'] at h
  refine ⟨?_, h.1.2, h.2⟩
  have := h.1.1
  unfold Program.fieldsOf
  cases hu : P.underlying t with
  | none => rw [hu] at this; cases this
  | some d => cases d <;> first | rfl | (rw [hu] at this; cases this)
theorem arr_all {α : Type} (l : List α) (p : α → Bool) : (⟨l⟩ : Array α).all p = l.all p := by simp
theorem arr_allN {α : Type} (l : List α) (p : α → Bool) (n : Nat) (h : n = l.length) : (⟨l⟩ : Array α).all p 0 n = l.all p := List.all_toArray' h
attribute [go_sem] arr_all arr_allN leafV cellsK_some Bool.or_true Bool.true_or Bool.or_false Bool.false_or Bool.or_self Nat.add_zero Nat.zero_add lookK_some turnK_some wp_map wp_look wp_turn lookupD updateD funcD keyT_s keyT_i flatD_raw flatD_agg flat0_raw leafy mapLen_mp eqFieldsD eqC
end Go.Proofs.YtdbaklnjemcfgaaGreatDoor.D
