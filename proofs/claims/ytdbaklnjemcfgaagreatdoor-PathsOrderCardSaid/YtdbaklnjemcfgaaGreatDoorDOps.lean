/- What an operation does to plain data (opD, StepD), apart from memory and orders. Conditions: none. -/
import Derived.Test.YtdbaklnjemcfgaaGreatDoorDVal
import Derived.Test.YtdbaklnjemcfgaaGreatDoorEBase
namespace Go.Proofs.YtdbaklnjemcfgaaGreatDoor.D
open Go.RowKit Go.Proofs.YtdbaklnjemcfgaaGreatDoor.Mem
set_option linter.unusedVariables false
set_option linter.unusedSimpArgs false

/-- A call's own state: its slots, its boxes, how often its slices have grown, and how many things each slot has made. -/
structure St where
  env : Nat → DV
  heap : Key → Option (List DV)
  tip : Key → Option (Nat × TypeId)
  gen : Nat → Nat

def upd {α : Type} (f : Nat → α) (k : Nat) (v : α) : Nat → α := fun i => if i = k then v else f i
def updK {α : Type} (f : Key → α) (k : Key) (v : α) : Key → α := fun i => if i = k then v else f i
theorem upd_same {α : Type} (f : Nat → α) (k : Nat) (v : α) : upd f k v k = v := if_pos rfl
theorem upd_ne {α : Type} (f : Nat → α) {k i : Nat} (v : α) (h : i ≠ k) : upd f k v i = f i := if_neg h
theorem updK_same {α : Type} (f : Key → α) (k : Key) (v : α) : updK f k v k = v := if_pos rfl
theorem updK_ne {α : Type} (f : Key → α) {k i : Key} (v : α) (h : i ≠ k) : updK f k v i = f i := if_neg h

def St.put (s : St) (dst : Option Tmp) (d : DV) : St :=
  match dst with
  | some t => { s with env := upd s.env t d }
  | none => s
def St.ev (s : St) : Operand → DV
  | .tmp t => s.env t
  | .const v => lit v
  | .global g => .raw (.pointer (some ⟨g, 0, none⟩))
  | .func f => .raw (.func (.func f) #[] #[])

/-- Of a type: how many cells, how many bytes, whether it is a struct or an array. -/
def aggT : TypeDesc → Bool
  | .struct _ => true
  | .array _ _ => true
  | _ => false
def tI (P : Program) (t : TypeId) : Option (Nat × Nat × Bool) := (P.info? t).bind fun i => (P.underlying t).map fun d => (i.size, i.bytes, aggT d)
def zeroT (P : Program) (t : TypeId) : Option Value := (P.info? t).bind (·.zero)

def mk (agg : Bool) (cells : List DV) : DV := if agg then .agg cells else cells.headD (.raw undef)
def splice (cells : List DV) (off : Nat) (new : List DV) : List DV := cells.take off ++ new ++ cells.drop (off + new.length)

/-- What comes of an operation; each with what must hold for it. -/
inductive Out where
  | val (c : Prop) (d : DV)
  | box (t : TypeId) (cells : List DV)
  | fresh (c : Prop) (e : TypeId) (rows : List (List DV))
  | load (k : Key) (off n : Nat) (agg : Bool)
  | store (k : Key) (off n : Nat) (cells : List DV)
  | grow (c : Prop) (k : Key) (ver : Nat) (e : TypeId) (rows add : List (List DV))
  | call (f : FuncId) (args : List DV)
  | map
  | look (k : Key) (f : List DV → Option DV)
  | turn (k : Key) (f : List DV → Option (List DV))
  | bad

def intD (op : BinOp) (k : IntKind) (a b : Int) : Out :=
  match op with
  | .add => .val True (.raw (.int k (k.wrap (a + b))))
  | .sub => .val True (.raw (.int k (k.wrap (a - b))))
  | .mul => .val True (.raw (.int k (k.wrap (a * b))))
  | .quo => .val (b ≠ 0) (.raw (.int k (k.wrap (a.tdiv b))))
  | .rem => .val (b ≠ 0) (.raw (.int k (a.tmod b)))
  | .and => .val True (.raw (.int k (k.wrap (BitVec.ofInt k.bits a &&& BitVec.ofInt k.bits b).toNat)))
  | .or => .val True (.raw (.int k (k.wrap (BitVec.ofInt k.bits a ||| BitVec.ofInt k.bits b).toNat)))
  | .xor => .val True (.raw (.int k (k.wrap (BitVec.ofInt k.bits a ^^^ BitVec.ofInt k.bits b).toNat)))
  | .andNot => .val True (.raw (.int k (k.wrap (BitVec.ofInt k.bits a &&& ~~~(BitVec.ofInt k.bits b)).toNat)))
  | .eql => .val True (.raw (.bool (a == b)))
  | .neq => .val True (.raw (.bool (a != b)))
  | .lss => .val True (.raw (.bool (decide (a < b))))
  | .leq => .val True (.raw (.bool (decide (a ≤ b))))
  | .gtr => .val True (.raw (.bool (decide (a > b))))
  | .geq => .val True (.raw (.bool (decide (a ≥ b))))
  | .shl => .val (0 ≤ b) (.raw (.int k (k.wrap (a * 2 ^ min b.toNat k.bits))))
  | .shr => .val (0 ≤ b) (.raw (.int k (a.fdiv (2 ^ min b.toNat k.bits))))

def str (l : List UInt8) : Value := .string ⟨l.toArray⟩
def bs (s : ByteArray) : List UInt8 := s.data.toList
theorem bs_mk (l : List UInt8) : bs ⟨l.toArray⟩ = l := by simp [bs]

def strD (op : BinOp) (x y : ByteArray) : Out :=
  match op with
  | .add => .val ((bs x).length + (bs y).length ≤ 9223372036854775807) (.raw (str (bs x ++ bs y)))
  | .eql => .val True (.raw (.bool (bs x == bs y)))
  | .neq => .val True (.raw (.bool (!(bs x == bs y))))
  | .lss => .val True (.raw (.bool (Op.bytesLess (bs x) (bs y))))
  | .leq => .val True (.raw (.bool (Op.bytesLess (bs x) (bs y) || bs x == bs y)))
  | .gtr => .val True (.raw (.bool (!(Op.bytesLess (bs x) (bs y) || bs x == bs y))))
  | .geq => .val True (.raw (.bool (!Op.bytesLess (bs x) (bs y))))
  | _ => .bad

/-- Two cells of a plain type. -/
def eqC (P : Program) (t : TypeId) : DV → DV → Option Bool
  | .raw (.int k a), .raw (.int k' b) => if k = k' then (match P.underlying t with | some (.int _) => some (a == b) | _ => none) else none
  | .raw (.string a), .raw (.string b) => match P.underlying t with | some .string => some (bs a == bs b) | _ => none
  | .raw (.bool a), .raw (.bool b) => match P.underlying t with | some .bool => some (a == b) | _ => none
  | _, _ => none
/-- Two structs of plain fields. -/
def eqFieldsD (P : Program) (xs ys : List DV) : List Field → Option Bool
  | [] => some true
  | f :: fs =>
    match xs[f.offset]?, ys[f.offset]?, tI P f.type with
    | some x, some y, some (1, _, false) =>
      if f.name ≠ "_" then
        match eqC P f.type x y, eqFieldsD P xs ys fs with
        | some b, some c => some (b && c)
        | _, _ => none
      else eqFieldsD P xs ys fs
    | _, _, _ => none
def plainStruct (P : Program) (t : TypeId) : Prop := P.underlying t = some (.struct (P.fieldsOf t)) ∧ P.stoodInHeld t = false ∧ P.eqGuardType P.depth t = false

def binD (P : Program) (op : BinOp) (t : TypeId) (x y : DV) : Out :=
  match x, y with
  | .raw (.int k a), .raw (.int k' b) => if k = k' ∨ op = .shl ∨ op = .shr then intD op k a b else .bad
  | .raw (.string a), .raw (.string b) => strD op a b
  | .raw (.bool a), .raw (.bool b) =>
    match op with
    | .eql => .val (P.underlying t = some .bool) (.raw (.bool (a == b)))
    | .neq => .val (P.underlying t = some .bool) (.raw (.bool (a != b)))
    | _ => .bad
  | .agg xs, .agg ys =>
    match op with
    | .eql => match eqFieldsD P xs ys (P.fieldsOf t).toList with
      | some b => .val (plainStruct P t) (.raw (.bool b))
      | none => .bad
    | .neq => match eqFieldsD P xs ys (P.fieldsOf t).toList with
      | some b => .val (plainStruct P t) (.raw (.bool (!b)))
      | none => .bad
    | _ => .bad
  | _, _ => .bad

def unD (op : UnOp) (x : DV) : Out :=
  match op, x with
  | .neg, .raw (.int k n) => .val True (.raw (.int k (k.wrap (0 - n))))
  | .not, .raw (.bool b) => .val True (.raw (.bool (!b)))
  | _, _ => .bad

def intOf? : DV → Option Int
  | .raw (.int _ n) => some n
  | _ => none

def szOk (n : Nat) (rows : List (List DV)) : Prop := ∀ r ∈ rows, r.length = n
/-- s[l:h] -/
def loI : Option DV → Option Int
  | none => some 0
  | some d => intOf? d
def hiI (n : Nat) : Option DV → Option Int
  | none => some n
  | some d => intOf? d
def sliceS (s : ByteArray) : Option Int → Option Int → Out
  | some l, some h => .val (0 ≤ l ∧ l ≤ h ∧ h ≤ (bs s).length) (.raw (str (((bs s).take h.toNat).drop l.toNat)))
  | _, _ => .bad
def sliceR (n : Nat) (rows : List (List DV)) : Option Int → Option Int → Out
  | some l, some h => .val (0 ≤ l ∧ l ≤ h ∧ h ≤ rows.length ∧ szOk n rows) (.sl ((rows.take h.toNat).drop l.toNat))
  | _, _ => .bad
def sliceD (P : Program) (t : TypeId) (x : DV) (lo hi : Option DV) : Out :=
  match P.underlying t with
  | some .string =>
    match x with
    | .raw (.string s) => sliceS s (loI lo) (hiI (bs s).length hi)
    | _ => .bad
  | some (.slice e) =>
    match rowsOf x, tI P e with
    | some rows, some (n, _, _) => sliceR n rows (loI lo) (hiI rows.length hi)
    | _, _ => .bad
  | _ => .bad

def fillD (place : Nat → Option (Nat × Nat)) (cells : List DV) : List (Nat × DV) → Option (List DV)
  | [] => some cells
  | (i, d) :: rest =>
    match place i with
    | none => none
    | some (off, n) => if notTup d && d.cells.length == n && off + n ≤ cells.length then fillD place (splice cells off d.cells) rest else none

def places (P : Program) (fs : Array Field) (i : Nat) : Option (Nat × Nat) := (fs[i]?).bind fun f => (tI P f.type).map fun x => (f.offset, x.1)
def buildD (P : Program) (t : TypeId) (parts : List (Nat × DV)) : Out :=
  match P.underlying t, zeroT P t with
  | some (.struct fs), some z =>
    if notTup (lit z) && (fs.all fun f => (tI P f.type).isSome) then
      match fillD (places P fs) (lit z).cells parts with
      | some cells => .val True (.agg cells)
      | none => .bad
    else .bad
  | some (.array _ e), some z =>
    match tI P e with
    | some (n, _, _) =>
      if notTup (lit z) then
        match fillD (fun i => some (i * n, n)) (lit z).cells parts with
        | some cells => .val True (.agg cells)
        | none => .bad
      else .bad
    | none => .bad
  | _, _ => .bad

/-- A slice's elements as they are written out: each is there. -/
def rowsD (n : Nat) : Nat → List (Nat × DV) → Option (List (List DV))
  | _, [] => some []
  | i, (j, d) :: rest => if i == j && notTup d && d.cells.length == n then (rowsD n (i + 1) rest).map (d.cells.map imm0 :: ·) else none
def one0 : DV → Bool
  | .raw v => v.oneCell'
  | .sl _ => true
  | .ptr _ => true
  | _ => false
def oneOk (n : Nat) (rows : List (List DV)) : Prop := ∀ r ∈ rows, r.length = n ∧ ∀ d ∈ r, one0 d = true
def pureOk (rows : List (List DV)) : Prop := ∀ r ∈ rows, ∀ d ∈ r, pure0 d = true
def pureCs (r : List DV) : Prop := ∀ d ∈ r, pure0 d = true
def buildSliceD (P : Program) (t : TypeId) (len : Nat) (parts : List (Nat × DV)) : Out :=
  match P.underlying t with
  | some (.slice e) =>
    match tI P e, rowsD ((tI P e).map (·.1) |>.getD 0) 0 parts with
    | some (n, b, _), some rows => if 0 < n && 0 < b && rows.length == len && len * n ≤ 16777216 && (zeroT P e).isSome then .fresh (pureOk rows) e rows else .bad
    | _, _ => .bad
  | _ => .bad

def makeSliceD (P : Program) (t : TypeId) (len cap : DV) : Out :=
  match P.underlying t, intOf? len, intOf? cap with
  | some (.slice e), some l, some c =>
    match tI P e, zeroT P e with
    | some (n, b, _), some z => if 0 < n && 0 < b && z.cells.size == n && notTup (lit z) then .fresh (0 ≤ l ∧ l ≤ c ∧ c * b ≤ 140737488355328 ∧ pureCs ((lit z).cells.map imm0)) e (List.replicate l.toNat ((lit z).cells.map imm0)) else .bad
    | _, _ => .bad
  | _, _, _ => .bad

def fieldD (P : Program) (t : TypeId) (x : DV) (f : Nat) : Out :=
  match P.underlying t with
  | some (.struct fs) =>
    match fs[f]? with
    | some fd =>
      match x, tI P fd.type with
      | .agg cells, some (n, _, g) => .val (fd.offset + n ≤ cells.length ∧ (g = false → n = 1)) (mk g ((cells.drop fd.offset).take n))
      | _, _ => .bad
    | none => .bad
  | _ => .bad
def fieldAddrD (P : Program) (t : TypeId) (x : DV) (f : Nat) : Out :=
  match P.underlying t with
  | some (.struct fs) =>
    match fs[f]? with
    | some fd =>
      match x, tI P fd.type with
      | .ptr cells, some (n, _, _) => .val (n ≠ 0) (.ptr (cells.drop fd.offset))
      | .ref k off, some (n, _, _) => .val (n ≠ 0) (.ref k (off + fd.offset))
      | _, _ => .bad
    | none => .bad
  | _ => .bad
def indexAddrD (P : Program) (t : TypeId) (x i : DV) : Out :=
  match intOf? i, P.underlying t with
  | some i, some (.slice e) =>
    match rowsOf x, tI P e with
    | some rows, some (n, _, _) => .val (0 ≤ i ∧ i < rows.length ∧ (rows.getD i.toNat []).length = n) (.ptr (rows.getD i.toNat []))
    | _, _ => .bad
  | some i, some (.array m e) =>
    match x, tI P e with
    | .ptr cells, some (n, _, _) => .val (0 ≤ i ∧ i < m) (.ptr (cells.drop (i.toNat * n)))
    | .ref k off, some (n, _, _) => .val (0 ≤ i ∧ i < m) (.ref k (off + i.toNat * n))
    | _, _ => .bad
  | _, _ => .bad
def indexD (P : Program) (t : TypeId) (x i : DV) : Out :=
  match intOf? i, P.underlying t, x with
  | some i, some .string, .raw (.string s) => .val (0 ≤ i ∧ i < (bs s).length) (.raw (.int .u8 ((bs s).getD i.toNat 0).toNat))
  | some i, some (.array m e), .agg cells =>
    match tI P e with
    | some (n, _, g) => .val (0 ≤ i ∧ i < m ∧ i.toNat * n + n ≤ cells.length ∧ (g = false → n = 1)) (mk g ((cells.drop (i.toNat * n)).take n))
    | none => .bad
  | _, _, _ => .bad

def loadD (P : Program) (t : TypeId) (a : DV) : Out :=
  match a, tI P t with
  | .ptr cells, some (n, _, g) => .val (n ≤ cells.length ∧ (g = false → n = 1)) (mk g (cells.take n))
  | .ref k off, some (n, _, g) => if g || n == 1 then .load k off n g else .bad
  | _, _ => .bad
def storeD (P : Program) (t : TypeId) (a v : DV) : Out :=
  match a, tI P t with
  | .ref k off, some (n, _, _) => if notTup v then .store k off n v.cells else .bad
  | _, _ => .bad

def appendD (P : Program) (c : Call) (s x : DV) : Out :=
  match c.argTypes.toList with
  | [t, t'] =>
    match P.underlying t with
    | some (.slice e) =>
      match tI P e, rowsOf x with
      | some (n, b, _), some add =>
        if t == t' && 0 < n && 0 < b && (zeroT P e).any (·.cells.size == n) then
          match s with
          | .raw (.slice none 0 0) => .fresh (oneOk n add ∧ add.length * b ≤ 140737488355328) e add
          | .own k ver rows => .grow (szOk n rows ∧ oneOk n add ∧ (rows.length + add.length) * b ≤ 140737488355328) k ver e rows add
          | _ => .bad
        else .bad
      | _, _ => .bad
    | _ => .bad
  | _ => .bad

/-! ### maps -/
/-- Plain values without any memory. -/
def flatD : DV → Bool
  | .raw _ => true
  | .agg cs => cs.all flat0
  | _ => false
def eqK : DV → DV → Option Bool
  | .raw (.int k a), .raw (.int k' b) => if k = k' then some (a == b) else none
  | .raw (.string a), .raw (.string b) => some (bs a == bs b)
  | .raw (.bool a), .raw (.bool b) => some (a == b)
  | _, _ => none
/-- Keys of a plain type. -/
def keyT : TypeDesc → DV → Bool
  | .int _, .raw (.int _ _) => true
  | .string, .raw (.string _) => true
  | .bool, .raw (.bool _) => true
  | _, _ => false
def findL (key : DV) : List DV → Option (Option DV)
  | [] => some none
  | .tup [k, v] :: l => match eqK key k with
    | some true => some (some v)
    | some false => findL key l
    | none => none
  | _ => none
def putL (key val : DV) : List DV → Option (List DV)
  | [] => some [.tup [key, val]]
  | .tup [k, v] :: l => match eqK key k with
    | some true => some (.tup [key, val] :: l)
    | some false => (putL key val l).map (.tup [k, v] :: ·)
    | none => none
  | _ => none
def mapLen : List DV → Option DV
  | [.tup l] => some (.raw (.int .i64 l.length))
  | _ => none
def mapFind (key zero : DV) (ok : Bool) : List DV → Option DV
  | [.tup l] => match findL key l with
    | some (some v) => some (if ok then .tup [v, .raw (.bool true)] else v)
    | some none => some (if ok then .tup [zero, .raw (.bool false)] else zero)
    | none => none
  | _ => none
def mapPut (key val : DV) : List DV → Option (List DV)
  | [.tup l] => (putL key val l).map fun l => [.tup l]
  | _ => none
def lookupD (P : Program) (t : TypeId) (m key : DV) (ok : Bool) : Out :=
  match P.underlying t with
  | some (.map kt et) =>
    match P.underlying kt, zeroT P et, m with
    | some kd, some z, .mref k => if keyT kd key && flatD (lit z) then .look k (mapFind key (lit z) ok) else .bad
    | some kd, some z, .raw (.map none) => if keyT kd key && flatD (lit z) then .val True (if ok then .tup [lit z, .raw (.bool false)] else lit z) else .bad
    | _, _, _ => .bad
  | _ => .bad
def updateD (P : Program) (t : TypeId) (m key val : DV) : Out :=
  match P.underlying t, m with
  | some (.map kt _), .mref k =>
    match P.underlying kt with
    | some kd => if keyT kd key && flatD val then .turn k (mapPut key val) else .bad
    | none => .bad
  | _, _ => .bad
def leafy : DV → Bool
  | .agg _ => false
  | .tup _ => false
  | .junk => false
  | _ => true
def funcD (fn : Fn) (first caps : List DV) : Out :=
  match fn, first with
  | .func f, [] => if caps.all leafy then .val True (.clo f caps) else .bad
  | _, _ => .bad

def lenD (P : Program) (c : Call) (x : DV) : Out :=
  match c.argTypes.toList with
  | [t] =>
    match P.underlying t, x with
    | some .string, .raw (.string s) => .val True (.raw (.int .i64 (bs s).length))
    | some (.slice _), x => match rowsOf x with
      | some rows => .val True (.raw (.int .i64 rows.length))
      | none => .bad
    | some (.array n _), _ => .val True (.raw (.int .i64 n))
    | some (.map _ _), .mref k => .look k mapLen
    | _, _ => .bad
  | _ => .bad

def callD (P : Program) (c : Call) (ρ : Operand → DV) : Out :=
  match c.callee with
  | .builtin .len => match c.args.toList with
    | [x] => lenD P c (ρ x)
    | _ => .bad
  | .builtin .append => match c.args.toList with
    | [s, x] => appendD P c (ρ s) (ρ x)
    | _ => .bad
  | .value f => match ρ f with
    | .raw (.func (.func f) first captured) => if first.isEmpty && captured.isEmpty then .call f (c.args.toList.map ρ) else .bad
    | .clo f caps => .call f (c.args.toList.map ρ ++ caps)
    | _ => .bad
  | _ => .bad

def convD (P : Program) (src dst : TypeId) (x : DV) : Out :=
  match P.underlying src, P.underlying dst, x with
  | some _, some (.int k), .raw (.int _ n) => .val True (.raw (.int k (k.wrap n)))
  | some .string, some .string, .raw (.string s) => .val True (.raw (.string s))
  | _, _, _ => .bad

def opD (P : Program) (o : Oper) (ρ : Operand → DV) : Out :=
  match o.op with
  | .move x | .assign x => .val True (ρ x)
  | .pick c a b => match ρ c with
    | .raw (.bool t) => .val True (cond t (ρ a) (ρ b))
    | _ => .bad
  | .box t x => if notTup (ρ x) then .box t (ρ x).cells else .bad
  | .alloc t => match zeroT P t with
    | some z => if notTup (lit z) then .box t (lit z).cells else .bad
    | none => .bad
  | .build t parts => buildD P t (parts.toList.map fun (i, x) => (i, ρ x))
  | .buildSlice t len parts => buildSliceD P t len (parts.toList.map fun (i, x) => (i, ρ x))
  | .makeSlice t l c => makeSliceD P t (ρ l) (ρ c)
  | .load t a => loadD P t (ρ a)
  | .store t a v => storeD P t (ρ a) (ρ v)
  | .nilCheck x => match ρ x with
    | .ptr c => .val True (.ptr c)
    | .ref k off => .val True (.ref k off)
    | _ => .bad
  | .binOp op t x y _ => binD P op t (ρ x) (ρ y)
  | .unOp op _ x => unD op (ρ x)
  | .convert s d x => convD P s d (ρ x)
  | .slice t x lo hi none => sliceD P t (ρ x) (lo.map ρ) (hi.map ρ)
  | .fieldAddr t x f => fieldAddrD P t (ρ x) f
  | .field t x f => fieldD P t (ρ x) f
  | .indexAddr t x i => indexAddrD P t (ρ x) (ρ i)
  | .index t x i => indexD P t (ρ x) (ρ i)
  | .extract x i => match ρ x with
    | .tup ds => match ds[i]? with
      | some d => .val True d
      | none => .bad
    | _ => .bad
  | .call c => callD P c ρ
  | .makeMap _ none => .map
  | .lookup t m k ok => lookupD P t (ρ m) (ρ k) ok
  | .mapUpdate t m k x => updateD P t (ρ m) (ρ k) (ρ x)
  | .makeFunc fn first caps => funcD fn (first.toList.map ρ) (caps.toList.map ρ)
  | _ => .bad

/-- A call that leaves all memory as it was, and tells nobody's own. -/
def FnD (P : Program) (f : FuncId) (args : List DV) (r : DV) : Prop :=
  (∃ fn, P.funcs[f]? = some fn ∧ (fn.name == "runtime.NumGoroutine") = false ∧ fn.body.isNone = false) ∧
  ∀ (w : World) (F : Facts) (vs : Array Value), F.ok w → BaseOk F w → vs.size = args.length → (∀ (j : Nat) x d, vs[j]? = some x → args[j]? = some d → RP F x d) →
    Calls P f vs w fun e w' => ∃ v F', e = .returned v ∧ F.sub F' ∧ F'.ok w' ∧ (∀ b o x, F' b o x → F b o x ∨ w.heap.size ≤ b) ∧ RP F' v r ∧ Below w.heap.size w w'

/-- What is handed to a call: what grows and what lies in boxes is seen as it is now. Whether a box was seen is told. -/
def seen0 (s : St) : DV → Option (DV × Bool)
  | .own _ _ r => some (.sl r, false)
  | .raw (.slice none 0 0) => some (.sl [], false)
  | .ref k off => match s.heap k with
    | some cells => if (cells.drop off).all pure0 then some (.ptr (cells.drop off), true) else none
    | none => none
  | .tup _ => none
  | .agg _ => none
  | .junk => none
  | .mref _ => none
  | .clo _ _ => none
  | d => some (d, false)
def seen (s : St) : DV → Option (DV × Bool)
  | .agg cs => if cs.all (fun d => pure0 (imm0 d)) then some (.agg (cs.map imm0), false) else none
  | d => seen0 s d
def seenAll (s : St) : List DV → Option (List DV × Bool)
  | [] => some ([], false)
  | d :: ds => match seen s d, seenAll s ds with
    | some (x, b), some (xs, c) => some (x :: xs, b || c)
    | _, _ => none
def flatT : DV → Bool
  | .tup ds => ds.all flatD
  | d => flatD d

def storable (new : List DV) : Prop := ∀ d ∈ new, one0 (imm0 d) = true ∨ ∃ k' o', d = .ref k' o'
def Out.step (P : Program) (dst : Option Tmp) (s s' : St) : Out → Prop
  | .val c d => c ∧ s' = s.put dst d
  | .box t cells => ∃ d, dst = some d ∧ s' = { env := upd s.env d (.ref (d, s.gen d) 0), heap := updK s.heap (d, s.gen d) (some cells), tip := s.tip, gen := upd s.gen d (s.gen d + 1) }
  | .fresh c e rows => c ∧ ∃ d, dst = some d ∧ s' = { env := upd s.env d (.own (d, s.gen d) 0 rows), heap := s.heap, tip := updK s.tip (d, s.gen d) (some (0, e)), gen := upd s.gen d (s.gen d + 1) }
  | .load k off n agg => ∃ cells, s.heap k = some cells ∧ off + n ≤ cells.length ∧ s' = s.put dst (mk agg ((cells.drop off).take n))
  | .store k off n new => ∃ cells, s.heap k = some cells ∧ new.length = n ∧ off + n ≤ cells.length ∧ storable new ∧ s' = { s with heap := updK s.heap k (some (splice cells off new)) }.put dst (.raw undef)
  | .grow c k ver e rows add => c ∧ s.tip k = some (ver, e) ∧ ∃ d, dst = some d ∧ s' = { env := upd s.env d (.own k (ver + 1) (rows ++ add)), heap := s.heap, tip := updK s.tip k (some (ver + 1, e)), gen := s.gen }
  | .call f args => ∃ xs b r, seenAll s args = some (xs, b) ∧ FnD P f xs r ∧ (b = true → flatT r = true) ∧ s' = s.put dst r
  | .map => ∃ d, dst = some d ∧ s' = { env := upd s.env d (.mref (d, s.gen d)), heap := updK s.heap (d, s.gen d) (some [.tup []]), tip := s.tip, gen := upd s.gen d (s.gen d + 1) }
  | .look k f => ∃ cells d, s.heap k = some cells ∧ f cells = some d ∧ s' = s.put dst d
  | .turn k f => ∃ cells cells', s.heap k = some cells ∧ f cells = some cells' ∧ s' = { s with heap := updK s.heap k (some cells') }.put dst (.raw undef)
  | .bad => False

/-- Whether an operation's guard lets it run; nothing: it cannot be told. -/
def wantedD (ops : Array Oper) (s : St) (o : Oper) : Option Bool :=
  match o.guard with
  | none => some true
  | some (j, want) =>
    match (ops[j]?).bind (·.dst) with
    | some t => match s.env t with
      | .raw (.bool b) => some (b == want)
      | .raw _ => some false
      | _ => none
    | none => some false
def StepD (P : Program) (ops : Array Oper) (o : Oper) (s s' : St) : Prop :=
  match wantedD ops s o with
  | some true => (opD P o s.ev).step P o.dst s s'
  | some false => s' = s.put o.dst (.raw undef)
  | none => False
end Go.Proofs.YtdbaklnjemcfgaaGreatDoor.D
