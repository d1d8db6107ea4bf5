/- What an operation does to plain data and memory of a call's own (opE, OutE). Conditions: none. -/
import Derived.Test.YtdbaklnjemcfgaaGreatDoorEVal
namespace Go.Proofs.YtdbaklnjemcfgaaGreatDoor.E
open Go.RowKit Go.Proofs.YtdbaklnjemcfgaaGreatDoor.Mem Go.Proofs.YtdbaklnjemcfgaaGreatDoor.D
set_option linter.unusedVariables false
set_option linter.unusedSimpArgs false

/-- A call's own state: its slots, memory, the next free number. -/
structure SE where
  env : Nat → EV
  heap : Hp
  next : Nat
def SE.put (s : SE) (dst : Option Tmp) (d : EV) : SE :=
  match dst with
  | some t => { s with env := upd s.env t d }
  | none => s
def SE.ev (s : SE) : Operand → EV
  | .tmp t => s.env t
  | .const v => lite v
  | .global g => er (.pointer (some ⟨g, 0, none⟩))
  | .func f => er (.func (.func f) #[] #[])

def mkE (agg : Bool) (cells : List EV) : EV := if agg then .agg cells else cells.headD .junk
def spliceE (cells : List EV) (off : Nat) (new : List EV) : List EV := cells.take off ++ new ++ cells.drop (off + new.length)

/-- What comes of an operation; each with what must hold for it. -/
inductive OutE where
  | val (c : Prop) (d : EV)
  | new (c : Prop) (o : EO) (mk : Nat → EV)
  | look (k : Nat) (r : EO → EV → Prop)
  | eff (r : Hp → Nat → EV → Hp → Nat → Prop)
  | call (f : FuncId) (args : List EV)
  | bad

/-- Values that may be stored in a cell. -/
def oneE : EV → Bool
  | .im d => one0 d
  | .agg _ => false
  | .tup _ => false
  | .junk => false
  | _ => true

def fillE (place : Nat → Option (Nat × Nat)) (cells : List EV) : List (Nat × EV) → Option (List EV)
  | [] => some cells
  | (i, d) :: rest =>
    match place i with
    | none => none
    | some (off, n) => if solid d && d.cells.length == n && off + n ≤ cells.length then fillE place (spliceE cells off d.cells) rest else none
def buildE (P : Program) (t : TypeId) (parts : List (Nat × EV)) : OutE :=
  match P.underlying t, zeroT P t with
  | some (.struct fs), some z =>
    if solid (lite z) && (fs.all fun f => (tI P f.type).isSome) then
      match fillE (places P fs) (lite z).cells parts with
      | some cells => .val True (.agg cells)
      | none => .bad
    else .bad
  | some (.array _ e), some z =>
    match tI P e with
    | some (n, _, _) =>
      if solid (lite z) then
        match fillE (fun i => some (i * n, n)) (lite z).cells parts with
        | some cells => .val True (.agg cells)
        | none => .bad
      else .bad
    | none => .bad
  | _, _ => .bad
/-- So many times the same cells. -/
def reps (z : List EV) (k : Nat) : List EV := (List.replicate k z).flatten
def buildSliceE (P : Program) (t : TypeId) (len : Nat) (parts : List (Nat × EV)) : OutE :=
  match P.underlying t with
  | some (.slice e) =>
    match tI P e, zeroT P e with
    | some (n, b, _), some z =>
      if 0 < n && len * n ≤ 16777216 && z.cells.size == n && solid (lite z) then
        match fillE (fun i => some (i * n, n)) (reps (lite z).cells len) parts with
        | some cells => .new True (.cells cells) (fun k => .sl k 0 len len n true)
        | none => .bad
      else .bad
    | _, _ => .bad
  | _ => .bad
def intE? : EV → Option Int
  | .im (.raw (.int _ n)) => some n
  | _ => none
def makeSliceE (P : Program) (t : TypeId) (len cap : EV) : OutE :=
  match P.underlying t, intE? len, intE? cap with
  | some (.slice e), some l, some c =>
    match tI P e, zeroT P e with
    | some (n, b, _), some z => if 0 < n && 0 < b && z.cells.size == n && solid (lite z) then
        .new (0 ≤ l ∧ l ≤ c ∧ c * b ≤ 140737488355328) (.cells (reps (lite z).cells c.toNat)) (fun k => .sl k 0 l.toNat c.toNat n true)
      else .bad
    | _, _ => .bad
  | _, _, _ => .bad

/-- What method D makes of it. -/
def delegD (P : Program) (o : Oper) (ρ : Operand → EV) : OutE :=
  match opD P o (fun x => toD (ρ x)) with
  | .val c d => .val c (ofD d)
  | _ => .bad

def fieldE (P : Program) (t : TypeId) (x : EV) (f : Nat) : OutE :=
  match P.underlying t with
  | some (.struct fs) =>
    match fs[f]? with
    | some fd =>
      match x, tI P fd.type with
      | .agg cells, some (n, _, g) => .val (fd.offset + n ≤ cells.length ∧ (g = false → n = 1)) (mkE g ((cells.drop fd.offset).take n))
      | _, _ => .bad
    | none => .bad
  | _ => .bad
def fieldAddrE (P : Program) (t : TypeId) (k off : Nat) (f : Nat) : OutE :=
  match P.underlying t with
  | some (.struct fs) =>
    match fs[f]? with
    | some fd =>
      match tI P fd.type with
      | some (n, _, _) => .val (n ≠ 0) (.ptr k (off + fd.offset))
      | _ => .bad
    | none => .bad
  | _ => .bad
def indexE (P : Program) (t : TypeId) (cells : List EV) (i : EV) : OutE :=
  match intE? i, P.underlying t with
  | some i, some (.array m e) =>
    match tI P e with
    | some (n, _, g) => .val (0 ≤ i ∧ i < m ∧ i.toNat * n + n ≤ cells.length ∧ (g = false → n = 1)) (mkE g ((cells.drop (i.toNat * n)).take n))
    | none => .bad
  | _, _ => .bad
def indexAddrE (P : Program) (t : TypeId) (x i : EV) : OutE :=
  match intE? i, P.underlying t, x with
  | some i, some (.slice e), .sl k off len cap n ex =>
    match tI P e with
    | some (n', _, _) => .val (n' = n ∧ 0 ≤ i ∧ i < len) (.ptr k (off + i.toNat * n))
    | none => .bad
  | some i, some (.array m e), .ptr k off =>
    match tI P e with
    | some (n, _, _) => .val (0 ≤ i ∧ i < m) (.ptr k (off + i.toNat * n))
    | none => .bad
  | _, _, _ => .bad
def loE : Option EV → Option Int
  | none => some 0
  | some d => intE? d
def hiE (n : Nat) : Option EV → Option Int
  | none => some n
  | some d => intE? d
def sliceE (P : Program) (t : TypeId) (k off len cap n : Nat) (ex : Bool) (lo hi mx : Option EV) : OutE :=
  match P.underlying t with
  | some (.slice e) =>
    match tI P e, loE lo, hiE len hi with
    | some (n', _, _), some l, some h =>
      match mx with
      | none => .val (n' = n ∧ 0 ≤ l ∧ l ≤ h ∧ h ≤ cap) (.sl k (off + l.toNat * n) (h.toNat - l.toNat) (cap - l.toNat) n ex)
      | some m =>
        match hi, intE? m with
        | some _, some m => .val (n' = n ∧ 0 ≤ l ∧ l ≤ h ∧ h ≤ m ∧ m ≤ cap) (.sl k (off + l.toNat * n) (h.toNat - l.toNat) (m.toNat - l.toNat) n true)
        | _, _ => .bad
    | _, _, _ => .bad
  | _ => .bad
/-- x[:0:0], of nothing that may grow. -/
def sliceNoneE (P : Program) (t : TypeId) (x : EV) (lo hi mx : Option EV) : OutE :=
  match P.underlying t, x with
  | some (.slice e), .im d =>
    match tI P e, rowsOf d, loE lo, hi.bind intE?, mx.bind intE? with
    | some _, some _, some l, some h, some m => .val (l = 0 ∧ h = 0 ∧ m = 0) .emp
    | _, _, _, _, _ => .bad
  | some (.slice e), .emp =>
    match tI P e, loE lo, hiE 0 hi, hiE 0 mx with
    | some _, some l, some h, some m => .val (l = 0 ∧ h = 0 ∧ m = 0 ∧ (mx.isSome = true → hi.isSome = true)) .emp
    | _, _, _, _ => .bad
  | _, _ => .bad

/-- Nil, or surely not; nothing: it cannot be told. -/
def nilK (P : Program) (t : TypeId) (x : EV) : Option Bool :=
  match P.underlying t, x with
  | some (.pointer _), .im (.raw (.pointer none)) => some true
  | some (.pointer _), .im (.ptr _) => some false
  | some (.pointer _), .ptr _ _ => some false
  | some (.slice _), .im (.raw (.slice none 0 0)) => some true
  | some (.slice _), .im (.sl (_ :: _)) => some false
  | some (.slice _), .sl _ _ _ _ _ _ => some false
  | some (.map _ _), .im (.raw (.map none)) => some true
  | some (.map _ _), .mp _ => some false
  | some (.func _ _ _), .im (.raw .nilFunc) => some true
  | some (.func _ _ _), .clo _ _ => some false
  | some (.func _ _ _), .bnd _ _ => some false
  | some (.func _ _ _), .im (.raw (.func (.func _) _ _)) => some false
  | _, _ => none
def eqNil (P : Program) (t : TypeId) (x y : EV) : Option Bool :=
  match nilK P t x, nilK P t y with
  | some true, some b => some b
  | some false, some true => some false
  | _, _ => none
def binE (P : Program) (o : Oper) (ρ : Operand → EV) (op : BinOp) (t : TypeId) (x y : EV) : OutE :=
  match op with
  | .eql => match eqNil P t x y with
    | some b => .val True (er (.bool b))
    | none => delegD P o ρ
  | .neq => match eqNil P t x y with
    | some b => .val True (er (.bool (!b)))
    | none => delegD P o ρ
  | _ => delegD P o ρ

def loadE (P : Program) (t : TypeId) (k off : Nat) : OutE :=
  match tI P t with
  | some (n, _, g) => if g || n == 1 then .look k (fun o d => ∃ cs, o = .cells cs ∧ off + n ≤ cs.length ∧ d = mkE g ((cs.drop off).take n)) else .bad
  | _ => .bad
def storeE (P : Program) (t : TypeId) (k off : Nat) (v : EV) : OutE :=
  match tI P t with
  | some (n, _, _) => if solid v && v.cells.length == n && v.cells.all oneE then
      .eff (fun h nx d h' nx' => ∃ cs, h k = some (.cells cs) ∧ off + n ≤ cs.length ∧ d = er undef ∧ h' = upd h k (some (.cells (spliceE cs off v.cells))) ∧ nx' = nx)
    else .bad
  | _ => .bad

/-- The cells that are appended: how many elements, and what they are. -/
def srcE (h : Hp) (n : Nat) (x : EV) (m : Nat) (add : List EV) : Prop :=
  match x with
  | .im (.sl rows) => m = rows.length ∧ szOk n rows ∧ add = rows.flatten.map .im
  | .im (.raw (.slice none 0 0)) => m = 0 ∧ add = []
  | .emp => m = 0 ∧ add = []
  | .sl k off len cap n' ex => n' = n ∧ ∃ cs, h k = some (.cells cs) ∧ off + len * n ≤ cs.length ∧ m = len ∧ add = (cs.drop off).take (len * n)
  | _ => False
/-- What an append does. -/
def appE (h : Hp) (nx n b : Nat) (s : EV) (m : Nat) (add : List EV) (d : EV) (h' : Hp) (nx' : Nat) : Prop :=
  match s with
  | .sl k off len cap n' ex => n' = n ∧ ∃ cs, h k = some (.cells cs) ∧ off + cap * n ≤ cs.length ∧ (len + m) * b ≤ 140737488355328 ∧
      if len + m ≤ cap then d = .sl k off (len + m) cap n ex ∧ h' = upd h k (some (.cells (spliceE cs (off + len * n) add))) ∧ nx' = nx
      else d = .sl nx 0 (len + m) (len + m) n false ∧ h' = upd (if ex then h else upd h k none) nx (some (.cells ((cs.drop off).take (len * n) ++ add))) ∧ nx' = nx + 1
  | s => (s = .emp ∨ s = er (.slice none 0 0)) ∧ m * b ≤ 140737488355328 ∧
      if m = 0 then d = s ∧ h' = h ∧ nx' = nx
      else d = .sl nx 0 m m n false ∧ h' = upd h nx (some (.cells add)) ∧ nx' = nx + 1
/-- append(s, make([]T, l)...): the count stands for the slice. -/
def appZeroE (P : Program) (t' e : TypeId) (n b : Nat) (s x : EV) : OutE :=
  match P.underlying t', zeroT P e, intE? x with
  | some (.int _), some z, some l =>
    if 0 < n && 0 < b && z.cells.size == n && solid (lite z) && (lite z).cells.all oneE then
      .eff (fun h nx d h' nx' => 0 ≤ l ∧ l ≤ 140737488355328 ∧ appE h nx n b s l.toNat (reps (lite z).cells l.toNat) d h' nx')
    else .bad
  | _, _, _ => .bad
def appendE (P : Program) (c : Call) (s x : EV) : OutE :=
  match c.argTypes.toList with
  | [t, t'] =>
    match P.underlying t with
    | some (.slice e) =>
      match tI P e with
      | some (n, b, _) =>
        if t == t' && 0 < n && 0 < b && (zeroT P e).any (·.cells.size == n) then
          .eff (fun h nx d h' nx' => ∃ m add, srcE h n x m add ∧ (∀ u ∈ add, oneE u = true) ∧ appE h nx n b s m add d h' nx')
        else appZeroE P t' e n b s x
      | _ => .bad
    | _ => .bad
  | _ => .bad
def lenE (P : Program) (o : Oper) (ρ : Operand → EV) (c : Call) (x : EV) : OutE :=
  match c.argTypes.toList with
  | [t] =>
    match P.underlying t, x with
    | some (.slice _), .sl _ _ len _ _ _ => .val True (er (.int .i64 len))
    | some (.slice _), .emp => .val True (er (.int .i64 0))
    | some (.slice _), .im (.raw (.slice none 0 0)) => .val True (er (.int .i64 0))
    | some (.map _ _), .im (.raw (.map none)) => .val True (er (.int .i64 0))
    | some (.map _ _), .mp k => .look k (fun o d => ∃ es clk, o = .map es clk ∧ d = er (.int .i64 es.length))
    | _, _ => delegD P o ρ
  | _ => .bad
def mmE (mx : Bool) (x y : EV) : OutE :=
  match x, y with
  | .im (.raw (.int k a)), .im (.raw (.int _ b)) => .val True (er (.int k (if mx then (if b > a then b else a) else (if b < a then b else a))))
  | _, _ => .bad
/-! ### interfaces, copy, clear, cap -/
/-- The function behind a method of a pointer. -/
def methE (P : Program) (t : TypeId) (name : String) : Option FuncId :=
  match P.info? t with
  | some i => match i.methods.find? (·.name == name) with
    | some m => match m.path.toList, m.func, P.underlying t with
      | [], some (f, true), some (.pointer _) => some f
      | _, _, _ => none
    | none => none
  | none => none
def invokeE (P : Program) (name : String) (x : EV) (args : List EV) : OutE :=
  match x with
  | .ifc t d => match methE P t name with
    | some f => .call f (d :: args)
    | none => .bad
  | _ => .bad
def copyE (P : Program) (c : Call) (x y : EV) : OutE :=
  match c.argTypes.toList with
  | t :: _ => match P.underlying t with
    | some (.slice e) => match tI P e with
      | some (n, _, _) => match x with
        | .sl k off len _ n' _ => .eff (fun h nx d h' nx' => ∃ m add cs, n' = n ∧ srcE h n y m add ∧ (∀ u ∈ add, oneE u = true) ∧ h k = some (.cells cs) ∧ off + len * n ≤ cs.length ∧ d = er (.int .i64 (min m len : Nat)) ∧ h' = upd h k (some (.cells (spliceE cs off (add.take (min m len * n))))) ∧ nx' = nx)
        | _ => .bad
      | none => .bad
    | _ => .bad
  | _ => .bad
def clearE (P : Program) (c : Call) (x : EV) : OutE :=
  match c.argTypes.toList with
  | [t] => match P.underlying t, x with
    | some (.map _ _), .mp k => .eff (fun h nx d h' nx' => ∃ es clk, h k = some (.map es clk) ∧ d = .tup [] ∧ h' = upd h k (some (.map [] clk)) ∧ nx' = nx)
    | some (.slice e), .sl k off len _ n _ => match tI P e, zeroT P e with
      | some (n', _, _), some z =>
        if solid (lite z) && z.cells.size == n && n' == n && (lite z).cells.all oneE then
          .eff (fun h nx d h' nx' => ∃ cs, h k = some (.cells cs) ∧ off + len * n ≤ cs.length ∧ d = .tup [] ∧ h' = upd h k (some (.cells (spliceE cs off (reps (lite z).cells len)))) ∧ nx' = nx)
        else .bad
      | _, _ => .bad
    | _, _ => .bad
  | _ => .bad
def capE (P : Program) (c : Call) (x : EV) : OutE :=
  match c.argTypes.toList with
  | [t] => match P.underlying t, x with
    | some (.slice _), .sl _ _ _ cap _ true => .val True (er (.int .i64 cap))
    | some (.slice _), .im (.raw (.slice none 0 0)) => .val True (er (.int .i64 0))
    | some (.slice _), .emp => .val True (er (.int .i64 0))
    | _, _ => .bad
  | _ => .bad
def extC (P : Program) (c : Call) (ρ : Operand → EV) : OutE :=
  match c.callee with
  | .invoke x name => invokeE P name (ρ x) (c.args.toList.map ρ)
  | .builtin .copy => match c.args.toList with
    | [x, y] => copyE P c (ρ x) (ρ y)
    | _ => .bad
  | .builtin .clear => match c.args.toList with
    | [x] => clearE P c (ρ x)
    | _ => .bad
  | .builtin .cap => match c.args.toList with
    | [x] => capE P c (ρ x)
    | _ => .bad
  | _ => .bad
def ifaceE (P : Program) (t : TypeId) (x : EV) : OutE :=
  match P.underlying t with
  | some (.interface _) => .bad
  | some _ => if leafE x then .val True (.ifc t x) else .bad
  | none => .bad
def extE (P : Program) (o : Oper) (ρ : Operand → EV) : OutE :=
  match o.op with
  | .makeInterface t x => ifaceE P t (ρ x)
  | _ => .bad
/-- a[:] of an array in memory. -/
def sliceArrE (P : Program) (t : TypeId) (k off : Nat) : OutE :=
  match P.underlying t with
  | some (.array m e) => match tI P e with
    | some (n, _, _) => .look k (fun o d => ∃ cs, o = .cells cs ∧ off + m * n ≤ cs.length ∧ m ≤ maxLen ∧ d = .sl k off m m n true)
    | none => .bad
  | _ => .bad
/-- string(b) of bytes in memory. -/
def bytesL : List EV → Option (List UInt8)
  | [] => some []
  | .im (.raw (.int .u8 n)) :: l => (bytesL l).map (UInt8.ofNat n.toNat :: ·)
  | _ => none
def toText (P : Program) (src dst : TypeId) : Bool :=
  match P.underlying src, P.underlying dst with
  | some (.slice e), some .string => match P.underlying e with
    | some (.int .u8) => true
    | _ => false
  | _, _ => false
def bytesE (P : Program) (src dst : TypeId) (k off len n : Nat) : OutE :=
  if toText P src dst && n == 1 then .look k (fun o d => ∃ cs l, o = .cells cs ∧ off + len ≤ cs.length ∧ bytesL ((cs.drop off).take len) = some l ∧ d = er (.string ⟨⟨l⟩⟩)) else .bad
def bytesNoneE (P : Program) (src dst : TypeId) : OutE := if toText P src dst then .val True (er (.string ⟨⟨[]⟩⟩)) else .bad
def callE (P : Program) (o : Oper) (c : Call) (ρ : Operand → EV) : OutE :=
  match c.callee with
  | .builtin .len => match c.args.toList with
    | [x] => lenE P o ρ c (ρ x)
    | _ => .bad
  | .builtin .append => match c.args.toList with
    | [s, x] => appendE P c (ρ s) (ρ x)
    | _ => .bad
  | .builtin .min => match c.args.toList with
    | [x, y] => mmE false (ρ x) (ρ y)
    | _ => .bad
  | .builtin .max => match c.args.toList with
    | [x, y] => mmE true (ρ x) (ρ y)
    | _ => .bad
  | .value f => match ρ f with
    | .im (.raw (.func (.func f) first captured)) => if first.isEmpty && captured.isEmpty then .call f (c.args.toList.map ρ) else .bad
    | .clo f caps => .call f (c.args.toList.map ρ ++ caps)
    | .bnd f first => .call f (first ++ c.args.toList.map ρ)
    | _ => .bad
  | _ => extC P c ρ
def funcE (fn : Fn) (first caps : List EV) : OutE :=
  match fn, first with
  | .func f, [] => if caps.all leafE then .val True (.clo f caps) else .bad
  | .func f, a :: l => if caps.isEmpty && (a :: l).all leafE then .val True (.bnd f (a :: l)) else .bad
  | _, _ => .bad

/-! ### maps -/
/-- Two keys, or two fields, of plain types. -/
def eq0 : EV → EV → Option Bool
  | .im (.raw (.int k a)), .im (.raw (.int k' b)) => if k = k' then some (a == b) else none
  | .im (.raw (.string a)), .im (.raw (.string b)) => some (bs a == bs b)
  | .im (.raw (.bool a)), .im (.raw (.bool b)) => some (a == b)
  | _, _ => none
def eqL : List EV → List EV → Option Bool
  | [], [] => some true
  | x :: xs, y :: ys => match eq0 x y, eqL xs ys with
    | some b, some c => some (b && c)
    | _, _ => none
  | _, _ => none
def eqKE : EV → EV → Option Bool
  | .agg xs, .agg ys => eqL xs ys
  | .agg _, _ => none
  | _, .agg _ => none
  | x, y => eq0 x y
/-- A plain value of a type of one cell. -/
def key0 : TypeDesc → EV → Bool
  | .int _, .im (.raw (.int _ _)) => true
  | .string, .im (.raw (.string _)) => true
  | .bool, .im (.raw (.bool _)) => true
  | _, _ => false
/-- The fields of a struct of plain fields, each of one cell, one by one. -/
def plainFields (P : Program) : Nat → List Field → List EV → Bool
  | _, [], [] => true
  | i, f :: fs, x :: xs => f.offset == i && f.name != "_" && (tI P f.type == some (1, (((P.info? f.type).map (·.bytes)).getD 0), false)) && (match P.underlying f.type with | some d => key0 d x | none => false) && plainFields P (i + 1) fs xs
  | _, _, _ => false
def keyE (P : Program) (kt : TypeId) (x : EV) : Bool :=
  match P.underlying kt, x with
  | some (.struct fs), .agg xs => plainFields P 0 fs.toList xs && !P.stoodInHeld kt
  | some (.array m e), .agg xs => xs.length == m && (tI P e == some (1, (((P.info? e).map (·.bytes)).getD 0), false)) && (match P.underlying e with | some d => xs.all (key0 d) | none => false)
  | some d, x => key0 d x
  | none, _ => false
def findE (key : EV) : List (EV × EV × Nat) → Option (Option (EV × Nat))
  | [] => some none
  | (k, v, n) :: l => match eqKE key k with
    | some true => some (some (v, n))
    | some false => findE key l
    | none => none
def putE (key val : EV) (clk : Nat) : List (EV × EV × Nat) → Option (List (EV × EV × Nat))
  | [] => some [(key, val, clk)]
  | (k, v, n) :: l => match eqKE key k with
    | some true => some ((key, val, n) :: l)
    | some false => (putE key val clk l).map ((k, v, n) :: ·)
    | none => none
def stampE (born : Nat) (val : EV) : List (EV × EV × Nat) → Option (List (EV × EV × Nat))
  | [] => none
  | (k, v, n) :: l => if n = born then some ((k, val, n) :: l) else (stampE born val l).map ((k, v, n) :: ·)
def foundE (r : Option (EV × Nat)) (z : EV) (ok : Bool) : EV :=
  match r with
  | some (v, _) => if ok then .tup [v, er (.bool true)] else v
  | none => if ok then .tup [z, er (.bool false)] else z
def lookupE (P : Program) (t : TypeId) (m key : EV) (ok : Bool) : OutE :=
  match P.underlying t with
  | some (.map kt et) =>
    match zeroT P et with
    | some z =>
      if keyE P kt key then
        match m with
        | .mp k => .look k (fun o d => ∃ es clk r, o = .map es clk ∧ findE key es = some r ∧ d = foundE r (lite z) ok)
        | .im (.raw (.map none)) => .val True (foundE none (lite z) ok)
        | _ => .bad
      else .bad
    | none => .bad
  | _ => .bad
def updateE (P : Program) (t : TypeId) (m key val : EV) : OutE :=
  match P.underlying t, m with
  | some (.map kt _), .mp k =>
    if keyE P kt key then
      .eff (fun h nx d h' nx' => ∃ es clk es' r, h k = some (.map es clk) ∧ putE key val clk es = some es' ∧ findE key es = some r ∧ d = er undef ∧ h' = upd h k (some (.map es' (if r.isSome then clk else clk + 1))) ∧ nx' = nx)
    else .bad
  | _, _ => .bad
def entryE (P : Program) (t : TypeId) (m key : EV) : OutE :=
  match P.underlying t, m with
  | some (.map kt et), .mp k =>
    match zeroT P et with
    | some z =>
      if keyE P kt key then
        .eff (fun h nx d h' nx' => ∃ es clk es' r v n, h k = some (.map es clk) ∧ findE key es = some r ∧ (v, n) = r.getD (lite z, clk) ∧ putE key v clk es = some es' ∧ d = .tup [v, er (.int .i64 n)] ∧ h' = upd h k (some (.map es' (if r.isSome then clk else clk + 1))) ∧ nx' = nx)
      else .bad
    | none => .bad
  | _, _ => .bad
def entryStoreE (m stamp val : EV) : OutE :=
  match m, intE? stamp with
  | .mp k, some n => .eff (fun h nx d h' nx' => ∃ es clk es', h k = some (.map es clk) ∧ 0 ≤ n ∧ stampE n.toNat val es = some es' ∧ d = er undef ∧ h' = upd h k (some (.map es' clk)) ∧ nx' = nx)
  | _, _ => .bad

def opE (P : Program) (o : Oper) (ρ : Operand → EV) : OutE :=
  match o.op with
  | .move x | .assign x => .val True (ρ x)
  | .pick c a b => match ρ c with
    | .im (.raw (.bool t)) => .val True (cond t (ρ a) (ρ b))
    | _ => .bad
  | .box t x => if solid (ρ x) then .new True (.cells (ρ x).cells) (fun k => .ptr k 0) else .bad
  | .alloc t => match zeroT P t with
    | some z => if solid (lite z) then .new True (.cells (lite z).cells) (fun k => .ptr k 0) else .bad
    | none => .bad
  | .build t parts => buildE P t (parts.toList.map fun (i, x) => (i, ρ x))
  | .buildSlice t len parts => buildSliceE P t len (parts.toList.map fun (i, x) => (i, ρ x))
  | .makeSlice t l c => makeSliceE P t (ρ l) (ρ c)
  | .load t a => match ρ a with
    | .ptr k off => loadE P t k off
    | _ => delegD P o ρ
  | .store t a v => match ρ a with
    | .ptr k off => storeE P t k off (ρ v)
    | _ => .bad
  | .nilCheck x => match ρ x with
    | .ptr k off => .val True (.ptr k off)
    | .clo f caps => .val True (.clo f caps)
    | .bnd f caps => .val True (.bnd f caps)
    | _ => delegD P o ρ
  | .binOp op t x y _ => binE P o ρ op t (ρ x) (ρ y)
  | .slice t x lo hi mx => match ρ x with
    | .sl k off len cap n ex => sliceE P t k off len cap n ex (lo.map ρ) (hi.map ρ) (mx.map ρ)
    | .emp => sliceNoneE P t .emp (lo.map ρ) (hi.map ρ) (mx.map ρ)
    | .ptr k off => match lo, hi, mx with
      | none, none, none => sliceArrE P t k off
      | _, _, _ => .bad
    | d => match mx with
      | none => delegD P o ρ
      | some _ => sliceNoneE P t d (lo.map ρ) (hi.map ρ) (mx.map ρ)
  | .fieldAddr t x f => match ρ x with
    | .ptr k off => fieldAddrE P t k off f
    | _ => delegD P o ρ
  | .field t x f => fieldE P t (ρ x) f
  | .indexAddr t x i => match ρ x with
    | .im _ => delegD P o ρ
    | d => indexAddrE P t d (ρ i)
  | .index t x i => match ρ x with
    | .agg cells => indexE P t cells (ρ i)
    | _ => delegD P o ρ
  | .extract x i => match ρ x with
    | .tup ds => match ds[i]? with
      | some d => .val True d
      | none => .bad
    | _ => .bad
  | .call c => callE P o c ρ
  | .makeMap _ none => .new True (.map [] 0) (fun k => .mp k)
  | .lookup t m k ok => lookupE P t (ρ m) (ρ k) ok
  | .mapUpdate t m k x => updateE P t (ρ m) (ρ k) (ρ x)
  | .mapEntry t m k => entryE P t (ρ m) (ρ k)
  | .entryStore _ m s x => entryStoreE (ρ m) (ρ s) (ρ x)
  | .makeFunc fn first caps => funcE fn (first.toList.map ρ) (caps.toList.map ρ)
  | .unOp .. => delegD P o ρ
  | .convert src dst x => match ρ x with
    | .sl k off len _ n _ => bytesE P src dst k off len n
    | .emp => bytesNoneE P src dst
    | .im (.raw (.slice none 0 0)) => bytesNoneE P src dst
    | _ => delegD P o ρ
  | _ => extE P o ρ

/-- What is known of a call: from memory h with free numbers from n on it answers d, and leaves memory h' and n'; all other memory stands. -/
def CallE (P : Program) (f : FuncId) (args : List EV) (h : Hp) (n : Nat) (d : EV) (h' : Hp) (n' : Nat) : Prop :=
  n ≤ n' ∧ (∃ fn, P.funcs[f]? = some fn ∧ (fn.name == "runtime.NumGoroutine") = false ∧ fn.body.isNone = false) ∧
  ∀ (T : Nat → Prop) (w0 : World) (R : Nat → Prop) (G : Gg) (w : World) (vs : Array Value), WE T w0 R G h w → (∀ k, n ≤ k → R k) → vs.size = args.length → (∀ (j : Nat) x y, vs[j]? = some x → args[j]? = some y → VV G x y) →
    Calls P f vs w fun e w' => ∃ v G', e = .returned v ∧ G.le (fun k => n ≤ k ∧ k < n') G' ∧ VV G' v d ∧ WE T w0 (fun k => R k ∧ ¬ (n ≤ k ∧ k < n')) G' h' w'

/-- An effect on memory. -/
def Eff (P : Program) (o : OutE) (h : Hp) (n : Nat) (d : EV) (h' : Hp) (n' : Nat) : Prop :=
  match o with
  | .eff r => r h n d h' n'
  | .call f args => CallE P f args h n d h' n'
  | _ => False

/-- Whether an operation's guard lets it run; nothing: it cannot be told. -/
def wantedE (ops : Array Oper) (s : SE) (o : Oper) : Option Bool :=
  match o.guard with
  | none => some true
  | some (j, want) =>
    match (ops[j]?).bind (·.dst) with
    | some t => match s.env t with
      | .im (.raw (.bool b)) => some (b == want)
      | .im (.raw _) => some false
      | _ => none
    | none => some false
end Go.Proofs.YtdbaklnjemcfgaaGreatDoor.E
