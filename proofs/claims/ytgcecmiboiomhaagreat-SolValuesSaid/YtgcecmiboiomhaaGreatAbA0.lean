/- The abstract values, the abstract heap and a computable evaluator over the loaded code: definitions only. -/
import Derived.Calls
import Derived.Laws.CopyRow
import Derived.Laws.Tables
import Derived.Laws.Cells
namespace Go.Ab
open Go

/-- A value without addresses: pointers and slices name abstract blocks, or hold what they lead to. -/
inductive AV where
  | any
  | bool (b : Bool)
  | int (k : IntKind) (n : Int)
  | str (s : ByteArray)
  | nilp | nilf | nili | nilm
  | agg (cs : List AV)
  | tup (vs : List AV)
  | ptr (b r o : Nat)
  | rop (row : List AV) (o : Nat)
  | sl (b s n : Nat) (c : Option Nat)
  | ro (rows : List (List AV)) (tight : Bool)
  | map (m : Nat)
  | fn (f : Fn) (first captured : List AV)
  | yld (l : Nat)
  | ifc (t : TypeId) (v : AV)
  deriving Inhabited

inductive ABlk where
  | rows (t : TypeId) (rs : List (List AV))
  | map (es : List (AV × AV))
  | loop (state : LoopState) (pending : Option Code) (nt : Nat) (t : Nat → AV) (params : List Tmp) (assign body : Code) (defers : Nat)
  | dfd
  deriving Inhabited

/-- The cells of a value. -/
def AV.cells : AV → List AV
  | .agg cs => cs
  | v => [v]

/-- May a value stand in one cell of memory? -/
def AV.one : AV → Bool
  | .any | .agg _ | .tup _ => false
  | _ => true

def ofConst1 : Value → AV
  | .bool b => .bool b
  | .int k n => .int k n
  | .string s => .str s
  | .pointer none => .nilp
  | .slice none 0 0 => .ro [] true
  | .map none => .nilm
  | .nilFunc => .nilf
  | .nilIface => .nili
  | _ => .any

def ofConst : Value → AV
  | .agg cs => .agg (cs.toList.map ofConst1)
  | .tuple vs => .tup (vs.toList.map ofConst1)
  | v => ofConst1 v

/-! ### What is read off the program's tables -/
def fieldsOf (P : Program) (t : TypeId) : Option (Array Field) :=
  match P.underlying t with
  | some (.struct fs) => some fs
  | _ => none

def aggT (P : Program) (t : TypeId) : Option Bool :=
  match P.underlying t with
  | some (.struct _) | some (.array _ _) => some true
  | some _ => some false
  | none => none

def sizeT (P : Program) (t : TypeId) : Option Nat := (P.info? t).map (·.size)

def zeroT (P : Program) (t : TypeId) : Option AV := (P.info? t).bind fun i => i.zero.map ofConst

def elemT (P : Program) (t : TypeId) : Option TypeId :=
  match P.underlying t with
  | some (.slice e) => some e
  | _ => none

/-- A part of a row: one cell, or a struct's cells. -/
def partA (P : Program) (t : TypeId) (cs : List AV) (off : Nat) : Option AV :=
  match aggT P t, sizeT P t with
  | some true, some n => if off + n ≤ cs.length then some (.agg ((cs.drop off).take n)) else none
  | some false, some _ => cs[off]?
  | _, _ => none

/-- A row with new cells from an offset on. -/
def over (cs : List AV) (off : Nat) (vs : List AV) : List AV := cs.take off ++ vs ++ cs.drop (off + vs.length)

def fillA (place : Nat → Option (Nat × Nat)) (cells : List AV) : List (Nat × AV) → Option (List AV)
  | [] => some cells
  | (i, v) :: rest =>
    match place i with
    | none => none
    | some (off, size) => if v.cells.length = size ∧ off + size ≤ cells.length ∧ v.cells.all AV.one = true then fillA place (over cells off v.cells) rest else none

/-! ### Equality -/
def eqLit : AV → AV → Option Bool
  | .bool a, .bool b => some (a == b)
  | .int k a, .int k' b => if k = k' then some (a == b) else none
  | .str a, .str b => some (a == b)
  | _, _ => none

/-- '==' by the type: numbers, bools, strings, and structs of such. -/
def eqT (P : Program) : Nat → TypeId → AV → AV → Option Bool
  | 0, _, _, _ => none
  | d + 1, t, x, y =>
    match P.underlying t, x, y with
    | some .bool, .bool a, .bool b => some (a == b)
    | some (.int _), .int k a, .int k' b => if k = k' then some (a == b) else none
    | some .string, .str a, .str b => some (a == b)
    | some (.struct fs), .agg xs, .agg ys =>
      if P.stoodInHeld t then none else
      fs.toList.foldr (fun f r =>
        if f.name = "_" then none else
        match partA P f.type xs f.offset, partA P f.type ys f.offset with
        | some a, some b =>
          match eqT P d f.type a b, r with
          | some p, some q => some (p && q)
          | _, _ => none
        | _, _ => none) (some true)
    | _, _, _ => none

/-- No part of the type is an interface: nothing is asked ahead of '=='. -/
def flatT (P : Program) : Nat → TypeId → Bool
  | 0, _ => false
  | d + 1, t =>
    match P.underlying t with
    | some (.struct fs) => fs.all fun f => flatT P d f.type
    | some (.interface _) | some (.array _ _) => false
    | some _ => true
    | none => false

def eqA (P : Program) (t : TypeId) (x y : AV) : Option Bool :=
  match P.underlying t, x, y with
  | some (.struct _), .agg xs, .agg ys => if flatT P 20 t then eqT P 20 t (.agg xs) (.agg ys) else none
  | some (.interface _), .nili, .ifc _ _ | some (.interface _), .ifc _ _, .nili => some false
  | some (.pointer _), .nilp, .nilp => some true
  | some (.pointer _), .nilp, .ptr _ _ _ | some (.pointer _), .ptr _ _ _, .nilp => some false
  | some (.func _ _ _), .nilf, .nilf => some true
  | some (.func _ _ _), .nilf, .fn _ _ _ | some (.func _ _ _), .fn _ _ _, .nilf => some false
  | some .bool, .bool a, .bool b => some (a == b)
  | _, _, _ => none

def constOp : Operand → Bool
  | .const _ => true
  | _ => false

/-- Is an operand the literal nil of a slice type? -/
def nilSl : Operand → Bool
  | .const (.slice none _ _) => true
  | _ => false

def binA (P : Program) (op : BinOp) (t : TypeId) (xo yo : Operand) (x y : AV) : Option AV :=
  match op, x, y with
  | .eql, .sl _ _ _ _, .ro [] _ | .eql, .ro (_ :: _) _, .ro [] _ => if nilSl yo then (match P.underlying t with | some (.slice _) => some (.bool false) | _ => none) else none
  | .neq, .sl _ _ _ _, .ro [] _ | .neq, .ro (_ :: _) _, .ro [] _ => if nilSl yo then (match P.underlying t with | some (.slice _) => some (.bool true) | _ => none) else none
  | .eql, .nili, .nili => if constOp xo || constOp yo then (match P.underlying t with | some (.interface _) => some (.bool true) | _ => none) else none
  | .neq, .nili, .nili => if constOp xo || constOp yo then (match P.underlying t with | some (.interface _) => some (.bool false) | _ => none) else none
  | op, .int k a, .int k' b =>
    if k ≠ k' then none else
    match op with
    | .add => some (.int k (k.wrap (a + b)))
    | .sub => some (.int k (k.wrap (a - b)))
    | .mul => some (.int k (k.wrap (a * b)))
    | .quo => if b = 0 then none else some (.int k (k.wrap (a.tdiv b)))
    | .rem => if b = 0 then none else some (.int k (a.tmod b))
    | .eql => some (.bool (a == b))
    | .neq => some (.bool (a != b))
    | .lss => some (.bool (a < b))
    | .leq => some (.bool (a ≤ b))
    | .gtr => some (.bool (a > b))
    | .geq => some (.bool (a ≥ b))
    | _ => none
  | op, .str a, .str b =>
    match op with
    | .add => if a.size + b.size < 140737488351232 then some (.str (a ++ b)) else none
    | .eql => some (.bool (a.toList == b.toList))
    | .neq => some (.bool !(a.toList == b.toList))
    | .lss => some (.bool (Op.bytesLess a.toList b.toList))
    | .leq => some (.bool (Op.bytesLess a.toList b.toList || a.toList == b.toList))
    | .gtr => some (.bool !(Op.bytesLess a.toList b.toList || a.toList == b.toList))
    | .geq => some (.bool !(Op.bytesLess a.toList b.toList))
    | _ => none
  | .eql, x, y => (eqA P t x y).map .bool
  | .neq, x, y => (eqA P t x y).map fun b => .bool !b
  | _, _, _ => none

/-! ### What an operation comes to -/
structure ADef where
  fv : AV
  args : List AV
  deriving Inhabited

inductive ANext where
  | val (v : AV) (ups : List (Nat × Option ABlk)) (n : Nat)
  | enter (f : FuncId) (args : List AV)
  | yield (l : Nat) (args : List AV)
  | defer (d : ADef)
  | panic (v : AV)
  | recover
  deriving Inhabited

def AV.int? : AV → Option Int
  | .int _ n => some n
  | _ => none

/-- The rows that a slice shows. -/
def rowsOf (get : Nat → Option ABlk) : AV → Option (List (List AV))
  | .ro rows _ => some rows
  | .sl b s n _ =>
    if n = 0 then some [] else
    match get b with
    | some (.rows _ rs) => if s + n ≤ rs.length then some ((rs.drop s).take n) else none
    | _ => none
  | _ => none

def lenA : AV → Option Nat
  | .ro rows _ => some rows.length
  | .sl _ _ n _ => some n
  | .str s => some s.size
  | _ => none

def uniform (n : Nat) (rs : List (List AV)) : Bool := rs.all fun r => r.length == n && r.all AV.one

/-- The zero value of an element type fits a row. -/
def zFine (P : Program) (e : TypeId) (size : Nat) : Bool :=
  match zeroT P e with
  | some z => z.cells.all AV.one && z.cells.length == size
  | none => false

theorem zFine_spec {P : Program} {e : TypeId} {size : Nat} (h : zFine P e size = true) : ∃ z, zeroT P e = some z ∧ z.cells.all AV.one = true ∧ z.cells.length = size := by
  unfold zFine at h
  split at h
  · rename_i z hz
    simp only [Bool.and_eq_true, beq_iff_eq] at h
    exact ⟨z, hz, h.1, h.2⟩
  · cases h

/-- append: what is new is copied into the block where there is room for sure; else the block is spent, and what was shown moves on with the new. -/
def appendA (P : Program) (get : Nat → Option ABlk) (n : Nat) (st : TypeId) (x y : AV) : Option ANext :=
  match elemT P st with
  | none => none
  | some e =>
    match rowsOf get x, rowsOf get y, sizeT P e, (P.info? e).map (·.bytes) with
    | some xs, some ys, some size, some bytes =>
      if !((uniform size xs && uniform size ys) && zFine P e size) then none else
      if (2 * (xs.length + ys.length) + 1000) * bytes > 2 ^ 47 ∨ xs.length + ys.length > 2 ^ 47 then none else
      if ys.isEmpty then some (.val x [] n) else
      match x with
      | .ro _ true => some (.val (.sl n 0 (xs.length + ys.length) none) [(n, some (.rows e (xs ++ ys)))] (n + 1))
      | .sl b s m c =>
        match get b with
        | some (.rows t rs) =>
          if sizeT P t ≠ some size ∨ rs.length < s + m then none else
          if s + (m + ys.length) ≤ rs.length ∧ (m + ys.length) ≤ c.getD (m + ys.length) then
            some (.val (.sl b s (m + ys.length) c) [(b, some (.rows t (rs.take (s + m) ++ ys ++ rs.drop (s + (m + ys.length)))))] n)
          else
            match c with
            | some c => if (m + ys.length) ≤ c then none else some (.val (.sl n 0 (m + ys.length) none) [(n, some (.rows e (xs ++ ys)))] (n + 1))
            | none => if t = e then some (.val (.sl n 0 (m + ys.length) none) [(b, none), (n, some (.rows e (xs ++ ys)))] (n + 1)) else none
        | _ => none
      | _ => none
    | _, _, _, _ => none

def clearA (P : Program) (get : Nat → Option ABlk) (n : Nat) (t : TypeId) (x : AV) : Option ANext :=
  match elemT P t, x with
  | some _, .ro [] _ => some (.val (.tup []) [] n)
  | some e, .sl b s m _ =>
    if m = 0 then some (.val (.tup []) [] n) else
    match get b, sizeT P e, zeroT P e with
    | some (.rows t rs), some size, some z =>
      if s + m ≤ rs.length ∧ sizeT P t = some size ∧ zFine P e size = true then some (.val (.tup []) [(b, some (.rows t (rs.take s ++ List.replicate m z.cells ++ rs.drop (s + m))))] n) else none
    | _, _, _ => none
  | _, _ => none

def optA : Option AV → Nat → Option Nat
  | none, d => some d
  | some (.int _ i), _ => if 0 ≤ i then some i.toNat else none
  | _, _ => none

/-- From which row on, to which one, and how many there may be: 'len' are shown, 'most' may be. -/
def boundsA (len most : Nat) (lo hi mx : Option AV) : Option (Nat × Nat × Option Nat) :=
  match optA lo 0, optA hi len, mx with
  | some l, some h, none => if l ≤ h ∧ h ≤ most then some (l, h, none) else none
  | some l, some h, some (.int _ m) => if l ≤ h ∧ h ≤ m.toNat ∧ 0 ≤ m ∧ m.toNat ≤ most ∧ hi.isSome = true then some (l, h, some m.toNat) else none
  | _, _, _ => none

/-- Do the rows of a slice have its element type's size, where some are left out? -/
def fitsA (P : Program) (e : TypeId) (l : Nat) (rows : List (List AV)) : Bool :=
  l == 0 || (match rows[l]? with | some r => sizeT P e == some r.length | none => true)

def fineA (P : Program) (get : Nat → Option ABlk) (e : TypeId) (b l : Nat) : Bool :=
  l == 0 || (match get b with | some (.rows t _) => (sizeT P t).isSome && sizeT P t == sizeT P e | _ => false)

/-- How many rows may be shown for sure. -/
def mostA (get : Nat → Option ABlk) (b s n : Nat) : Option Nat → Nat
  | some c => c
  | none => match get b with | some (.rows _ rs) => max n (rs.length - s) | _ => n

def sliceA (P : Program) (get : Nat → Option ABlk) (t : TypeId) (x : AV) (lo hi mx : Option AV) : Option AV :=
  match P.underlying t, x with
  | some .string, .str s =>
    match boundsA s.size s.size lo hi mx with
    | some (l, h, none) => some (.str (s.extract l h))
    | _ => none
  | some (.slice e), .ro rows tight =>
    if (sizeT P e).isNone then none else
    match boundsA rows.length rows.length lo hi mx with
    | some (l, h, m) => if fitsA P e l (rows.take h) then some (.ro ((rows.drop l).take (h - l)) (match m with | none => tight && h == rows.length | some m => h == m)) else none
    | none => none
  | some (.slice e), .sl b s n c =>
    if (sizeT P e).isNone then none else
    match boundsA n (mostA get b s n c) lo hi mx with
    | some (l, h, m) => if fineA P get e b l then some (.sl b (s + l) (h - l) (match m with | none => c.map (· - l) | some m => some (m - l))) else none
    | none => none
  | _, _ => none

def keyA : AV → Bool
  | .int _ _ | .str _ => true
  | _ => false

/-- Is a value a key of a map of this key type? -/
def keyT (P : Program) (t : TypeId) (k : AV) : Bool :=
  match P.underlying t, k with
  | some (.int _), .int _ _ => true
  | some .string, .str _ => true
  | _, _ => false

def findA (k : AV) : List (AV × AV) → Option (Option AV)
  | [] => some none
  | (k', v) :: es =>
    match eqLit k k' with
    | some true => some (some v)
    | some false => findA k es
    | none => none

def putA (k v : AV) : List (AV × AV) → Option (List (AV × AV))
  | [] => some [(k, v)]
  | (k', v') :: es =>
    match eqLit k k' with
    | some true => some ((k, v) :: es)
    | some false => (putA k v es).map ((k', v') :: ·)
    | none => none

def mapPutA (P : Program) (get : Nat → Option ABlk) (n : Nat) (t : TypeId) (m k v : AV) : Option ANext :=
  match P.underlying t, m with
  | some (.map kt _), .map b =>
    if keyT P kt k then
      match get b with
      | some (.map es) => (putA k v es).map fun es' => .val (.tup []) [(b, some (.map es'))] n
      | _ => none
    else none
  | _, _ => none

def lookupA (P : Program) (get : Nat → Option ABlk) (t : TypeId) (m k : AV) (ok : Bool) : Option AV :=
  match P.underlying t with
  | some (.map kt et) =>
    if keyT P kt k then
      match (match m with
        | .nilm => some []
        | .map b => (match get b with | some (.map es) => some es | _ => none)
        | _ => none) with
      | some es =>
        match findA k es, zeroT P et with
        | some (some v), _ => some (if ok then .tup [v, .bool true] else v)
        | some none, some z => some (if ok then .tup [z, .bool false] else z)
        | _, _ => none
      | none => none
    else none
  | _ => none

def hasBody (P : Program) (f : FuncId) : Bool := match P.funcs[f]? with | some fn => fn.body.isSome | none => false

/-- A call of a function value. -/
def callA (P : Program) (fv : AV) (args : List AV) : Option ANext :=
  match fv with
  | .fn (.func f) first captured => if hasBody P f then some (.enter f (first ++ args ++ captured)) else none
  | .yld l => some (.yield l args)
  | _ => none

/-- Does a method take the value behind an interface as it is? -/
def recvOk : TypeDesc → Bool → Bool
  | .pointer _, p => p
  | .interface _, _ => false
  | _, p => !p

def invokeA (P : Program) (recv : AV) (name : String) (args : List AV) : Option ANext :=
  match recv with
  | .ifc t v =>
    match (P.info? t).bind fun i => i.methods.find? (·.name == name) with
    | some m =>
      match m.func, P.underlying t with
      | some (f, p), some d => if (m.path.size == 0 && recvOk d p) && hasBody P f then some (.enter f (v :: args)) else none
      | _, _ => none
    | none => none
  | _ => none

def builtinA (P : Program) (get : Nat → Option ABlk) (n : Nat) (b : Builtin) (argTypes : Array TypeId) (args : List AV) : Option ANext :=
  match b, args with
  | .len, [x] =>
    match (argTypes[0]?).bind P.underlying, x with
    | some .string, .str s => some (.val (.int .i64 s.size) [] n)
    | some (.slice _), .ro rows _ => some (.val (.int .i64 rows.length) [] n)
    | some (.slice _), .sl _ _ m _ => some (.val (.int .i64 m) [] n)
    | some (.map _ _), .nilm => some (.val (.int .i64 0) [] n)
    | some (.map _ _), .map b => (match get b with | some (.map es) => some (.val (.int .i64 es.length) [] n) | _ => none)
    | _, _ => none
  | .append, [x, y] =>
    match argTypes[0]?, (argTypes[1]?).bind P.underlying with
    | some st, some (.slice _) => appendA P get n st x y
    | _, _ => none
  | .clear, [x] => (argTypes[0]?).bind fun t => clearA P get n t x
  | .max, [.int k a, .int k' b] => if k = k' then some (.val (.int k (if b > a then b else a)) [] n) else none
  | .min, [.int k a, .int k' b] => if k = k' then some (.val (.int k (if b < a then b else a)) [] n) else none
  | .max, [.int k a, .int k' b, .int k'' c] => if k = k' ∧ k = k'' then some (.val (.int k (let m := if b > a then b else a; if c > m then c else m)) [] n) else none
  | .min, [.int k a, .int k' b, .int k'' c] => if k = k' ∧ k = k'' then some (.val (.int k (let m := if b < a then b else a; if c < m then c else m)) [] n) else none
  | .recover, [] => some .recover
  | _, _ => none

def loadA (P : Program) (get : Nat → Option ABlk) (t : TypeId) (a : AV) : Option AV :=
  match a with
  | .ptr b r o =>
    match get b with
    | some (.rows _ rs) => (rs[r]?).bind fun row => partA P t row o
    | _ => none
  | .rop row o => partA P t row o
  | _ => none

def storeA (P : Program) (get : Nat → Option ABlk) (t : TypeId) (a v : AV) : Option (List (Nat × Option ABlk)) :=
  match a with
  | .ptr b r o =>
    match get b, sizeT P t with
    | some (.rows e rs), some size =>
      match rs[r]? with
      | some row => if v.cells.length = size ∧ o + size ≤ row.length ∧ v.cells.all AV.one then some [(b, some (.rows e (rs.set r (over row o v.cells))))] else none
      | none => none
    | _, _ => none
  | _ => none

def fieldA (P : Program) (t : TypeId) (f : Nat) : Option Field :=
  match fieldsOf P t with
  | some fs => fs[f]?
  | none => none

def isYield : Fn → Bool
  | .yield _ => true
  | _ => false

def putRows (s : Nat) : List (Nat × AV) → List (List AV) → Option (List (List AV))
  | [], rs => some rs
  | (i, x) :: rest, rs => if x.cells.length = s ∧ i < rs.length then putRows s rest (rs.set i x.cells) else none

def aop (P : Program) (get : Nat → Option ABlk) (n : Nat) (ρ : Operand → AV) (o : Oper) : Option ANext :=
  let v (x : Option AV) : Option ANext := x.map fun x => .val x [] n
  match o.op with
  | .move x | .assign x => some (.val (ρ x) [] n)
  | .pick c a b => match ρ c with | .bool true => some (.val (ρ a) [] n) | .bool false => some (.val (ρ b) [] n) | _ => none
  | .alloc t =>
    match zeroT P t with
    | some z => if z.cells.all AV.one ∧ sizeT P t = some z.cells.length then some (.val (.ptr n 0 0) [(n, some (.rows t [z.cells]))] (n + 1)) else none
    | none => none
  | .box t x => if (ρ x).cells.all AV.one ∧ sizeT P t = some (ρ x).cells.length then some (.val (.ptr n 0 0) [(n, some (.rows t [(ρ x).cells]))] (n + 1)) else none
  | .build t parts =>
    match P.underlying t, zeroT P t with
    | some (.struct fs), some z => if z.cells.all AV.one = true ∧ (fs.toList.all fun f => (sizeT P f.type).isSome) = true then v ((fillA (fun i => (fs[i]?).bind fun f => (sizeT P f.type).map fun s => (f.offset, s)) z.cells (parts.toList.map fun (i, x) => (i, ρ x))).map .agg) else none
    | some (.array _ e), some z =>
      match sizeT P e with
      | some s => if z.cells.all AV.one = true then v ((fillA (fun i => some (i * s, s)) z.cells (parts.toList.map fun (i, x) => (i, ρ x))).map .agg) else none
      | none => none
    | _, _ => none
  | .buildSlice t len parts =>
    match elemT P t with
    | some e =>
      match sizeT P e, zeroT P e with
      | some s, some z =>
        if len * s > 2 ^ 24 ∨ z.cells.length ≠ s ∨ s = 0 then none else
        match putRows s (parts.toList.map fun (i, x) => (i, ρ x)) (List.replicate len z.cells) with
        | some rs => if uniform s rs = true ∧ ((parts.toList.map fun (i, x) => (i, ρ x)).all fun x => x.2.cells.all AV.one) = true ∧ z.cells.all AV.one = true then some (.val (.sl n 0 len (some len)) [(n, some (.rows e rs))] (n + 1)) else none
        | none => none
      | _, _ => none
    | none => none
  | .load t a => v (loadA P get t (ρ a))
  | .store t a x => (storeA P get t (ρ a) (ρ x)).map fun ups => .val (.tup []) ups n
  | .nilCheck x =>
    match ρ x with
    | .ptr b r o => some (.val (.ptr b r o) [] n)
    | .rop row o => some (.val (.rop row o) [] n)
    | .fn (.func f) a b => some (.val (.fn (.func f) a b) [] n)
    | .yld l => some (.val (.yld l) [] n)
    | .ifc t x => some (.val (.ifc t x) [] n)
    | _ => none
  | .binOp op t x y _ => v (binA P op t x y (ρ x) (ρ y))
  | .unOp op _ x =>
    match op, ρ x with
    | .not, .bool b => some (.val (.bool !b) [] n)
    | .neg, .int k a => some (.val (.int k (k.wrap (0 - a))) [] n)
    | _, _ => none
  | .convert src dst x =>
    match P.underlying src, P.underlying dst, ρ x with
    | some _, some (.int k), .int _ a => some (.val (.int k (k.wrap a)) [] n)
    | some _, some .string, .str s => some (.val (.str s) [] n)
    | _, _, _ => none
  | .makeInterface t x =>
    match P.underlying t with
    | some (.interface _) | none => none
    | some _ => some (.val (.ifc t (ρ x)) [] n)
  | .makeFunc f first captured => if isYield f then none else some (.val (.fn f (first.toList.map ρ) (captured.toList.map ρ)) [] n)
  | .makeMap _ none => some (.val (.map n) [(n, some (.map []))] (n + 1))
  | .insert t m k x | .mapUpdate t m k x => mapPutA P get n t (ρ m) (ρ k) (ρ x)
  | .lookup t m k ok => v (lookupA P get t (ρ m) (ρ k) ok)
  | .makeSlice t l c =>
    match elemT P t, ρ l, ρ c with
    | some e, .int .i64 l, .int .i64 c =>
      match sizeT P e, zeroT P e, ((P.info? e).map (·.bytes) : Option Nat) with
      | some s, some z, some bytes =>
        if 0 ≤ l ∧ l ≤ c ∧ bytes * c ≤ 2 ^ 47 ∧ c ≤ 2 ^ 47 ∧ zFine P e s = true then some (.val (.sl n 0 l.toNat (some c.toNat)) [(n, some (.rows e (List.replicate c.toNat z.cells)))] (n + 1)) else none
      | _, _, _ => none
    | _, _, _ => none
  | .slice t x lo hi mx => v (sliceA P get t (ρ x) (lo.map ρ) (hi.map ρ) (mx.map ρ))
  | .fieldAddr t x f =>
    match fieldA P t f with
    | some f =>
      match sizeT P f.type, ρ x with
      | some (_ + 1), .ptr b r o => some (.val (.ptr b r (o + f.offset)) [] n)
      | some (_ + 1), .rop row o => some (.val (.rop row (o + f.offset)) [] n)
      | _, _ => none
    | none => none
  | .field t x f =>
    match fieldA P t f, ρ x with
    | some f, .agg cs => v (partA P f.type cs f.offset)
    | _, _ => none
  | .indexAddr t x i =>
    match P.underlying t, ρ x, ρ i with
    | some (.slice e), .ro rows _, .int _ i =>
      if 0 ≤ i then
        match rows[i.toNat]? with
        | some r => if sizeT P e = some r.length then some (.val (.rop r 0) [] n) else none
        | none => none
      else none
    | some (.slice e), .sl b s m _, .int _ i =>
      if 0 ≤ i ∧ i < m then
        match get b with
        | some (.rows t _) => if sizeT P t = sizeT P e then some (.val (.ptr b (s + i.toNat) 0) [] n) else none
        | _ => none
      else none
    | some (.array len e), .ptr b r o, .int _ i => (match sizeT P e with | some sz => if 0 ≤ i ∧ i < len ∧ 1 < len then some (.val (.ptr b r (o + i.toNat * sz)) [] n) else none | none => none)
    | some (.array len e), .rop row o, .int _ i => (match sizeT P e with | some sz => if 0 ≤ i ∧ i < len ∧ 1 < len then some (.val (.rop row (o + i.toNat * sz)) [] n) else none | none => none)
    | _, _, _ => none
  | .index t x i =>
    match P.underlying t, ρ x, ρ i with
    | some .string, .str s, .int _ i => if 0 ≤ i then v ((s[i.toNat]?).map fun b => .int .u8 b.toNat) else none
    | some (.array len e), .agg cs, .int _ i => (match sizeT P e with | some sz => if 0 ≤ i ∧ i < len then v (partA P e cs (i.toNat * sz)) else none | none => none)
    | _, _, _ => none
  | .typeAssert x _ asserted ok =>
    match P.underlying asserted with
    | some (.interface _) | none => none
    | some _ =>
      match ρ x with
      | .ifc t y => if t = asserted then some (.val (if ok then .tup [y, .bool true] else y) [] n) else if ok then v ((zeroT P asserted).map fun z => .tup [z, .bool false]) else none
      | .nili => if ok then v ((zeroT P asserted).map fun z => .tup [z, .bool false]) else none
      | _ => none
  | .extract x i => match ρ x with | .tup vs => v vs[i]? | _ => none
  | .call c =>
    match c.callee with
    | .builtin b => builtinA P get n b c.argTypes (c.args.toList.map ρ)
    | .value f => callA P (ρ f) (c.args.toList.map ρ)
    | .invoke r m => invokeA P (ρ r) m (c.args.toList.map ρ)
  | .defer c =>
    match c.callee with
    | .value f => (match ρ f with | .fn (.func g) first captured => some (.defer ⟨.fn (.func g) first captured, c.args.toList.map ρ⟩) | _ => none)
    | _ => none
  | .panic x => match ρ x with | .ifc t v => some (.panic (.ifc t v)) | _ => none
  | _ => none

/-! ### A store of things by number -/
inductive Tr (α : Type) where
  | leaf
  | node (l : Tr α) (v : Option α) (r : Tr α)

namespace Tr
def depth : Nat := 24
def getD {α : Type} : Nat → Tr α → Nat → Option α
  | _, .leaf, _ => none
  | _, .node _ v _, 0 => v
  | 0, _, _ => none
  | d + 1, .node l _ r, n + 1 => if n % 2 = 0 then getD d l (n / 2) else getD d r (n / 2)
def setD {α : Type} : Nat → Tr α → Nat → Option α → Tr α
  | _, .leaf, 0, x => .node .leaf x .leaf
  | _, .node l _ r, 0, x => .node l x r
  | 0, t, _, _ => t
  | d + 1, .leaf, n + 1, x => if n % 2 = 0 then .node (setD d .leaf (n / 2) x) none .leaf else .node .leaf none (setD d .leaf (n / 2) x)
  | d + 1, .node l v r, n + 1, x => if n % 2 = 0 then .node (setD d l (n / 2) x) v r else .node l v (setD d r (n / 2) x)
def get {α : Type} (t : Tr α) (n : Nat) : Option α := getD depth t n
def set {α : Type} (t : Tr α) (n : Nat) (x : Option α) : Tr α := setD depth t n x
end Tr

/-! ### The evaluator -/
inductive AMode where
  | ret
  | pan (v : AV) (recovered : Bool)
  deriving Inhabited

structure HP where
  tr : Tr ABlk
  n : Nat

structure ES where
  ov : Tr AV
  base : Nat → AV
  nt : Nat
  d : List (ADef ⊕ Nat)
  hp : HP
  u : Option AMode

def ES.t (s : ES) (i : Nat) : AV := (s.ov.get i).getD (s.base i)

inductive AExit where
  | normal
  | exit (id : Nat)
  | ret
  | panic (v : AV)
  deriving Inhabited

inductive AEnd where
  | ret (v : AV)
  | pan (v : AV)
  deriving Inhabited

def opnd (t : Nat → AV) : Operand → AV
  | .tmp i => t i
  | .const v => ofConst v
  | .global _ => .any
  | .func f => .fn (.func f) [] []

def HP.ups (h : HP) : List (Nat × Option ABlk) → Tr ABlk
  | [] => h.tr
  | (b, x) :: us => HP.ups { h with tr := h.tr.set b x } us

def HP.apply (h : HP) (us : List (Nat × Option ABlk)) (n : Nat) : Option HP :=
  if n < 2 ^ 23 ∧ us.all (fun u => u.1 < n) = true then some ⟨h.ups us, n⟩ else none

def ES.put (s : ES) (dst : Option Tmp) (v : AV) : ES :=
  match dst with
  | some d => if d < s.nt then { s with ov := s.ov.set d (some v) } else s
  | none => s

def wantedA (ops : Array Oper) (t : Nat → AV) (o : Oper) : Option Bool :=
  match o.guard with
  | none => some true
  | some (j, want) =>
    match (ops[j]?).bind (·.dst) with
    | some d => match t d with | .bool b => some (b == want) | .tup [] => some false | _ => none
    | none => none

structure Rec where
  code : Bool → Code → ES → Option (AExit × ES)
  call : FuncId → List AV → HP → Option (AEnd × HP)

def putsA (s : ES) : List (Tmp × AV) → ES
  | [] => s
  | (p, a) :: l => putsA (s.put (some p) a) l

/-- One round: the assignments to the loop's variables, then the body; what yield hands back. -/
def roundA (ih : Rec) (l : Nat) (args : List AV) (h : HP) : Option (AEnd × HP) :=
  match h.tr.get l with
  | some (.loop .ready _ nt t params assign body _) =>
    if params.length ≠ args.length ∨ ¬ nt < 2 ^ 23 then none else
    match ih.code true assign (putsA { ov := .leaf, base := t, nt := nt, d := [], hp := h, u := none } (params.zip args)) with
    | some (.normal, s) =>
      match s.hp.tr.get l with
      | some (.loop .ready pd nt t params assign body' defers) =>
        match ih.code true body { s with hp := { s.hp with tr := s.hp.tr.set l (some (.loop .busy pd nt t params assign body' defers)) } } with
        | some (e, s) =>
          match s.hp.tr.get l with
          | some (.loop _ _ nt t params assign body defers) =>
            match e with
            | .normal => some (.ret (.bool true), { s.hp with tr := s.hp.tr.set l (some (.loop .ready none nt t params assign body defers)) })
            | .ret => some (.ret (.bool false), { s.hp with tr := s.hp.tr.set l (some (.loop .done (some .ret) nt t params assign body defers)) })
            | .exit id => some (.ret (.bool false), { s.hp with tr := s.hp.tr.set l (some (.loop .done (some (.exit id)) nt t params assign body defers)) })
            | .panic v => if s.d.isEmpty then some (.pan v, s.hp) else none
          | _ => none
        | none => none
      | _ => none
    | _ => none
  | _ => none

def operA (P : Program) (ih : Rec) (rd : Bool) (o : Oper) (s : ES) : Option (AExit × ES) :=
  match aop P s.hp.tr.get s.hp.n (opnd s.t) o with
  | some (.val v us n) => (s.hp.apply us n).map fun h => (.normal, ({ s with hp := h } : ES).put o.dst v)
  | some (.enter f args) =>
    match ih.call f args s.hp with
    | some (.ret v, h) => some (.normal, ({ s with hp := h } : ES).put o.dst v)
    | some (.pan v, h) => some (.panic v, { s with hp := h })
    | none => none
  | some (.yield l args) =>
    match roundA ih l args s.hp with
    | some (.ret v, h) => some (.normal, ({ s with hp := h } : ES).put o.dst v)
    | some (.pan v, h) => some (.panic v, { s with hp := h })
    | none => none
  | some (.defer d) => if rd then none else some (.normal, ({ s with d := .inl d :: s.d } : ES).put o.dst (.tup []))
  | some (.panic v) => some (.panic v, s)
  | some .recover =>
    match s.u with
    | some (.pan v false) => some (.normal, ({ s with u := some (.pan v true) } : ES).put o.dst v)
    | some .ret => some (.normal, s.put o.dst .nili)
    | _ => none
  | none => none

def operGA (P : Program) (ih : Rec) (rd : Bool) (ops : Array Oper) (o : Oper) (s : ES) : Option (AExit × ES) :=
  match wantedA ops s.t o with
  | some true => operA P ih rd o s
  | some false => some (.normal, s.put o.dst (.tup []))
  | none => none

def opersA (P : Program) (ih : Rec) (rd : Bool) (ops : Array Oper) : List Oper → ES → Option (AExit × ES)
  | [], s => some (.normal, s)
  | o :: os, s =>
    match operGA P ih rd ops o s with
    | some (.normal, s) => opersA P ih rd ops os s
    | r => r

def settleA : AMode → AMode
  | .pan _ true => .ret
  | m => m

def startES (args : List AV) (ntmps : Nat) (h : HP) (u : Option AMode) : ES :=
  { ov := (args.zipIdx).foldl (fun o (a, i) => o.set i (some a)) .leaf, base := fun _ => .tup [], nt := args.length + (ntmps - args.length), d := [], hp := h, u := u }

def resultA (P : Program) (get : Nat → Option ABlk) (t : Nat → AV) : ResultVar → Option AV
  | .tmp i => some (t i)
  | .cell a ty => loadA P get ty (t a)

def resultsA (P : Program) (get : Nat → Option ABlk) (t : Nat → AV) (rs : List ResultVar) : Option AV :=
  match rs.mapM (resultA P get t) with
  | some [v] => some v
  | some vs => some (.tup vs)
  | none => none

end Go.Ab

/- What an abstract value says of a value, an abstract heap of memory; and that growing memory keeps it. -/
namespace Go.Ab
open Go

/-- Where an abstract block lies: a block, its first cell, the cells of a row, how many rows there are for sure, and how many there are. -/
structure Loc where
  B : Nat
  base : Nat
  size : Nat
  room : Nat
  tot : Nat

abbrev Phi := Nat → Option Loc
abbrev Terr := Nat → Option Obj

inductive VR (F : Terr) (φ : Phi) : AV → Value → Prop
  | any (v : Value) : VR F φ .any v
  | bool (b : Bool) : VR F φ (.bool b) (.bool b)
  | int (k : IntKind) (n : Int) : VR F φ (.int k n) (.int k n)
  | str (s : ByteArray) : VR F φ (.str s) (.string s)
  | nilp : VR F φ .nilp (.pointer none)
  | nilf : VR F φ .nilf .nilFunc
  | nili : VR F φ .nili .nilIface
  | nilm : VR F φ .nilm (.map none)
  | agg {cs : List AV} {vs : Array Value} (hl : cs.length = vs.size) (h : ∀ (i : Nat) (x : AV) (v : Value), cs[i]? = some x → vs[i]? = some v → VR F φ x v) : VR F φ (.agg cs) (.agg vs)
  | tup {cs : List AV} {vs : Array Value} (hl : cs.length = vs.size) (h : ∀ (i : Nat) (x : AV) (v : Value), cs[i]? = some x → vs[i]? = some v → VR F φ x v) : VR F φ (.tup cs) (.tuple vs)
  | ptr {b r o : Nat} {L : Loc} (h : φ b = some L) : VR F φ (.ptr b r o) (.pointer (some ⟨L.B, L.base + r * L.size + o, none⟩))
  | rop {row : List AV} {o B off : Nat} {cs : Array Value} {t : TypeId} {fr : Nat × Nat} (g : Nat → Value) (hF : F B = some (.cells cs t fr))
      (hc : ∀ (j : Nat) (x : AV), row[j]? = some x → cs[off + j]? = some (g j)) (h : ∀ (j : Nat) (x : AV), row[j]? = some x → VR F φ x (g j)) : VR F φ (.rop row o) (.pointer (some ⟨B, off + o, none⟩))
  | sl {b s n cap : Nat} {c : Option Nat} {L : Loc} {a : Addr} (h : φ b = some L) (hn : n ≤ cap) (hc : ∀ k, c = some k → cap = k) (hr : c = none → L.room ≤ s + cap) (ht : s + cap ≤ L.tot)
      (ha : 0 < cap → a = ⟨L.B, L.base + s * L.size, none⟩) : VR F φ (.sl b s n c) (.slice (some a) n cap)
  | roe {a : Option Addr} {cap : Nat} {tight : Bool} (ht : tight = true → cap = 0) : VR F φ (.ro [] tight) (.slice a 0 cap)
  | ro {rows : List (List AV)} {tight : Bool} {a : Addr} {n cap size : Nat} {cs : Array Value} {t : TypeId} {fr : Nat × Nat} (g : Nat → Nat → Value) (hn : rows.length = n)
      (hF : F a.block = some (.cells cs t fr)) (hs : a.spot = none) (hcap : n ≤ cap) (ht : tight = true → cap = n)
      (hsz : ∀ (i : Nat) (row : List AV), rows[i]? = some row → row.length = size) (hc : ∀ (i j : Nat) (row : List AV) (x : AV), rows[i]? = some row → row[j]? = some x → cs[a.off + i * size + j]? = some (g i j))
      (h : ∀ (i j : Nat) (row : List AV) (x : AV), rows[i]? = some row → row[j]? = some x → VR F φ x (g i j)) : VR F φ (.ro rows tight) (.slice (some a) n cap)
  | map {m : Nat} {L : Loc} (h : φ m = some L) : VR F φ (.map m) (.map (some L.B))
  | fn {f : Fn} {first captured : List AV} {vs us : Array Value} (hf : ∀ l, f ≠ .yield l) (hl : first.length = vs.size) (hl' : captured.length = us.size)
      (h : ∀ (i : Nat) (x : AV) (v : Value), first[i]? = some x → vs[i]? = some v → VR F φ x v) (h' : ∀ (i : Nat) (x : AV) (v : Value), captured[i]? = some x → us[i]? = some v → VR F φ x v) : VR F φ (.fn f first captured) (.func f vs us)
  | yld {l : Nat} {L : Loc} (h : φ l = some L) : VR F φ (.yld l) (.func (.yield L.B) #[] #[])
  | ifc {t : TypeId} {x : AV} {v : Value} (h : VR F φ x v) : VR F φ (.ifc t x) (.iface t v)

theorem VR.mono {F F' : Terr} {φ φ' : Phi} {x : AV} {v : Value} (hF : ∀ B o, F B = some o → F' B = some o) (hφ : ∀ b L, φ b = some L → φ' b = some L)
    (h : VR F φ x v) : VR F' φ' x v := by
  induction h with
  | any v => exact .any v
  | bool b => exact .bool b
  | int k n => exact .int k n
  | str s => exact .str s
  | nilp => exact .nilp
  | nilf => exact .nilf
  | nili => exact .nili
  | nilm => exact .nilm
  | agg hl _ ih => exact .agg hl ih
  | tup hl _ ih => exact .tup hl ih
  | ptr h => exact .ptr (hφ _ _ h)
  | rop g h hc _ ih => exact .rop g (hF _ _ h) hc ih
  | sl h hn hc hr ht ha => exact .sl (hφ _ _ h) hn hc hr ht ha
  | roe ht => exact .roe ht
  | ro g hn h hs hcap ht hsz hc _ ih => exact .ro g hn (hF _ _ h) hs hcap ht hsz hc ih
  | map h => exact .map (hφ _ _ h)
  | fn hf hl hl' _ _ ih ih' => exact .fn hf hl hl' ih ih'
  | yld h => exact .yld (hφ _ _ h)
  | ifc _ ih => exact .ifc ih

/-- Lists of values, place by place. -/
def VRL (F : Terr) (φ : Phi) : List AV → List Value → Prop
  | [], [] => True
  | x :: xs, v :: vs => VR F φ x v ∧ VRL F φ xs vs
  | _, _ => False

section
variable {F : Terr} {φ : Phi}

theorem VRL.length : ∀ {xs : List AV} {vs : List Value}, VRL F φ xs vs → xs.length = vs.length
  | [], [], _ => rfl
  | _ :: _, _ :: _, h => by simp [VRL.length h.2]
  | [], _ :: _, h => h.elim
  | _ :: _, [], h => h.elim

theorem VRL.get : ∀ {xs : List AV} {vs : List Value}, VRL F φ xs vs → ∀ (i : Nat) (x : AV) (v : Value), xs[i]? = some x → vs[i]? = some v → VR F φ x v
  | [], [], _, i, x, v, hx, _ => by simp at hx
  | x :: xs, v :: vs, h, 0, _, _, hx, hv => by simp at hx hv; subst hx; subst hv; exact h.1
  | x :: xs, v :: vs, h, i + 1, _, _, hx, hv => VRL.get h.2 i _ _ (by simpa using hx) (by simpa using hv)
  | [], _ :: _, h, _, _, _, _, _ => h.elim
  | _ :: _, [], h, _, _, _, _, _ => h.elim

theorem VRL.mk : ∀ {xs : List AV} {vs : List Value}, xs.length = vs.length → (∀ (i : Nat) (x : AV) (v : Value), xs[i]? = some x → vs[i]? = some v → VR F φ x v) → VRL F φ xs vs
  | [], [], _, _ => trivial
  | x :: xs, v :: vs, hl, h => ⟨h 0 x v rfl rfl, VRL.mk (by simpa using hl) (fun i y u hy hu => h (i + 1) y u (by simpa using hy) (by simpa using hu))⟩
  | [], _ :: _, hl, _ => by simp at hl
  | _ :: _, [], hl, _ => by simp at hl

theorem VRL.mono {F' : Terr} {φ' : Phi} (hF : ∀ B o, F B = some o → F' B = some o) (hφ : ∀ b L, φ b = some L → φ' b = some L) {xs : List AV} {vs : List Value}
    (h : VRL F φ xs vs) : VRL F' φ' xs vs :=
  VRL.mk h.length fun i x v hx hv => (h.get i x v hx hv).mono hF hφ

theorem VRL.append {xs ys : List AV} {vs us : List Value} (h : VRL F φ xs vs) (h' : VRL F φ ys us) : VRL F φ (xs ++ ys) (vs ++ us) := by
  induction xs generalizing vs with
  | nil => cases vs with
    | nil => exact h'
    | cons _ _ => exact h.elim
  | cons x xs ih => cases vs with
    | nil => exact h.elim
    | cons v vs => exact ⟨h.1, ih h.2⟩

theorem VRL.take {xs : List AV} {vs : List Value} (h : VRL F φ xs vs) (n : Nat) : VRL F φ (xs.take n) (vs.take n) :=
  VRL.mk (by simp [h.length]) fun i x v hx hv => by
    rw [List.getElem?_take] at hx hv
    split at hx <;> simp_all
    exact h.get i x v hx hv

theorem VRL.drop {xs : List AV} {vs : List Value} (h : VRL F φ xs vs) (n : Nat) : VRL F φ (xs.drop n) (vs.drop n) :=
  VRL.mk (by simp [h.length]) fun i x v hx hv => by
    rw [List.getElem?_drop] at hx hv
    exact h.get _ x v hx hv

theorem VRL.map {α : Type} {f : α → AV} {g : α → Value} (h : ∀ x, VR F φ (f x) (g x)) (l : List α) : VRL F φ (l.map f) (l.map g) := by
  induction l with
  | nil => trivial
  | cons x l ih => exact ⟨h x, ih⟩

theorem VRL.some {xs : List AV} {vs : List Value} (h : VRL F φ xs vs) {i : Nat} {x : AV} (hx : xs[i]? = some x) : ∃ v, vs[i]? = some v ∧ VR F φ x v := by
  have hi : i < vs.length := by
    rw [← h.length]
    exact (List.getElem?_eq_some_iff.1 hx).1
  exact ⟨vs[i], by simp [hi], h.get i x _ hx (by simp [hi])⟩

theorem VR.of_agg {cs : List AV} {v : Value} (h : VR F φ (.agg cs) v) : ∃ vs : Array Value, v = .agg vs ∧ VRL F φ cs vs.toList := by
  cases h with
  | agg hl h => exact ⟨_, rfl, VRL.mk (by simpa using hl) fun i x v hx hv => h i x v hx (by simpa using hv)⟩

theorem VR.of_tup {cs : List AV} {v : Value} (h : VR F φ (.tup cs) v) : ∃ vs : Array Value, v = .tuple vs ∧ VRL F φ cs vs.toList := by
  cases h with
  | tup hl h => exact ⟨_, rfl, VRL.mk (by simpa using hl) fun i x v hx hv => h i x v hx (by simpa using hv)⟩

theorem VR.mk_agg {cs : List AV} {vs : Array Value} (h : VRL F φ cs vs.toList) : VR F φ (.agg cs) (.agg vs) :=
  .agg (by simpa using h.length) fun i x v hx hv => h.get i x v hx (by simpa using hv)

theorem VR.mk_tup {cs : List AV} {vs : Array Value} (h : VRL F φ cs vs.toList) : VR F φ (.tup cs) (.tuple vs) :=
  .tup (by simpa using h.length) fun i x v hx hv => h.get i x v hx (by simpa using hv)

theorem VR.oneCell {x : AV} {v : Value} (h : VR F φ x v) (h1 : x.one = true) : v.oneCell' = true := by
  cases h <;> first | rfl | simp [AV.one] at h1

theorem VR.cells_one {x : AV} {v : Value} (h : VR F φ x v) (h1 : x.one = true) : x.cells = [x] ∧ v.cells = #[v] := by
  cases h <;> first | exact ⟨rfl, rfl⟩ | simp [AV.one] at h1

/-- The cells of a value that may be stored. -/
theorem VR.cells {x : AV} {v : Value} (h : VR F φ x v) (h1 : x.cells.all AV.one = true) : VRL F φ x.cells v.cells.toList ∧ ∀ u ∈ v.cells.toList, u.oneCell' = true := by
  by_cases ho : x.one = true
  · obtain ⟨h2, h3⟩ := h.cells_one ho
    rw [h2, h3]
    exact ⟨⟨h, trivial⟩, fun u hu => by simp at hu; subst hu; exact h.oneCell ho⟩
  · cases x with
    | agg cs =>
      obtain ⟨vs, rfl, hl⟩ := h.of_agg
      refine ⟨hl, fun u hu => ?_⟩
      obtain ⟨i, hi, rfl⟩ := List.getElem_of_mem hu
      have hi' : i < cs.length := by rw [hl.length]; exact hi
      exact (hl.get i cs[i] _ (by simp [hi']) (by simp [Value.cells] at hi ⊢)).oneCell (List.all_eq_true.1 h1 _ (List.getElem_mem hi'))
    | any => simp [AV.cells, AV.one] at h1
    | tup vs => simp [AV.cells, AV.one] at h1
    | _ => simp [AV.one] at ho

theorem VRL.one {xs : List AV} {vs : List Value} (h : VRL F φ xs vs) (h1 : xs.all AV.one = true) : ∀ u ∈ vs, u.oneCell' = true := by
  intro u hu
  obtain ⟨i, hi, rfl⟩ := List.getElem_of_mem hu
  have hi' : i < xs.length := by rw [h.length]; exact hi
  exact (h.get i xs[i] _ (by simp [hi']) (by simp [hi])).oneCell (List.all_eq_true.1 h1 _ (List.getElem_mem hi'))

theorem ofConst1_VR (v : Value) : VR F φ (ofConst1 v) v := by
  unfold ofConst1
  split <;> first | constructor | skip
  all_goals first | (intro _; rfl) | skip

theorem ofConst_VR (v : Value) : VR F φ (ofConst v) v := by
  unfold ofConst
  split
  · exact VR.mk_agg (by simpa using VRL.map (g := id) (fun x => ofConst1_VR x) _)
  · exact VR.mk_tup (by simpa using VRL.map (g := id) (fun x => ofConst1_VR x) _)
  · exact ofConst1_VR v
end

/-! ### Memory -/
/-- What an abstract block says of the block at a place. -/
def BR (P : Program) (F : Terr) (φ : Phi) (w : World) (L : Loc) : ABlk → Prop
  | .rows t rs => ∃ cs : Array Value, w.heap[L.B]? = some (.cells cs t (0, 0)) ∧ sizeT P t = some L.size ∧ rs.length ≤ L.room ∧ L.room ≤ L.tot ∧ L.base + L.tot * L.size ≤ cs.size ∧
      ∀ r row, rs[r]? = some row → VRL F φ row ((cs.toList.drop (L.base + r * L.size)).take L.size)
  | .map es => ∃ (ents : Array MapEntry) (clock : Nat), w.heap[L.B]? = some (.map ents clock) ∧ VRL F φ (es.map (·.1)) (ents.toList.map (·.key)) ∧ VRL F φ (es.map (·.2)) (ents.toList.map (·.val)) ∧
      ∀ e ∈ es, keyA e.1 = true
  | .loop st pending nt t params assign body defers => ∃ lp : Loop, w.heap[L.B]? = some (.loop lp) ∧ (P.funcs[lp.fn]?).isSome = true ∧ lp.tmps.size = nt ∧ lp.state = st ∧ lp.pending = pending ∧ (∀ i, VR F φ (t i) (lp.tmps.getD i undef)) ∧
      lp.params.toList = params ∧ lp.assign = assign ∧ lp.body = body ∧ ∃ D, φ defers = some D ∧ lp.defers = D.B
  | .dfd => w.heap[L.B]? = some (.deferred (some []))

structure HR (P : Program) (F : Terr) (φ : Phi) (n : Nat) (h : Nat → Option ABlk) (w : World) : Prop where
  terr : ∀ B o, F B = some o → w.heap[B]? = some o
  blk : ∀ b x, h b = some x → ∃ L, φ b = some L ∧ F L.B = none ∧ BR P F φ w L x
  inj : ∀ b b' x x' L L', h b = some x → h b' = some x' → φ b = some L → φ b' = some L' → L.B = L'.B → b = b'
  fresh : ∀ b, n ≤ b → φ b = none
  below : ∀ b L, φ b = some L → L.B < w.heap.size

/-- What lies outside of memory is as it was. -/
def Out (w w' : World) : Prop := w'.os = w.os ∧ w'.tape = w.tape ∧ w'.output = w.output

theorem Out.trans {a b c : World} (h : Out a b) (k : Out b c) : Out a c := ⟨k.1.trans h.1, k.2.1.trans h.2.1, k.2.2.trans h.2.2⟩

/-- What a stretch of a run leaves: all that no abstract block named is as it was. -/
structure Ext (F : Terr) (φ : Phi) (n : Nat) (h : Nat → Option ABlk) (w : World) (F' : Terr) (φ' : Phi) (n' : Nat) (w' : World) : Prop where
  terr : ∀ B o, F B = some o → F' B = some o
  phi : ∀ b L, φ b = some L → φ' b = some L
  nle : n ≤ n'
  size : w.heap.size ≤ w'.heap.size
  keep : ∀ B, B < w.heap.size → (∀ b x L, h b = some x → φ b = some L → L.B ≠ B) → w'.heap[B]? = w.heap[B]?
  newF : ∀ B, F' B ≠ none → F B ≠ none ∨ w.heap.size ≤ B ∨ ∃ b x L, h b = some x ∧ φ b = some L ∧ L.B = B
  newP : ∀ b L, φ' b = some L → φ b = some L ∨ w.heap.size ≤ L.B ∨ ∃ b0 x L0, h b0 = some x ∧ φ b0 = some L0 ∧ L0.B = L.B
  newN : ∀ b L, φ' b = some L → b < n → φ b = some L
  out : Out w w'

theorem Ext.refl (F : Terr) (φ : Phi) (n : Nat) (h : Nat → Option ABlk) (w : World) : Ext F φ n h w F φ n w :=
  ⟨fun _ _ h => h, fun _ _ h => h, Nat.le_refl _, Nat.le_refl _, fun _ _ _ => rfl, fun _ h => .inl h, fun _ _ h => .inl h, fun _ _ h _ => h, rfl, rfl, rfl⟩

/-- The heap in the middle names only blocks that lie where the first one's lie, or that are new. -/
theorem Ext.trans {P : Program} {F F1 F2 : Terr} {φ φ1 φ2 : Phi} {n n1 n2 : Nat} {h h1 : Nat → Option ABlk} {w w1 w2 : World}
    (hr : HR P F φ n h w) (hd : ∀ b x, h1 b = some x → b < n → ∃ y, h b = some y)
    (e1 : Ext F φ n h w F1 φ1 n1 w1) (e2 : Ext F1 φ1 n1 h1 w1 F2 φ2 n2 w2) : Ext F φ n h w F2 φ2 n2 w2 := by
  have loc : ∀ b x L, h1 b = some x → φ1 b = some L → w.heap.size ≤ L.B ∨ ∃ b0 x0 L0, h b0 = some x0 ∧ φ b0 = some L0 ∧ L0.B = L.B := by
    intro b x L hb hL
    rcases e1.newP b L hL with h0 | h0
    · by_cases hn : b < n
      · obtain ⟨y, hy⟩ := hd b x hb hn
        exact .inr ⟨b, y, L, hy, h0, rfl⟩
      · exact absurd h0 (by rw [hr.fresh b (by omega)]; simp)
    · exact h0
  refine ⟨fun B o hB => e2.terr _ _ (e1.terr _ _ hB), fun b L hb => e2.phi _ _ (e1.phi _ _ hb), Nat.le_trans e1.nle e2.nle, Nat.le_trans e1.size e2.size, ?_, ?_, ?_, fun b L hL hb => e1.newN b L (e2.newN b L hL (Nat.lt_of_lt_of_le hb e1.nle)) hb, e1.out.trans e2.out⟩
  · intro B hB hne
    rw [e2.keep B (Nat.lt_of_lt_of_le hB e1.size) (fun b x L hb hL he => ?_), e1.keep B hB hne]
    rcases loc b x L hb hL with h0 | ⟨b0, x0, L0, h0, h0', h0''⟩
    · omega
    · exact hne b0 x0 L0 h0 h0' (h0''.trans he)
  · intro B hB
    rcases e2.newF B hB with h0 | h0 | ⟨b, x, L, hb, hL, he⟩
    · exact e1.newF B h0
    · exact .inr (.inl (Nat.le_trans e1.size h0))
    · rcases loc b x L hb hL with h0 | ⟨b0, x0, L0, h0, h0', h0''⟩
      · exact .inr (.inl (by omega))
      · exact .inr (.inr ⟨b0, x0, L0, h0, h0', h0''.trans he⟩)
  · intro b L hL
    rcases e2.newP b L hL with h0 | h0
    · exact e1.newP b L h0
    · refine .inr ?_
      rcases h0 with h0 | ⟨b0, x0, L0, h0, h0', h0''⟩
      · exact .inl (Nat.le_trans e1.size h0)
      · rcases loc b0 x0 L0 h0 h0' with h1' | ⟨b1, x1, L1, h1', h1'', h1'''⟩
        · exact .inl (by omega)
        · exact .inr ⟨b1, x1, L1, h1', h1'', h1'''.trans h0''⟩

/-! ### The steps that memory takes -/
def hset (h : Nat → Option ABlk) (b : Nat) (x : Option ABlk) : Nat → Option ABlk := fun i => if i = b then x else h i

theorem hset_same (h : Nat → Option ABlk) (b : Nat) (x : Option ABlk) : hset h b x b = x := by simp [hset]
theorem hset_ne (h : Nat → Option ABlk) {b i : Nat} (x : Option ABlk) (hi : i ≠ b) : hset h b x i = h i := by simp [hset, hi]

def hups (h : Nat → Option ABlk) : List (Nat × Option ABlk) → Nat → Option ABlk
  | [] => h
  | (b, x) :: us => hups (hset h b x) us

theorem BR.mono {P : Program} {F F' : Terr} {φ φ' : Phi} {w w' : World} {L : Loc} {x : ABlk} (hF : ∀ B o, F B = some o → F' B = some o) (hφ : ∀ b L, φ b = some L → φ' b = some L)
    (hw : w'.heap[L.B]? = w.heap[L.B]?) (h : BR P F φ w L x) : BR P F' φ' w' L x := by
  cases x with
  | rows t rs =>
    obtain ⟨cs, h1, h2, h3, h3', h4, h5⟩ := h
    exact ⟨cs, hw ▸ h1, h2, h3, h3', h4, fun r row hr => (h5 r row hr).mono hF hφ⟩
  | map es =>
    obtain ⟨ents, clock, h1, h2, h3, h4⟩ := h
    exact ⟨ents, clock, hw ▸ h1, h2.mono hF hφ, h3.mono hF hφ, h4⟩
  | loop st pending fn t params assign body defers =>
    obtain ⟨lp, h1, g1, g2, h2, h3, h4, h5, h6, h7, D, h8, h9⟩ := h
    exact ⟨lp, hw ▸ h1, g1, g2, h2, h3, fun i => (h4 i).mono hF hφ, h5, h6, h7, D, hφ _ _ h8, h9⟩
  | dfd => show w'.heap[L.B]? = _; rw [hw]; exact h

def pset (φ : Phi) (b : Nat) (L : Loc) : Phi := fun i => if i = b then some L else φ i

theorem pset_mono {φ : Phi} {b : Nat} (L : Loc) (h : φ b = none) : ∀ i M, φ i = some M → pset φ b L i = some M := by
  intro i M hi
  unfold pset
  split
  · rename_i he; subst he; rw [h] at hi; cases hi
  · exact hi

section
variable {P : Program} {F : Terr} {φ : Phi} {n : Nat} {h : Nat → Option ABlk} {w w' : World}

/-- A new block. -/
theorem HR.allocAt (hr : HR P F φ n h w) (n0 b0 n' : Nat) (hn : φ b0 = none) (hm : n0 ≤ n ∧ n0 ≤ b0) (hn1 : n ≤ n') (hn2 : b0 < n') {o : Obj} (hw : w'.heap = w.heap.push o) (x : ABlk) (base size room tot : Nat)
    (hb : BR P F (pset φ b0 ⟨w.heap.size, base, size, room, tot⟩) w' ⟨w.heap.size, base, size, room, tot⟩ x) (ho : Out w w' := by exact ⟨rfl, rfl, rfl⟩) :
    HR P F (pset φ b0 ⟨w.heap.size, base, size, room, tot⟩) n' (hset h b0 (some x)) w' ∧ Ext F φ n0 h w F (pset φ b0 ⟨w.heap.size, base, size, room, tot⟩) n' w' := by
  have hmono := pset_mono ⟨w.heap.size, base, size, room, tot⟩ hn
  have hold : ∀ B, B < w.heap.size → w'.heap[B]? = w.heap[B]? := by
    intro B hB
    rw [hw]
    simp [Array.getElem?_push, Nat.ne_of_lt hB]
  have hsz : w'.heap.size = w.heap.size + 1 := by rw [hw]; simp
  have hFn : F w.heap.size = none := by
    cases hf : F w.heap.size with
    | none => rfl
    | some o' =>
      have := hr.terr _ _ hf
      simp at this
  have hback : ∀ b x', hset h b0 (some x) b = some x' → ∀ L, pset φ b0 ⟨w.heap.size, base, size, room, tot⟩ b = some L → (b = b0 ∧ L = ⟨w.heap.size, base, size, room, tot⟩ ∧ x' = x) ∨ (b ≠ b0 ∧ h b = some x' ∧ φ b = some L) := by
    intro b x' hx L hL
    by_cases he : b = b0
    · subst he
      simp [hset] at hx
      simp [pset] at hL
      exact .inl ⟨rfl, hL.symm, hx.symm⟩
    · simp [hset, he] at hx
      simp [pset, he] at hL
      exact .inr ⟨he, hx, hL⟩
  refine ⟨⟨?_, ?_, ?_, ?_, ?_⟩, ⟨fun _ _ h => h, hmono, by omega, by omega, fun B hB _ => hold B hB, fun _ h => .inl h, ?_, ?_, ho⟩⟩
  · intro B o' hB
    have h1 := hr.terr B o' hB
    have hlt : B < w.heap.size := (Array.getElem?_eq_some_iff.1 h1).1
    rw [hold B hlt]; exact h1
  · intro b x' hx
    by_cases he : b = b0
    · subst he
      simp [hset] at hx
      subst hx
      exact ⟨_, by simp [pset], hFn, hb⟩
    · simp [hset, he] at hx
      obtain ⟨L, h1, h2, h3⟩ := hr.blk b x' hx
      refine ⟨L, hmono _ _ h1, h2, h3.mono (fun _ _ h => h) hmono (hold _ (hr.below _ _ h1))⟩
  · intro b b' x1 x2 L L' h1 h2 h3 h4 h5
    rcases hback b x1 h1 L h3 with ⟨rfl, rfl, _⟩ | ⟨e1, e2, e3⟩ <;> rcases hback b' x2 h2 L' h4 with ⟨rfl, rfl, _⟩ | ⟨e4, e5, e6⟩
    · rfl
    · have := hr.below _ _ e6; simp at h5; omega
    · have := hr.below _ _ e3; simp at h5; omega
    · exact hr.inj _ _ _ _ _ _ e2 e5 e3 e6 h5
  · intro b hb'
    have : b ≠ b0 := by omega
    simp [pset, this]
    exact hr.fresh b (by omega)
  · intro b L hL
    unfold pset at hL
    split at hL
    · cases hL; simp; omega
    · have := hr.below _ _ hL; omega
  · intro b L hL
    unfold pset at hL
    split at hL
    · cases hL; exact .inr (.inl (Nat.le_refl _))
    · exact .inl hL
  · intro b L hL hb
    unfold pset at hL
    split at hL
    · omega
    · exact hL

/-- A new block, at the next number. -/
theorem HR.alloc (hr : HR P F φ n h w) {o : Obj} (hw : w'.heap = w.heap.push o) (x : ABlk) (base size room tot : Nat)
    (hb : BR P F (pset φ n ⟨w.heap.size, base, size, room, tot⟩) w' ⟨w.heap.size, base, size, room, tot⟩ x) (ho : Out w w' := by exact ⟨rfl, rfl, rfl⟩) :
    HR P F (pset φ n ⟨w.heap.size, base, size, room, tot⟩) (n + 1) (hset h n (some x)) w' ∧ Ext F φ n h w F (pset φ n ⟨w.heap.size, base, size, room, tot⟩) (n + 1) w' :=
  hr.allocAt n n (n + 1) (hr.fresh n (Nat.le_refl n)) ⟨Nat.le_refl n, Nat.le_refl n⟩ (Nat.le_succ n) (Nat.lt_succ_self n) hw x base size room tot hb ho

/-- One block turns. -/
theorem HR.turn (hr : HR P F φ n h w) {b : Nat} {x : ABlk} {L : Loc} (hb : h b = some x) (hL : φ b = some L) (hs : w'.heap.size = w.heap.size)
    (hw : ∀ B, B ≠ L.B → w'.heap[B]? = w.heap[B]?) (x' : ABlk) (hx : BR P F φ w' L x') (ho : Out w w' := by exact ⟨rfl, rfl, rfl⟩) :
    HR P F φ n (hset h b (some x')) w' ∧ Ext F φ n h w F φ n w' := by
  obtain ⟨L0, hL0, hF0, _⟩ := hr.blk b x hb
  obtain rfl : L0 = L := by rw [hL] at hL0; exact (Option.some.inj hL0).symm
  refine ⟨⟨?_, ?_, ?_, hr.fresh, fun b L h => by rw [hs]; exact hr.below b L h⟩, ⟨fun _ _ h => h, fun _ _ h => h, Nat.le_refl _, by omega, ?_, fun _ h => .inl h, fun _ _ h => .inl h, fun _ _ h _ => h, ho⟩⟩
  · intro B o hB
    rw [hw B (fun e => by subst e; rw [hF0] at hB; cases hB)]
    exact hr.terr B o hB
  · intro b' y hy
    by_cases he : b' = b
    · subst he
      simp [hset] at hy
      subst hy
      exact ⟨L0, hL, hF0, hx⟩
    · simp [hset, he] at hy
      obtain ⟨L1, h1, h2, h3⟩ := hr.blk b' y hy
      refine ⟨L1, h1, h2, h3.mono (fun _ _ h => h) (fun _ _ h => h) (hw _ fun e => he (hr.inj _ _ _ _ _ _ hy hb h1 hL e))⟩
  · have key : ∀ b1 x1, hset h b (some x') b1 = some x1 → ∃ y, h b1 = some y := by
      intro b1 x1 h1
      by_cases he : b1 = b
      · subst he; exact ⟨x, hb⟩
      · simp [hset, he] at h1; exact ⟨x1, h1⟩
    intro b1 b2 x1 x2 L1 L2 h1 h2 h3 h4 h5
    obtain ⟨y1, k1⟩ := key b1 x1 h1
    obtain ⟨y2, k2⟩ := key b2 x2 h2
    exact hr.inj _ _ _ _ _ _ k1 k2 h3 h4 h5
  · intro B hB hne
    exact hw B (fun e => hne b x L0 hb hL e.symm)

/-- A block turns, and is given up. -/
theorem HR.spend (hr : HR P F φ n h w) {b : Nat} {x : ABlk} {L : Loc} (hb : h b = some x) (hL : φ b = some L) (hs : w'.heap.size = w.heap.size)
    (hw : ∀ B, B ≠ L.B → w'.heap[B]? = w.heap[B]?) (ho : Out w w' := by exact ⟨rfl, rfl, rfl⟩) : HR P F φ n (hset h b none) w' ∧ Ext F φ n h w F φ n w' := by
  obtain ⟨L0, hL0, hF0, _⟩ := hr.blk b x hb
  obtain rfl : L0 = L := by rw [hL] at hL0; exact (Option.some.inj hL0).symm
  refine ⟨⟨?_, ?_, ?_, hr.fresh, fun b L h => by rw [hs]; exact hr.below b L h⟩, ⟨fun _ _ h => h, fun _ _ h => h, Nat.le_refl _, by omega, ?_, fun _ h => .inl h, fun _ _ h => .inl h, fun _ _ h _ => h, ho⟩⟩
  · intro B o hB
    rw [hw B (fun e => by subst e; rw [hF0] at hB; cases hB)]
    exact hr.terr B o hB
  · intro b' y hy
    by_cases he : b' = b
    · simp [hset, he] at hy
    · simp [hset, he] at hy
      obtain ⟨L1, h1, h2, h3⟩ := hr.blk b' y hy
      refine ⟨L1, h1, h2, h3.mono (fun _ _ h => h) (fun _ _ h => h) (hw _ fun e => he (hr.inj _ _ _ _ _ _ hy hb h1 hL e))⟩
  · intro b1 b2 x1 x2 L1 L2 h1 h2 h3 h4 h5
    by_cases e1 : b1 = b
    · simp [hset, e1] at h1
    · by_cases e2 : b2 = b
      · simp [hset, e2] at h2
      · simp [hset, e1] at h1; simp [hset, e2] at h2
        exact hr.inj _ _ _ _ _ _ h1 h2 h3 h4 h5
  · intro B hB hne
    exact hw B (fun e => hne b x L0 hb hL e.symm)

/-- A block is given up. -/
theorem HR.kill (hr : HR P F φ n h w) (b : Nat) : HR P F φ n (hset h b none) w := by
  refine ⟨hr.terr, ?_, ?_, hr.fresh, hr.below⟩
  · intro b' y hy
    by_cases he : b' = b
    · simp [hset, he] at hy
    · simp [hset, he] at hy; exact hr.blk b' y hy
  · intro b1 b2 x1 x2 L1 L2 h1 h2 h3 h4 h5
    by_cases e1 : b1 = b
    · simp [hset, e1] at h1
    · by_cases e2 : b2 = b
      · simp [hset, e2] at h2
      · simp [hset, e1] at h1; simp [hset, e2] at h2
        exact hr.inj _ _ _ _ _ _ h1 h2 h3 h4 h5

/-- A spent block becomes a new one, at its place in memory: what was shown, and more. -/
theorem HR.move (hr : HR P F φ n h w) {b : Nat} {x : ABlk} {L : Loc} (hb : h b = some x) (hL : φ b = some L) (hs : w'.heap.size = w.heap.size)
    (hw : ∀ B, B ≠ L.B → w'.heap[B]? = w.heap[B]?) (x' : ABlk) (L' : Loc) (hB : L'.B = L.B) (hx : BR P F (pset φ n L') w' L' x') (ho : Out w w' := by exact ⟨rfl, rfl, rfl⟩) :
    HR P F (pset φ n L') (n + 1) (hset (hset h b none) n (some x')) w' ∧ Ext F φ n h w F (pset φ n L') (n + 1) w' := by
  have hn := hr.fresh n (Nat.le_refl n)
  have hmono := pset_mono L' hn
  have hbn : b ≠ n := fun e => by subst e; rw [hn] at hL; cases hL
  obtain ⟨L0, hL0, hF0, _⟩ := hr.blk b x hb
  obtain rfl : L0 = L := by rw [hL] at hL0; exact (Option.some.inj hL0).symm
  have hback : ∀ b1 x1, hset (hset h b none) n (some x') b1 = some x1 → ∀ L1, pset φ n L' b1 = some L1 → (b1 = n ∧ L1 = L' ∧ x1 = x') ∨ (b1 ≠ n ∧ b1 ≠ b ∧ h b1 = some x1 ∧ φ b1 = some L1) := by
    intro b1 x1 hx1 L1 hL1
    by_cases he : b1 = n
    · subst he
      simp [hset] at hx1
      simp [pset] at hL1
      exact .inl ⟨rfl, hL1.symm, hx1.symm⟩
    · by_cases he' : b1 = b
      · subst he'
        simp [hset, he] at hx1
      · simp [hset, he, he'] at hx1
        simp [pset, he] at hL1
        exact .inr ⟨he, he', hx1, hL1⟩
  refine ⟨⟨?_, ?_, ?_, ?_, ?_⟩, ⟨fun _ _ h => h, hmono, Nat.le_succ n, by omega, ?_, fun _ h => .inl h, ?_, ?_, ho⟩⟩
  · intro B o hB'
    rw [hw B (fun e => by subst e; rw [hF0] at hB'; cases hB')]
    exact hr.terr B o hB'
  · intro b' y hy
    by_cases he : b' = n
    · subst he
      simp [hset] at hy
      subst hy
      exact ⟨L', by simp [pset], by rw [hB]; exact hF0, hx⟩
    · by_cases he' : b' = b
      · subst he'
        simp [hset, he] at hy
      · simp [hset, he, he'] at hy
        obtain ⟨L1, h1, h2, h3⟩ := hr.blk b' y hy
        refine ⟨L1, hmono _ _ h1, h2, h3.mono (fun _ _ h => h) hmono (hw _ fun e => he' (hr.inj _ _ _ _ _ _ hy hb h1 hL e))⟩
  · intro b1 b2 x1 x2 L1 L2 h1 h2 h3 h4 h5
    rcases hback b1 x1 h1 L1 h3 with ⟨rfl, rfl, _⟩ | ⟨e1, e1', e2, e3⟩ <;> rcases hback b2 x2 h2 L2 h4 with ⟨rfl, rfl, _⟩ | ⟨e4, e4', e5, e6⟩
    · rfl
    · exact absurd (hr.inj _ _ _ _ _ _ e5 hb e6 hL (by rw [← h5, hB])) e4'
    · exact absurd (hr.inj _ _ _ _ _ _ e2 hb e3 hL (by rw [h5, hB])) e1'
    · exact hr.inj _ _ _ _ _ _ e2 e5 e3 e6 h5
  · intro b' hb'
    have : b' ≠ n := by omega
    simp [pset, this]
    exact hr.fresh b' (by omega)
  · intro b' L1 hL1
    unfold pset at hL1
    split at hL1
    · cases hL1; rw [hB, hs]; exact hr.below _ _ hL
    · rw [hs]; exact hr.below _ _ hL1
  · intro B hB' hne
    exact hw B (fun e => hne b x L0 hb hL e.symm)
  · intro b' L1 hL1
    unfold pset at hL1
    split at hL1
    · cases hL1
      exact .inr (.inr ⟨b, x, L0, hb, hL, hB.symm⟩)
    · exact .inl hL1
  · intro b' L1 hL1 hb'
    unfold pset at hL1
    split at hL1
    · omega
    · exact hL1
end

end Go.Ab

/- One operation: the machine's is what the evaluator's says. First part: what only computes, reads, and lays new blocks. -/
namespace Go.Ab
open Go

section
variable {P : Program} {w : World}

theorem r_underlying {t : TypeId} {d : TypeDesc} (h : P.underlying t = some d) : (underlying t).run P w = .ok d w := by
  simp [underlying, h]

theorem r_typeInfo {t : TypeId} {i : TypeInfo} (h : P.info? t = some i) : (typeInfo t).run P w = .ok i w := by
  simp [typeInfo, h]

theorem sizeT_info {t : TypeId} {n : Nat} (h : sizeT P t = some n) : ∃ i, P.info? t = some i ∧ i.size = n := by
  unfold sizeT at h
  cases hi : P.info? t with
  | none => simp [hi] at h
  | some i => exact ⟨i, rfl, by simpa [hi] using h⟩

theorem r_sizeOf {t : TypeId} {n : Nat} (h : sizeT P t = some n) : (sizeOf t).run P w = .ok n w := by
  obtain ⟨i, hi, rfl⟩ := sizeT_info h
  simp [sizeOf, r_typeInfo hi]

theorem aggT_underlying {t : TypeId} {b : Bool} (h : aggT P t = some b) : ∃ d, P.underlying t = some d := by
  unfold aggT at h
  cases hu : P.underlying t with
  | none => simp [hu] at h
  | some d => exact ⟨d, rfl⟩

theorem r_isAgg {t : TypeId} {b : Bool} (h : aggT P t = some b) : (isAgg t).run P w = .ok b w := by
  obtain ⟨d, hd⟩ := aggT_underlying h
  unfold aggT at h
  simp only [hd] at h
  simp only [isAgg, Sem.run_bind, r_underlying hd, Result.andThen_ok]
  cases d <;> simp_all

theorem r_zeroValue {F : Terr} {φ : Phi} {t : TypeId} {z : AV} (h : zeroT P t = some z) : ∃ v, (zeroValue t).run P w = .ok v w ∧ VR F φ z v := by
  unfold zeroT at h
  cases hi : P.info? t with
  | none => simp [hi] at h
  | some i =>
    simp only [hi, Option.bind_some] at h
    cases hz : i.zero with
    | none => simp [hz] at h
    | some v =>
      simp only [hz, Option.map_some, Option.some.injEq] at h
      subst h
      exact ⟨v, by simp [zeroValue, r_typeInfo hi, hz], ofConst_VR v⟩

theorem elemT_underlying {t e : TypeId} (h : elemT P t = some e) : P.underlying t = some (.slice e) := by
  unfold elemT at h
  split at h
  · rename_i e' he; cases h; exact he
  · cases h
end

/-! ### Rows in memory -/
/-- The cells from a place on read as a row. -/
def RowAt (F : Terr) (φ : Phi) (w : World) (B off : Nat) (row : List AV) : Prop :=
  ∃ g : Nat → Value, ∀ j x, row[j]? = some x → w.cell? ⟨B, off + j, none⟩ = some (g j) ∧ VR F φ x (g j)

section
variable {P : Program} {F : Terr} {φ : Phi} {n : Nat} {h : Nat → Option ABlk} {w : World}

theorem rowAt_of_rows {L : Loc} {t : TypeId} {rs : List (List AV)} (hb : BR P F φ w L (.rows t rs)) {r : Nat} {row : List AV} (hr : rs[r]? = some row) :
    RowAt F φ w L.B (L.base + r * L.size) row ∧ row.length = L.size := by
  obtain ⟨cs, h1, h2, h3, h3', h4, h5⟩ := hb
  have hv := h5 r row hr
  have hrl : r < L.room := Nat.lt_of_lt_of_le (List.getElem?_eq_some_iff.1 hr).1 h3
  have hmul : L.base + r * L.size + L.size ≤ cs.size := by
    have : (r + 1) * L.size ≤ L.tot * L.size := Nat.mul_le_mul_right _ (by omega)
    rw [Nat.add_mul, Nat.one_mul] at this
    omega
  have hlen : row.length = L.size := by
    rw [hv.length]
    simp
    omega
  refine ⟨⟨fun j => cs.toList.getD (L.base + r * L.size + j) undef, fun j x hx => ?_⟩, hlen⟩
  have hj : j < L.size := by rw [← hlen]; exact (List.getElem?_eq_some_iff.1 hx).1
  have hlt : L.base + r * L.size + j < cs.size := by omega
  refine ⟨by simp [World.cell?, h1, hlt, List.getD], hv.get j x _ hx ?_⟩
  rw [List.getElem?_take, List.getElem?_drop]
  simp [hj, hlt, List.getD]

theorem rowAt_part {B off : Nat} {row : List AV} (hr : RowAt F φ w B off row) (o k : Nat) : RowAt F φ w B (off + o) ((row.drop o).take k) := by
  obtain ⟨g, hg⟩ := hr
  refine ⟨fun j => g (o + j), fun j x hx => ?_⟩
  rw [List.getElem?_take] at hx
  split at hx
  · rw [List.getElem?_drop] at hx
    obtain ⟨h1, h2⟩ := hg _ _ hx
    exact ⟨by rw [Nat.add_assoc]; exact h1, h2⟩
  · cases hx

theorem addr_add (B o j : Nat) : (⟨B, o, none⟩ : Addr).add j = ⟨B, o + j, none⟩ := by
  unfold Addr.add
  split <;> simp_all

/-- What stands from a place on, loaded whole. -/
theorem rowAt_load {B off : Nat} {row : List AV} (hr : RowAt F φ w B off row) :
    ∃ vs : Array Value, (loadCells ⟨B, off, none⟩ row.length).run P w = .ok vs w ∧ VRL F φ row vs.toList := by
  obtain ⟨g, hg⟩ := hr
  have hl : ((List.range row.length).map g).length = row.length := by simp
  refine ⟨((List.range row.length).map g).toArray, ?_, VRL.mk (by simp) fun i x v hx hv => ?_⟩
  · have key := run_loadCells_list (P := P) w ⟨B, off, none⟩ ((List.range row.length).map g) fun j v hv => ?_
    · rw [hl] at key
      exact key
    obtain ⟨h1, rfl⟩ := List.getElem?_eq_some_iff.1 hv
    simp only [List.length_map, List.length_range] at h1
    simp only [List.getElem_map, List.getElem_range]
    rw [addr_add]
    exact (hg j row[j] (by simp [h1])).1
  · have hi := (List.getElem?_eq_some_iff.1 hx).1
    simp [hi] at hv
    subst hv
    exact (hg i x hx).2

theorem partA_load {B off o : Nat} {row : List AV} {t : TypeId} {v : AV} (hr : RowAt F φ w B off row) (hp : partA P t row o = some v) :
    ∃ u, (loadVar t ⟨B, off + o, none⟩).run P w = .ok u w ∧ VR F φ v u := by
  unfold partA at hp
  split at hp
  · rename_i k ha hs
    split at hp
    · rename_i hle
      cases hp
      have hlen : ((row.drop o).take k).length = k := by simp; omega
      obtain ⟨vs, h1, h2⟩ := rowAt_load (P := P) (rowAt_part hr o k)
      rw [hlen] at h1
      exact ⟨.agg vs, by simp [loadVar, r_isAgg ha, r_sizeOf hs, h1], VR.mk_agg h2⟩
    · cases hp
  · rename_i _ ha hs
    obtain ⟨g, hg⟩ := hr
    obtain ⟨h1, h2⟩ := hg _ _ hp
    exact ⟨g o, by simp [loadVar, r_isAgg ha, h1], h2⟩
  · cases hp

/-- The row that a pointer leads into. -/
theorem row_of_ptr (hr : HR P F φ n h w) {b r o : Nat} {t : TypeId} {rs : List (List AV)} {row : List AV} {v : Value} (hb : h b = some (.rows t rs)) (hrow : rs[r]? = some row)
    (hv : VR F φ (.ptr b r o) v) : ∃ B off, v = .pointer (some ⟨B, off + o, none⟩) ∧ RowAt F φ w B off row := by
  obtain ⟨L, h1, h2, h3⟩ := hr.blk b _ hb
  cases hv with
  | ptr hL =>
    rw [h1] at hL
    cases hL
    exact ⟨_, _, rfl, (rowAt_of_rows h3 hrow).1⟩

theorem row_of_rop (hr : HR P F φ n h w) {o : Nat} {row : List AV} {v : Value} (hv : VR F φ (.rop row o) v) :
    ∃ B off, v = .pointer (some ⟨B, off + o, none⟩) ∧ RowAt F φ w B off row := by
  cases hv with
  | @rop _ _ B off cs t fr g hF hc h =>
    refine ⟨_, _, rfl, g, fun j x hx => ⟨?_, h j x hx⟩⟩
    have := hr.terr _ _ hF
    simp [World.cell?, this, hc j x hx]

theorem loadA_sound (hr : HR P F φ n h w) {t : TypeId} {a v : AV} {c : Value} (ha : VR F φ a c) (hl : loadA P h t a = some v) :
    ∃ u, (Instr.loadAt t c).run P w = .ok u w ∧ VR F φ v u := by
  unfold loadA at hl
  split at hl
  · rename_i b r o
    split at hl
    · rename_i t' rs hb
      cases hrow : rs[r]? with
      | none => simp [hrow] at hl
      | some row =>
        simp only [hrow, Option.bind_some] at hl
        obtain ⟨B, off, rfl, hR⟩ := row_of_ptr hr hb hrow ha
        obtain ⟨u, h1, h2⟩ := partA_load hR hl
        exact ⟨u, by simp [Instr.loadAt, Instr.sureAddr, h1], h2⟩
    · cases hl
  · obtain ⟨B, off, rfl, hR⟩ := row_of_rop hr ha
    obtain ⟨u, h1, h2⟩ := partA_load hR hl
    exact ⟨u, by simp [Instr.loadAt, Instr.sureAddr, h1], h2⟩
  · cases hl

/-- A part of a value's cells. -/
theorem partA_part {cs : List AV} {vs : Array Value} {t : TypeId} {o : Nat} {v : AV} (hc : VRL F φ cs vs.toList) (hp : partA P t cs o = some v) :
    ∃ u, (part t vs o).run P w = .ok u w ∧ VR F φ v u := by
  unfold partA at hp
  split at hp
  · rename_i k ha hs
    split at hp
    · cases hp
      refine ⟨.agg (vs.extract o (o + k)), by simp [part, r_isAgg ha, r_sizeOf hs], VR.mk_agg ?_⟩
      have := (hc.drop o).take k
      simpa [Array.toList_extract, List.extract_eq_take_drop] using this
    · cases hp
  · rename_i _ ha hs
    obtain ⟨u, h1, h2⟩ := hc.some hp
    have h1' : vs[o]? = some u := by simpa using h1
    exact ⟨u, by simp [part, r_isAgg ha, h1'], h2⟩
  · cases hp
end

end Go.Ab
