/-
  This file has an evaluator of trees over memories that stand for real ones.
-/
import Derived.Test.YtbnaoejdpggekaaGreatFrV
namespace Go.Fr
open Go

/-- What is asked of a type. -/
structure TI where
  d : TypeDesc
  size : Nat
  bytes : Nat
  z : Value

def mkTI (P : Program) (t : TypeId) : Option TI :=
  match P.underlying t, P.info? t with
  | some d, some i => match i.zero with
    | some z => if z.cells.size = i.size then some ⟨d, i.size, i.bytes, z⟩ else none
    | none => none
  | _, _ => none

def TI.zs (x : TI) : List Value := x.z.cells.toList
def isAg : TypeDesc → Bool
  | .struct _ | .array _ _ => true
  | _ => false

/-- The elements of a slice type: the type, what is known of it. -/
def elemTI (P : Program) (t : TypeId) : Option (TypeId × TI) :=
  match P.underlying t with
  | some (.slice e) => (mkTI P e).map fun x => (e, x)
  | _ => none

def V.one : V → Bool
  | .agg _ | .tup _ => false
  | .raw (.agg _) | .raw (.tuple _) => false
  | _ => true

/-- Some cells over others, from a place on. -/
def spl {α : Type} : List α → Nat → List α → List α
  | [], _, _ => []
  | c :: cs, 0, n => match n with | [] => c :: cs | x :: n => x :: spl cs 0 n
  | c :: cs, o + 1, n => c :: spl cs o n

def rep {α : Type} (zs : List α) : Nat → List α
  | 0 => []
  | n + 1 => zs ++ rep zs n

namespace Ev

def cellsAt (h : VH) (k : Nat) : Option (TypeId × List V) :=
  match h.get k with
  | some (.cells t cs) => some (t, cs)
  | _ => none

def load (P : Program) (h : VH) (t : TypeId) : V → Option V
  | .ptr k o =>
    match cellsAt h k, mkTI P t with
    | some (_, cs), some ti => if isAg ti.d then (if o + ti.size ≤ cs.length then some (.agg ((cs.drop o).take ti.size)) else none) else nth cs o
    | _, _ => none
  | _ => none

def putCells (h : VH) (k o : Nat) (vs : List V) : Option VH :=
  match cellsAt h k with
  | some (t, cs) => if o + vs.length ≤ cs.length ∧ vs.all V.one = true then some (h.set k (.cells t (spl cs o vs))) else none
  | _ => none

def store (P : Program) (h : VH) (t : TypeId) (a v : V) : Option VH :=
  match a, mkTI P t with
  | .ptr k o, some ti => if v.cells.length = ti.size then putCells h k o v.cells else none
  | _, _ => none

def newCells (h : VH) (t : TypeId) (cs : List V) : V × VH := (.ptr h.next 0, h.new (.cells t cs))

def intBin (op : BinOp) (k : IntKind) (x : Int) (k' : IntKind) (y : Int) : Option Value :=
  match op with
  | .shl => if y < 0 then none else some (.int k (k.wrap (x * 2 ^ (min y.toNat k.bits))))
  | .shr => if y < 0 then none else some (.int k (x.fdiv (2 ^ (min y.toNat k.bits))))
  | op =>
    if k ≠ k' then none else
    match op with
    | .add => some (.int k (k.wrap (x + y)))
    | .sub => some (.int k (k.wrap (x - y)))
    | .mul => some (.int k (k.wrap (x * y)))
    | .quo => if y = 0 then none else some (.int k (k.wrap (x.tdiv y)))
    | .rem => if y = 0 then none else some (.int k (x.tmod y))
    | .and => some (.int k (k.wrap (BitVec.ofInt k.bits x &&& BitVec.ofInt k.bits y).toNat))
    | .or => some (.int k (k.wrap (BitVec.ofInt k.bits x ||| BitVec.ofInt k.bits y).toNat))
    | .xor => some (.int k (k.wrap (BitVec.ofInt k.bits x ^^^ BitVec.ofInt k.bits y).toNat))
    | .eql => some (.bool (decide (x = y)))
    | .neq => some (.bool (decide (x ≠ y)))
    | .lss => some (.bool (decide (x < y)))
    | .leq => some (.bool (decide (x ≤ y)))
    | .gtr => some (.bool (decide (y < x)))
    | .geq => some (.bool (decide (y ≤ x)))
    | _ => none

def strBin (op : BinOp) (x y : ByteArray) : Option Value :=
  match op with
  | .eql => some (.bool (x.data.toList == y.data.toList))
  | .neq => some (.bool !(x.data.toList == y.data.toList))
  | .add => if x.size + y.size < 1000000 then some (.string ⟨(x.data.toList ++ y.data.toList).toArray⟩) else none
  | _ => none

/-- Are two scalars the same? -/
def rawEq : TypeDesc → V → V → Option Bool
  | .int _, .raw (.int k x), .raw (.int k' y) => if k = k' then some (decide (x = y)) else none
  | .bool, .raw (.bool x), .raw (.bool y) => some (x == y)
  | .string, .raw (.string x), .raw (.string y) => some (x.data.toList == y.data.toList)
  | .pointer _, .raw (.pointer none), .raw (.pointer none) => some true
  | .pointer _, .ptr _ _, .raw (.pointer none) => some false
  | .pointer _, .raw (.pointer none), .ptr _ _ => some false
  | .slice _, .raw (.slice none _ _), .raw (.slice none _ _) => some true
  | .slice _, .sl .., .raw (.slice none _ _) => some false
  | .slice _, .raw (.slice none _ _), .sl .. => some false
  | .map _ _, .raw (.map none), .raw (.map none) => some true
  | .map _ _, .map _, .raw (.map none) => some false
  | .map _ _, .raw (.map none), .map _ => some false
  | .func _ _ _, .raw .nilFunc, .raw .nilFunc => some true
  | .func _ _ _, .fn .., .raw .nilFunc => some false
  | .func _ _ _, .raw .nilFunc, .fn .. => some false
  | .interface _, .ifc .., .raw .nilIface => some false
  | .interface _, .raw (.iface ..), .raw .nilIface => some false
  | _, _, _ => none

def isAgV : V → Bool
  | .agg _ => true
  | .raw (.agg _) => true
  | _ => false

/-- Are two rows of fields the same? -/
def fldsEq (P : Program) : List Field → List V → List V → Option Bool
  | [], _, _ => some true
  | f :: fs, xs, ys =>
    if f.name = "_" then none else
    match mkTI P f.type, nth xs f.offset, nth ys f.offset with
    | some ti, some x, some y => if isAg ti.d then none else
      match rawEq ti.d x y with
      | some true => fldsEq P fs xs ys
      | r => r
    | _, _, _ => none

def valEq (P : Program) (t : TypeId) (x y : V) : Option Bool :=
  match mkTI P t with
  | none => none
  | some ti =>
    match ti.d with
    | .struct fs => if P.stoodInHeld t = false ∧ P.eqGuardType P.depth t = false ∧ isAgV x = true ∧ isAgV y = true then fldsEq P fs.toList x.cells y.cells else none
    | d => rawEq d x y

def bin (P : Program) (op : BinOp) (t : TypeId) (a b : V) : Option V :=
  match a, b with
  | .raw (.int k x), .raw (.int k' y) => (intBin op k x k' y).map .raw
  | .raw (.string x), .raw (.string y) => (strBin op x y).map .raw
  | a, b =>
    match op with
    | .eql => (valEq P t a b).map fun r => .raw (.bool r)
    | .neq => (valEq P t a b).map fun r => .raw (.bool !r)
    | _ => none

def un (op : UnOp) (a : V) : Option V :=
  match op, a with
  | .not, .raw (.bool b) => some (.raw (.bool !b))
  | .neg, .raw (.int k n) => some (.raw (.int k (k.wrap (0 - n))))
  | _, _ => none

def bytesOf : List V → Option (List UInt8)
  | [] => some []
  | .raw (.int .u8 n) :: l => (bytesOf l).map (UInt8.ofNat n.toNat :: ·)
  | _ => none

/-- A slice's cells. -/
def sliceCells (h : VH) (size : Nat) : V → Option (List V)
  | .raw (.slice none 0 0) => some []
  | .raw (.string s) => if size = 1 then some (s.data.toList.map fun b => .raw (.int .u8 b.toNat)) else none
  | .sl k o len _ _ es =>
    if es = size then
      match cellsAt h k with
      | some (_, cs) => if o + len * es ≤ cs.length then some ((cs.drop o).take (len * es)) else none
      | none => none
    else none
  | _ => none

def lenOf : V → Option Nat
  | .raw (.slice _ n _) => some n
  | .raw (.string s) => some s.size
  | .sl _ _ n _ _ _ => some n
  | _ => none

/-- a conversion that only looks -/
def convq (P : Program) (h : VH) (s d : TypeId) (x : V) : Option V :=
  match P.underlying s, P.underlying d with
  | some _, some (.int k) => match x with
    | .raw (.int _ n) => some (.raw (.int k (k.wrap n)))
    | _ => none
  | some .string, some .string => match x with
    | .raw (.string b) => some (.raw (.string b))
    | _ => none
  | some (.slice e), some .string =>
    match P.underlying e with
    | some (.int .u8) => match x with
      | .raw (.slice none _ _) => some (.raw (.string .empty))
      | .sl k o n ex lb es => match (sliceCells h 1 (.sl k o n ex lb es)).bind bytesOf with
        | some bs => some (.raw (.string ⟨bs.toArray⟩))
        | none => none
      | _ => none
    | _ => none
  | _, _ => none

def convn (P : Program) (h : VH) (s d : TypeId) (x : V) : Option (V × VH) :=
  match P.underlying s, P.underlying d with
  | some .string, some (.slice e) => match x with
    | .raw (.string b) =>
      match P.underlying e with
      | some (.int .u8) => some (.sl h.next 0 b.size false b.size 1, h.new (.cells e (b.data.toList.map fun b => .raw (.int .u8 b.toNat))))
      | _ => none
    | _ => none
  | some (.slice _), some (.slice e) => match x with
    | .sl k o n ex lb es =>
      match P.underlying e, cellsAt h k with
      | some (.int .u8), some _ => if s = d then some (.sl k o n ex lb es, h) else none
      | _, _ => none
    | _ => none
  | _, _ => none

def num : Option V → Option (Option Nat)
  | none => some none
  | some (.raw (.int _ i)) => if 0 ≤ i then some (some i.toNat) else none
  | _ => none

def slice (P : Program) (h : VH) (t : TypeId) (x : V) (lo hi mx : Option V) : Option V :=
  match num lo, num hi, num mx, P.underlying t with
  | some lo, some hi, some mx, some (.slice e) =>
    match mkTI P e, x with
    | some ti, .sl k o len ex lb es =>
      if es ≠ ti.size then none else
      let l := lo.getD 0
      let hh := hi.getD len
      let m := mx.getD lb
      let exm := mx.isSome || ex
      if l ≤ hh ∧ hh ≤ m ∧ m ≤ lb ∧ (mx.isSome = true → hi.isSome = true) ∧ (hi.isNone = true → l ≤ len) then
        if l < m then some (.sl k (o + l * es) (hh - l) exm (m - l) es)
        else if exm then some (.sl k o (hh - l) exm (m - l) es)
        else if l = 0 then some (.sl k o (hh - l) exm (m - l) es) else none
      else none
    | some _, .raw (.slice none 0 0) => if lo.getD 0 = 0 ∧ hi.getD 0 = 0 ∧ mx = none then some (.raw (.slice none 0 0)) else none
    | _, _ => none
  | some lo, some hi, some none, some (.array n e) =>
    match mkTI P e, x with
    | some ti, .ptr k o =>
      match cellsAt h k with
      | some (_, cs) =>
        let l := lo.getD 0
        let hh := hi.getD n
        if l ≤ hh ∧ hh ≤ n ∧ o + n * ti.size ≤ cs.length then
          some (.sl k (if n = l then o else o + l * ti.size) (hh - l) true (n - l) ti.size)
        else none
      | none => none
    | _, _ => none
  | some lo, some hi, some none, some .string =>
    match x with
    | .raw (.string s) =>
      let l := lo.getD 0
      let hh := hi.getD s.size
      if l ≤ hh ∧ hh ≤ s.size then some (.raw (.string ⟨((s.data.toList.drop l).take (hh - l)).toArray⟩)) else none
    | _ => none
  | _, _, _, _ => none

def fieldOf (P : Program) (t : TypeId) (i : Nat) : Option (Nat × TI) :=
  match P.underlying t with
  | some (.struct fs) => match fs[i]? with
    | some f => (mkTI P f.type).map fun x => (f.offset, x)
    | none => none
  | _ => none

def fieldAt (P : Program) (t : TypeId) (i : Nat) : V → Option V
  | .ptr k o => match fieldOf P t i with
    | some (off, ti) => if ti.size = 0 then none else some (.ptr k (o + off))
    | none => none
  | _ => none

def partOf (ti : TI) (cs : List V) (off : Nat) : Option V :=
  if isAg ti.d then (if off + ti.size ≤ cs.length then some (.agg ((cs.drop off).take ti.size)) else none) else nth cs off

def field (P : Program) (t : TypeId) (i : Nat) (v : V) : Option V :=
  if isAgV v then match fieldOf P t i with
    | some (off, ti) => partOf ti v.cells off
    | none => none
  else none

def indexAt (P : Program) (t : TypeId) (x i : V) : Option V :=
  match P.underlying t, x, i with
  | some (.slice e), .sl k o len _ _ es, .raw (.int _ i) =>
    match mkTI P e with
    | some ti => if es = ti.size ∧ 0 ≤ i ∧ i < len then some (.ptr k (o + i.toNat * es)) else none
    | none => none
  | some (.array n e), .ptr k o, .raw (.int _ i) =>
    match mkTI P e with
    | some ti => if 0 ≤ i ∧ i < n then some (.ptr k (o + i.toNat * ti.size)) else none
    | none => none
  | _, _, _ => none

def index (P : Program) (t : TypeId) (x i : V) : Option V :=
  match P.underlying t, x, i with
  | some .string, .raw (.string s), .raw (.int _ i) =>
    if 0 ≤ i then match nth s.data.toList i.toNat with | some b => some (.raw (.int .u8 b.toNat)) | none => none else none
  | some (.array n e), x, .raw (.int _ i) =>
    match mkTI P e with
    | some ti => if isAgV x = true ∧ 0 ≤ i ∧ i < n then partOf ti x.cells (i.toNat * ti.size) else none
    | none => none
  | _, _, _ => none

/-- The key of a map, if it is one that is easily compared. -/
def keyEq : V → V → Option Bool
  | .raw (.int k x), .raw (.int k' y) => if k = k' then some (decide (x = y)) else none
  | .raw (.string x), .raw (.string y) => some (x.data.toList == y.data.toList)
  | _, _ => none

def keyOk (P : Program) (t : TypeId) : V → Bool
  | .raw (.int _ _) => match P.underlying t with | some (.int _) => true | _ => false
  | .raw (.string _) => match P.underlying t with | some .string => true | _ => false
  | _ => false

def find (k : V) : List (V × V × Nat) → Nat → Option (Option (Nat × V))
  | [], _ => some none
  | (a, v, _) :: es, i => match keyEq k a with
    | some true => some (some (i, v))
    | some false => find k es (i + 1)
    | none => none

def mapAt (h : VH) : V → Option (List (V × V × Nat))
  | .raw (.map none) => some []
  | .map k => match h.get k with
    | some (.map es _) => some es
    | _ => none
  | _ => none

def lookup (P : Program) (h : VH) (t : TypeId) (x i : V) (ok : Bool) : Option V :=
  match P.underlying t with
  | some (.map key elem) =>
    match mapAt h x, mkTI P elem with
    | some es, some ti => if keyOk P key i then
        match find i es 0 with
        | some (some (_, v)) => some (if ok then .tup [v, .raw (.bool true)] else v)
        | some none => some (if ok then .tup [.raw ti.z, .raw (.bool false)] else .raw ti.z)
        | none => none
      else none
    | _, _ => none
  | _ => none

def mapSet (P : Program) (h : VH) (t : TypeId) (m k x : V) : Option VH :=
  match P.underlying t, m with
  | some (.map key _), .map r =>
    match h.get r with
    | some (.map es clock) => if keyOk P key k then
        match find k es 0 with
        | some (some (i, _)) => some (h.set r (.map (es.modify i fun e => (k, x, e.2.2)) clock))
        | some none => some (h.set r (.map (es ++ [(k, x, clock)]) (clock + 1)))
        | none => none
      else none
    | _ => none
  | _, _ => none

def del (P : Program) (h : VH) (t : TypeId) (m k : V) : Option VH :=
  match P.underlying t, m with
  | some (.map key _), .map r =>
    match h.get r with
    | some (.map es clock) => if keyOk P key k then
        match find k es 0 with
        | some (some (i, _)) => some (h.set r (.map (es.eraseIdx i) clock))
        | some none => some (h.set r (.map es clock))
        | none => none
      else none
    | _ => none
  | _, _ => none

/-- what is appended: a slice's elements, or noughts -/
def added (h : VH) (ti : TI) (d2 : TypeDesc) (x : V) : Option (List V × Nat) :=
  match d2 with
  | .int _ => match x with
    | .raw (.int _ n) => if 0 ≤ n ∧ n * (ti.bytes + 1) ≤ 1000000 then some (rep (ti.zs.map .raw) n.toNat, n.toNat) else none
    | _ => none
  | _ => match sliceCells h ti.size x, lenOf x with
    | some new, some n => some (new, n)
    | _, _ => none

/-- append: in place, where there is room for sure; else a block of its own, and no more of the old one. -/
def append (P : Program) (h : VH) (ts : List TypeId) (s x : V) : Option (V × VH) :=
  match ts with
  | t :: t2 :: _ =>
    match elemTI P t, P.underlying t2 with
    | some (e, ti), some d2 =>
      if ti.size = 0 then none else
      match added h ti d2 x with
      | some (new, n) =>
        match s with
        | .raw (.slice none 0 0) => if n = 0 then some (.raw (.slice none 0 0), h) else if 1000000 < n * (ti.bytes + 1) then none else
            some (.sl h.next 0 n false n ti.size, h.new (.cells e new))
        | .sl k o len ex lb es =>
          if es ≠ ti.size ∨ 1000000 < (len + n) * (ti.bytes + 1) then none else
          if len + n ≤ lb then
            match putCells h k (o + len * es) new with
            | some h' => some (.sl k o (len + n) ex lb es, h')
            | none => none
          else
            match sliceCells h ti.size s with
            | some old =>
              if ex then some (.sl h.next 0 (len + n) false (len + n) es, h.new (.cells e (old ++ new)))
              else if o = 0 then
                match cellsAt h k with
                | some (t0, _) => if t0 = e ∧ new.all V.one = true then some (.sl h.next 0 (len + n) false (len + n) es, (h.new (.cells e (old ++ new))).del k) else none
                | none => none
              else none
            | none => none
        | _ => none
      | none => none
    | _, _ => none
  | _ => none

def copy (P : Program) (h : VH) (ts : List TypeId) (d s : V) : Option (V × VH) :=
  match ts with
  | t :: _ =>
    match elemTI P t, lenOf d, lenOf s with
    | some (_, ti), some dn, some sn =>
      let n := Nat.min sn dn
      match sliceCells h ti.size s with
      | some cs =>
        match d with
        | .raw (.slice none 0 0) => some (.raw (.int .i64 n), h)
        | .sl k o _ _ _ es => if es ≠ ti.size then none else
          match putCells h k o (cs.take (n * es)) with
          | some h' => some (.raw (.int .i64 n), h')
          | none => none
        | _ => none
      | none => none
    | _, _, _ => none
  | _ => none

def mapSize (h : VH) (v : V) : Option Nat := (mapAt h v).map List.length

def builtinq (P : Program) (h : VH) (b : Builtin) (ts : List TypeId) (as : List V) : Option V :=
  match b, as with
  | .len, [x] => match ts with
    | t :: _ => match P.underlying t with
      | some (.slice _) => match x with
        | .raw (.slice _ n _) => some (.raw (.int .i64 n))
        | .sl _ _ n _ _ _ => some (.raw (.int .i64 n))
        | _ => none
      | some .string => match x with
        | .raw (.string s) => some (.raw (.int .i64 s.size))
        | _ => none
      | some (.map _ _) => (mapSize h x).map fun n => .raw (.int .i64 n)
      | _ => none
    | _ => none
  | .min, [.raw (.int k a), .raw (.int k' b)] => if k = k' then some (.raw (.int k (if b < a then b else a))) else none
  | .max, [.raw (.int k a), .raw (.int k' b)] => if k = k' then some (.raw (.int k (if a < b then b else a))) else none
  | _, _ => none

def builtin (P : Program) (h : VH) (b : Builtin) (ts : List TypeId) (as : List V) : Option (V × VH) :=
  match b, as with
  | .append, [s, x] => append P h ts s x
  | .copy, [d, s] => copy P h ts d s
  | .delete, [m, k] => match ts with
    | t :: _ => (del P h t m k).map fun h' => (.raw (.tuple #[]), h')
    | _ => none
  | _, _ => none

def fillAll (size : Nat) (place : Nat → Option (Nat × Nat)) : List V → List (Nat × V) → Option (List V)
  | cs, [] => some cs
  | cs, (i, v) :: r => match place i with
    | some (off, n) => if v.cells.length = n ∧ off + n ≤ size then fillAll size place (spl cs off v.cells) r else none
    | none => none

def plc (P : Program) : List Field → Option (List (Nat × Nat))
  | [] => some []
  | f :: fs => match mkTI P f.type, plc P fs with
    | some x, some l => some ((f.offset, x.size) :: l)
    | _, _ => none

def build (P : Program) (t : TypeId) (ps : List (Nat × V)) : Option V :=
  match mkTI P t with
  | some ti => match ti.d with
    | .struct fs => match plc P fs.toList with
      | some l => (fillAll ti.size (nth l) (ti.zs.map .raw) ps).map .agg
      | none => none
    | .array _ e => match mkTI P e with
      | some ei => (fillAll ti.size (fun i => some (i * ei.size, ei.size)) (ti.zs.map .raw) ps).map .agg
      | none => none
    | _ => none
  | none => none

def buildSlice (P : Program) (h : VH) (t : TypeId) (n : Nat) (ps : List (Nat × V)) : Option (V × VH) :=
  match elemTI P t with
  | some (e, ti) =>
    if 16777216 < n * ti.size then none else
    match fillAll (n * ti.size) (fun i => some (i * ti.size, ti.size)) (rep (ti.zs.map .raw) n) ps with
    | some cs => some (.sl h.next 0 n true n ti.size, h.new (.cells e cs))
    | none => none
  | none => none

def make (P : Program) (h : VH) (t : TypeId) (l c : V) : Option (V × VH) :=
  match elemTI P t, l, c with
  | some (e, ti), .raw (.int _ l), .raw (.int _ c) =>
    if 0 ≤ l ∧ l ≤ c ∧ c * (ti.bytes + ti.size + 1) ≤ 1000000 then
      some (.sl h.next 0 l.toNat true c.toNat ti.size, h.new (.cells e (rep (ti.zs.map .raw) c.toNat)))
    else none
  | _, _, _ => none

def range (P : Program) (h : VH) (t : TypeId) (x : V) : Option (V × VH) :=
  match P.underlying t, x with
  | some (.map _ _), .raw (.map none) => some (.ptr h.next 0, h.new (.iter none 0 [] 0))
  | some (.map _ _), .map k => match h.get k with
    | some (.map _ clock) => some (.ptr h.next 0, h.new (.iter (some k) clock [] clock))
    | _ => none
  | _, _ => none

/-- the entries that a step may come to -/
def next (h : VH) (it : V) : Option (List (V × VH)) :=
  match it with
  | .ptr r 0 =>
    match h.get r with
    | some (.iter none _ _ _) => some [(.tup [.raw (.bool false)], h)]
    | some (.iter (some m) since seen _) =>
      match h.get m with
      | some (.map es clock) =>
        if seen.isEmpty then
          if es.isEmpty then some [(.tup [.raw (.bool false)], h)]
          else if es.all (fun e => decide (e.2.2 < since)) then
            some (es.map fun e => (.tup [.raw (.bool true), e.1, e.2.1], h.set r (.iter (some m) since [e.2.2] clock)))
          else none
        else none
      | _ => none
    | _ => none
  | _ => none

def extract (x : V) (i : Nat) : Option V :=
  match x with
  | .tup vs => nth vs i
  | .raw (.tuple vs) => (nth vs.toList i).map .raw
  | _ => none

def assert (P : Program) (x : V) (u : TypeId) (ok : Bool) : Option V :=
  match mkTI P u with
  | some ti =>
    match ti.d with
    | .interface _ => none
    | _ =>
      match x with
      | .raw .nilIface => if ok then some (.tup [.raw ti.z, .raw (.bool false)]) else none
      | .ifc t v => if t = u then some (if ok then .tup [v, .raw (.bool true)] else v) else if ok then some (.tup [.raw ti.z, .raw (.bool false)]) else none
      | _ => none
  | none => none

def opts (e : List (List V)) : Option X → Option V
  | none => none
  | some x => some (x.ev e)

/-- An operation that only looks. -/
def opq (P : Program) (d : D) (e : List (List V)) (h : VH) : Option V :=
  match d with
  | .build t ps => build P t (ps.map fun p => (p.1, p.2.ev e))
  | .load t a => load P h t (a.ev e)
  | .nil x => match x.ev e with
    | .ptr k o => some (.ptr k o)
    | _ => none
  | .bin op t _ _ a b => bin P op t (a.ev e) (b.ev e)
  | .un op x => un op (x.ev e)
  | .conv s d x => convq P h s d (x.ev e)
  | .iface t x => match P.underlying t with
    | some (.interface _) => none
    | some _ => some (.ifc t (x.ev e))
    | none => none
  | .func f a b => some (.fn f (a.map (X.ev e)) (b.map (X.ev e)))
  | .slice t x lo hi mx => slice P h t (x.ev e) (opts e lo) (opts e hi) (opts e mx)
  | .fieldAt t x i => fieldAt P t i (x.ev e)
  | .field t x i => field P t i (x.ev e)
  | .indexAt t x i => indexAt P t (x.ev e) (i.ev e)
  | .index t x i => index P t (x.ev e) (i.ev e)
  | .lookup t x i ok => lookup P h t (x.ev e) (i.ev e) ok
  | .extract x i => extract (x.ev e) i
  | .assert x _ u ok => assert P (x.ev e) u ok
  | .builtin b ts _ _ as => builtinq P h b ts (as.map (X.ev e))
  | _ => none

/-- .. that does something. -/
def opn (P : Program) (d : D) (e : List (List V)) (h : VH) : Option (V × VH) :=
  match d with
  | .alloc t => match mkTI P t with
    | some ti => some (newCells h t (ti.zs.map .raw))
    | none => none
  | .box t v => some (newCells h t (v.ev e).cells)
  | .buildSlice t n ps => buildSlice P h t n (ps.map fun p => (p.1, p.2.ev e))
  | .store t a v => (store P h t (a.ev e) (v.ev e)).map (.raw undef, ·)
  | .conv s d x => convn P h s d (x.ev e)
  | .map _ none => some (.map h.next, h.new (.map [] 0))
  | .make t l c => make P h t (l.ev e) (c.ev e)
  | .mapSet t m k x => (mapSet P h t (m.ev e) (k.ev e) (x.ev e)).map (.raw undef, ·)
  | .range t x => range P h t (x.ev e)
  | .builtin b ts _ _ as => builtin P h b ts (as.map (X.ev e))
  | _ => none

/-- An operation that is no call, and has one outcome. -/
def op (P : Program) (d : D) (e : List (List V)) (h : VH) : Option (V × VH) :=
  match opq P d e h with
  | some v => some (v, h)
  | none => opn P d e h

/-- A scalar of which it is sure that two are one. -/
def same1 : V → V → Bool
  | .raw (.int k x), .raw (.int k' y) => decide (k = k') && decide (x = y)
  | .raw (.bool x), .raw (.bool y) => x == y
  | .raw (.pointer none), .raw (.pointer none) => true
  | .raw (.slice none a b), .raw (.slice none c d) => decide (a = c) && decide (b = d)
  | .raw (.map none), .raw (.map none) => true
  | .raw (.string x), .raw (.string y) => x.data.toList == y.data.toList
  | .ptr k o, .ptr k' o' => decide (k = k') && decide (o = o')
  | .map k, .map k' => decide (k = k')
  | .sl k o n ex lb es, .sl k' o' n' ex' lb' es' => decide (k = k') && decide (o = o') && decide (n = n') && (ex == ex') && decide (lb = lb') && decide (es = es')
  | _, _ => false

def sames : List V → List V → Bool
  | [], [] => true
  | a :: l, b :: m => same1 a b && sames l m
  | _, _ => false

def same : V → V → Bool
  | .agg a, .agg b => sames a b
  | a, b => same1 a b

def callee (f : V) (as : List V) : Option (FuncId × List V) :=
  match f with
  | .fn (.func g) a b => some (g, a ++ as ++ b)
  | .raw (.func (.func g) a b) => some (g, a.toList.map .raw ++ as ++ b.toList.map .raw)
  | _ => none

structure O where
  t : Nat
  vs : List V
  h : VH

def all {α : Type} (f : α → Option (List O)) : List α → Option (List O)
  | [] => some []
  | a :: l => match f a with
    | none => none
    | some r => match all f l with
      | none => none
      | some r' => some (r ++ r')

def iter (n : Nat) (step : List V → VH → Option (List O)) (vs : List V) (h : VH) : Option (List O) :=
  match n with
  | 0 => none
  | n + 1 => match step vs h with
    | none => none
    | some l => all (fun o => if o.t = 0 then iter n step o.vs o.h else some [o]) l

abbrev Rec := FuncId → List V → VH → Option (List (V × VH))

/-- What an operation may come to. -/
def step (P : Program) (rec : Rec) (d : D) (e : List (List V)) (h : VH) : Option (List (V × VH)) :=
  match d with
  | .call f as => rec f (as.map (X.ev e)) h
  | .callV f as => match callee (f.ev e) (as.map (X.ev e)) with
    | some (g, as) => rec g as h
    | none => none
  | .next it false _ => next h (it.ev e)
  | d => match op P d e h with
    | some r => some [r]
    | none => none

def res (rs : List ResultVar) (P : Program) (h : VH) : List V → Option (List V)
  | vs => match rs, vs with
    | [], [] => some []
    | .tmp _ :: rs, v :: vs => (res rs P h vs).map (v :: ·)
    | .cell _ t :: rs, v :: vs => match load P h t v, res rs P h vs with
      | some u, some us => some (u :: us)
      | _, _ => none
    | _, _ => none

def tup : List V → V
  | [v] => v
  | vs => .tup vs

/-- The deferred calls, and then the results. -/
def fin (P : Program) (recD : Rec) (rs : List ResultVar) (vs : List V) : List (FuncId × List V) → VH → Option (List O)
  | [], h => match res rs P h vs with
    | some us => some [⟨0, [tup us], h⟩]
    | none => none
  | (f, as) :: ds, h => match recD f as h with
    | some l => all (fun r => fin P recD rs vs ds r.2) l
    | none => none

def ev (P : Program) (rec recD : Rec) (fuel : Nat) : T → Nat → List (List V) → List (FuncId × List V) → VH → Option (List O)
  | .done t xs, _, e, _, h => some [⟨t, xs.map (X.ev e), h⟩]
  | .doneRow t i, _, e, _, h => some [⟨t, (nth e i).getD [], h⟩]
  | .bind p k, g, e, ds, h => match ev P rec recD fuel p g e ds h with
    | some l => all (fun o => ev P rec recD fuel k o.t (o.vs :: e) ds o.h) l
    | none => none
  | .op d k, g, e, ds, h => match step P rec d e h with
    | some l => all (fun r => ev P rec recD fuel k g ([r.1] :: e) ds r.2) l
    | none => none
  | .rd d k, g, e, ds, h => match opq P d e h with
    | some r => ev P rec recD fuel k g ([r] :: e) ds h
    | none => none
  | .chk d x k, g, e, ds, h => match opq P d e h with
    | some r => if same r (x.ev e) then ev P rec recD fuel k g e ds h else none
    | none => none
  | .dfr f as k, g, e, ds, h => match callee (f.ev e) (as.map (X.ev e)) with
    | some d => ev P rec recD fuel k g e (d :: ds) h
    | none => none
  | .ite x a b, g, e, ds, h => match x.ev e with
    | .raw (.bool true) => ev P rec recD fuel a g e ds h
    | .raw (.bool false) => ev P rec recD fuel b g e ds h
    | _ => none
  | .both a b, g, e, ds, h => match ev P rec recD fuel a g e ds h, ev P rec recD fuel b g e ds h with
    | some l, some m => some (l ++ m)
    | _, _ => none
  | .drew p, g, e, ds, h => ev P rec recD fuel p g e ds h
  | .loop init body k, g, e, ds, h => match iter fuel (fun vs h => ev P rec recD fuel body g (vs :: e) ds h) (init.map (X.ev e)) h with
    | some l => all (fun o => ev P rec recD fuel k o.t (o.vs :: e) ds o.h) l
    | none => none
  | .alt t a r, g, e, ds, h => if g = t then ev P rec recD fuel a g e ds h else ev P rec recD fuel r g e ds h
  | .fin rs xs, _, e, ds, h => fin P recD rs (xs.map (X.ev e)) ds h
  | .finRow rs i, _, e, ds, h => fin P recD rs ((nth e i).getD []) ds h
  | .fail, _, _, _, _ => none

/-- A call of a function, to a depth. -/
def call (P : Program) (tbl : FuncId → Option T) (nat natD : Rec) (fuel : Nat) : Nat → Rec
  | 0, _, _, _ => none
  | n + 1, f, as, h =>
    match nat f as h with
    | some r => some r
    | none =>
      match tbl f with
      | none => none
      | some t => match ev P (call P tbl nat natD fuel n) natD fuel t 0 (as.map fun a => [a]) [] h with
        | none => none
        | some l => some (l.map fun o => (o.vs.headD (.raw undef), o.h))
end Ev
end Go.Fr
