/-
  This file has trees of operations as data: their values are places in a stack.
-/
import Derived.Test.YtbnaoejdpggekaaGreatFrOps
namespace Go.Fr
open Go

/-- A value of a tree: part j of row i of the stack, or a constant. -/
inductive X where
  | v (i j : Nat)
  | c (u : Value)

def tailN {α : Type} : Nat → List α → List α
  | 0, l => l
  | n + 1, l => (tailN n l).tail

def X.val (e : List (List Value)) : X → Value
  | .v i j => (tailN j (e.getD i [])).headD undef
  | .c u => u

def vals (e : List (List Value)) (l : List X) : List Value := l.map (X.val e)
def oval (e : List (List Value)) (x : Option X) : Option Value := x.map (X.val e)
def pvals (e : List (List Value)) (l : List (Nat × X)) : List (Nat × Value) := l.map fun p => (p.1, p.2.val e)

/-- An operation. -/
inductive D where
  | pick (c a b : X)
  | alloc (t : TypeId)
  | box (t : TypeId) (v : X)
  | build (t : TypeId) (ps : List (Nat × X))
  | buildSlice (t : TypeId) (n : Nat) (ps : List (Nat × X))
  | load (t : TypeId) (a : X)
  | store (t : TypeId) (a v : X)
  | nil (x : X)
  | bin (op : BinOp) (t : TypeId) (p q : Operand) (a b : X)
  | un (op : UnOp) (x : X)
  | conv (s d : TypeId) (x : X)
  | arrAt (t : TypeId) (x : X)
  | iface (t : TypeId) (x : X)
  | func (f : Fn) (a b : List X)
  | map (t : TypeId) (r : Option X)
  | make (t : TypeId) (l c : X)
  | slice (t : TypeId) (x : X) (lo hi mx : Option X)
  | fieldAt (t : TypeId) (x : X) (i : Nat)
  | field (t : TypeId) (x : X) (i : Nat)
  | indexAt (t : TypeId) (x i : X)
  | index (t : TypeId) (x i : X)
  | lookup (t : TypeId) (x i : X) (ok : Bool)
  | mapSet (t : TypeId) (m k x : X)
  | entry0 (t : TypeId) (m k : X)
  | entrySet (t : TypeId) (m s x : X)
  | range (t : TypeId) (x : X)
  | next (it : X) (str : Bool) (t : TypeId)
  | entry (it : X)
  | assert (x : X) (t u : TypeId) (ok : Bool)
  | extract (x : X) (i : Nat)
  | panic (x : X)
  | call (f : FuncId) (as : List X)
  | callV (f : X) (as : List X)
  | invoke (r : X) (m : String) (as : List X)
  | builtin (b : Builtin) (ts : List TypeId) (t : TypeId) (cs : List Bool) (as : List X)

def D.sem (e : List (List Value)) : D → Sem Next
  | .pick c a b => oPick (c.val e) (a.val e) (b.val e)
  | .alloc t => oAlloc t
  | .box t v => oBox t (v.val e)
  | .build t ps => oBuild t (pvals e ps)
  | .buildSlice t n ps => oBuildSlice t n (pvals e ps)
  | .load t a => oLoad t (a.val e)
  | .store t a v => oStore t (a.val e) (v.val e)
  | .nil x => oNil (x.val e)
  | .bin op t p q a b => oBin op t p q (a.val e) (b.val e)
  | .un op x => oUn op (x.val e)
  | .conv s d x => oConv s d (x.val e)
  | .arrAt t x => oArrAt t (x.val e)
  | .iface t x => oIface t (x.val e)
  | .func f a b => oFunc f (vals e a) (vals e b)
  | .map t r => oMap t (oval e r)
  | .make t l c => oMake t (l.val e) (c.val e)
  | .slice t x lo hi mx => oSlice t (x.val e) (oval e lo) (oval e hi) (oval e mx)
  | .fieldAt t x i => oFieldAt t (x.val e) i
  | .field t x i => oField t (x.val e) i
  | .indexAt t x i => oIndexAt t (x.val e) (i.val e)
  | .index t x i => oIndex t (x.val e) (i.val e)
  | .lookup t x i ok => oLookup t (x.val e) (i.val e) ok
  | .mapSet t m k x => oMapSet t (m.val e) (k.val e) (x.val e)
  | .entry0 t m k => oEntry0 t (m.val e) (k.val e)
  | .entrySet t m s x => oEntrySet t (m.val e) (s.val e) (x.val e)
  | .range t x => oRange t (x.val e)
  | .next it str t => oNext (it.val e) str t
  | .entry it => oEntry (it.val e)
  | .assert x t u ok => oAssert (x.val e) t u ok
  | .extract x i => oExtract (x.val e) i
  | .panic x => oPanic (x.val e)
  | .call f as => oCall f (vals e as)
  | .callV f as => oCallV (f.val e) (vals e as)
  | .invoke r m as => oInvoke (r.val e) m (vals e as)
  | .builtin b ts t cs as => oBuiltin b ts t cs (vals e as)

/-- A tree as data. -/
inductive T where
  | done (t : Nat) (xs : List X)
  | doneRow (t i : Nat)
  | bind (p k : T)
  | op (d : D) (k : T)
  | rd (d : D) (k : T)
  | chk (d : D) (x : X) (k : T)
  | dfr (f : X) (as : List X) (k : T)
  | ite (x : X) (a b : T)
  | both (a b : T)
  | drew (p : T)
  | loop (init : List X) (body k : T)
  | alt (t : Nat) (a r : T)
  | fin (rs : List ResultVar) (xs : List X)
  | finRow (rs : List ResultVar) (i : Nat)
  | fail

/-- The tree that it stands for. -/
def T.sp : T → Nat → List (List Value) → List Deferred → SP
  | .done t xs, _, e, _ => .done t (vals e xs)
  | .doneRow t i, _, e, _ => .done t (e.getD i [])
  | .bind p k, g, e, ds => .bind (p.sp g e ds) fun t vs => k.sp t (vs :: e) ds
  | .op d k, g, e, ds => .op (d.sem e) fun v => k.sp g ([v] :: e) ds
  | .rd d k, g, e, ds => .rd (d.sem e) fun v => k.sp g ([v] :: e) ds
  | .chk d x k, g, e, ds => .chk (d.sem e) (x.val e) (k.sp g e ds)
  | .dfr f as k, g, e, ds => .dfr (oDefer (f.val e) (vals e as)) fun d => k.sp g e (d :: ds)
  | .ite x a b, g, e, ds => .ite (x.val e) (a.sp g e ds) (b.sp g e ds)
  | .both a b, g, e, ds => .both (a.sp g e ds) (b.sp g e ds)
  | .drew p, g, e, ds => .drew (p.sp g e ds)
  | .loop init body k, g, e, ds => .loop (vals e init) (fun vs => body.sp g (vs :: e) ds) fun t vs => k.sp t (vs :: e) ds
  | .alt t a r, g, e, ds => if g = t then a.sp g e ds else r.sp g e ds
  | .fin rs xs, _, e, ds => Fr.fin rs (vals e xs) ds
  | .finRow rs i, _, e, ds => Fr.fin rs (e.getD i []) ds
  | .fail, _, _, _ => .fail

/-- The stack at a function's beginning. -/
def rows (args : List Value) : List (List Value) := args.map fun a => [a]
end Go.Fr
