/-
  This file names the operations of a tree.
-/
import Derived.Test.YtbnaoejdpggekaaGreatFrFun
namespace Go.Fr
open Go

def oPick (c a b : Value) : Sem Next := do pure (.value (if ← asBool c then a else b))
def oAlloc (t : TypeId) : Sem Next := do pure (.value (← Instr.alloc t true (.tuple #[])))
def oBox (t : TypeId) (v : Value) : Sem Next := do pure (.value (← Instr.box t v))
def oBuild (t : TypeId) (ps : List (Nat × Value)) : Sem Next := do pure (.value (← Instr.build t ps.toArray))
def oBuildSlice (t : TypeId) (n : Nat) (ps : List (Nat × Value)) : Sem Next := do pure (.value (← Instr.buildSlice t n ps.toArray))
def oLoad (t : TypeId) (a : Value) : Sem Next := do pure (.value (← Instr.loadAt t a))
def oStore (t : TypeId) (a v : Value) : Sem Next := do Instr.storeAt t a v; pure .skip
def oNil (x : Value) : Sem Next := execOp (fun _ => x) { dst := none, op := .nilCheck (.tmp 0), type := 0, pos := "", after := #[], guard := none }
def oBin (op : BinOp) (t : TypeId) (x y : Operand) (a b : Value) : Sem Next := do pure (.value (← (do eqGuard op t x y a b; binOp op t a b)))
def oUn (op : UnOp) (x : Value) : Sem Next := do pure (.value (← Op.unary op x))
def oConv (s d : TypeId) (x : Value) : Sem Next := do pure (.value (← convert s d x))
def oArrAt (t : TypeId) (x : Value) : Sem Next := do pure (.value (← Instr.arrayAt t x))
def oIface (t : TypeId) (x : Value) : Sem Next := do pure (.value (← Instr.makeInterface t x))
def oFunc (f : Fn) (a b : List Value) : Sem Next := do pure (.value (← Instr.makeFunc f a.toArray b.toArray))
def oMap (t : TypeId) (r : Option Value) : Sem Next := do pure (.value (← Instr.makeMap t r))
def oMake (t : TypeId) (l c : Value) : Sem Next := do pure (.value (← Instr.makeSlice t l c))
def oSlice (t : TypeId) (x : Value) (lo hi mx : Option Value) : Sem Next := do pure (.value (← Instr.sliceAt t x lo hi mx))
def oFieldAt (t : TypeId) (x : Value) (i : Nat) : Sem Next := do pure (.value (← Instr.fieldAt t x i))
def oField (t : TypeId) (x : Value) (i : Nat) : Sem Next := do pure (.value (← Instr.field t x i))
def oIndexAt (t : TypeId) (x i : Value) : Sem Next := do pure (.value (← Instr.indexAt t x i))
def oIndex (t : TypeId) (x i : Value) : Sem Next := do pure (.value (← Instr.index t x i))
def oLookup (t : TypeId) (x i : Value) (ok : Bool) : Sem Next := do pure (.value (← Instr.lookup t x i ok))
def oMapSet (t : TypeId) (m k x : Value) : Sem Next := do Instr.mapUpdate t m k x; pure .skip
def oEntry0 (t : TypeId) (m k : Value) : Sem Next := do pure (.value (← Instr.mapEntry t m k))
def oEntrySet (t : TypeId) (m s x : Value) : Sem Next := do Instr.entryStore t m s x; pure .skip
def oRange (t : TypeId) (x : Value) : Sem Next := do pure (.value (← Instr.range t x))
def oNext (it : Value) (str : Bool) (t : TypeId) : Sem Next := do pure (.value (← Instr.next it str t))
def oEntry (it : Value) : Sem Next := do pure (.value (← Instr.entry it))
def oAssert (x : Value) (t u : TypeId) (ok : Bool) : Sem Next := do pure (.value (← Instr.typeAssert x t u ok))
def oExtract (x : Value) (i : Nat) : Sem Next := do pure (.value (← Instr.extract x i))
def oPanic (x : Value) : Sem Next := do pure (.value (← Instr.panic x))
def oCall (f : FuncId) (as : List Value) : Sem Next := callFunc f as.toArray
def oCallV (f : Value) (as : List Value) : Sem Next := do let d ← Deferred.ofValue f as.toArray; invoke d.target d.args
def oInvoke (r : Value) (m : String) (as : List Value) : Sem Next := callMethod r m as.toArray
def oBuiltin (b : Builtin) (ts : List TypeId) (t : TypeId) (cs : List Bool) (as : List Value) : Sem Next := builtin b ts.toArray t cs.toArray as.toArray
def oDefer (f : Value) (as : List Value) : Sem Next := do pure (.defer (← Deferred.ofValue f as.toArray))
end Go.Fr
