/-
  This file proves: what each operation of a tree asks and leaves.
-/
import Derived.Test.YtbnaoejdpggekaaGreatFrTri
import Derived.Laws.Sem
import Derived.IntWalk
namespace Go.Fr
open Go

-- ------------------------------------------------------------ facts on types

/-- Its underlying type. -/
class Und (P : Program) (T : TypeId) (d : outParam TypeDesc) : Prop where
  h : P.underlying T = some d

def infOf (P : Program) (T : TypeId) : Option (List Value × Nat × Nat) := (P.info? T).bind fun i => i.zero.map fun z => (z.cells.toList, i.bytes, i.size)
/-- Its cells at zero, and a value's bytes. -/
class Inf (P : Program) (T : TypeId) (zs : outParam (List Value)) (bytes : outParam Nat) : Prop where
  h : infOf P T = some (zs, bytes, zs.length)

theorem Inf.get {P : Program} {T : TypeId} {zs : List Value} {bytes : Nat} (x : Inf P T zs bytes) :
    ∃ i, P.info? T = some i ∧ i.size = zs.length ∧ i.bytes = bytes ∧ ∃ z, i.zero = some z ∧ z.cells = zs.toArray := by
  have h := x.h
  unfold infOf at h
  cases hi : P.info? T with
  | none => simp [hi] at h
  | some i =>
    cases hz : i.zero with
    | none => simp [hi, hz] at h
    | some z =>
      simp only [hi, hz, Option.bind_some, Option.map_some, Option.some.injEq, Prod.mk.injEq] at h
      obtain ⟨h1, h2, h3⟩ := h
      exact ⟨i, rfl, h3, h2, z, hz, by rw [← h1]⟩

def scOf (P : Program) (T : TypeId) : Bool :=
  match P.underlying T with
  | some (.struct _) | some (.array _ _) | none => false
  | _ => true
/-- A value of it is one cell. -/
class Sc (P : Program) (T : TypeId) : Prop where
  h : scOf P T = true

def agOf (P : Program) (T : TypeId) : Option Nat :=
  match P.underlying T with
  | some (.struct _) | some (.array _ _) => (P.info? T).map (·.size)
  | _ => none
/-- A value of it is an aggregate of n cells. -/
class Ag (P : Program) (T : TypeId) (n : outParam Nat) : Prop where
  h : agOf P T = some n

def fldOf (P : Program) (T : TypeId) (i : Nat) : Option (Nat × TypeId × Bool) :=
  match P.underlying T with
  | some (.struct fs) => (fs[i]?).bind fun f => (P.info? f.type).map fun j => (f.offset, f.type, j.size == 0)
  | _ => none
/-- Field i of struct type T stands at cell off, and is of n cells. -/
class Fld (P : Program) (T : TypeId) (i : Nat) (off : outParam Nat) (F : outParam TypeId) : Prop where
  h : fldOf P T i = some (off, F, false)

theorem Fld.get {P : Program} {T : TypeId} {i off : Nat} {F : TypeId} (x : Fld P T i off F) :
    ∃ fs f j, P.underlying T = some (.struct fs) ∧ fs[i]? = some f ∧ f.offset = off ∧ f.type = F ∧ P.info? f.type = some j ∧ j.size ≠ 0 := by
  have h := x.h
  unfold fldOf at h
  split at h
  · rename_i fs hu
    cases hf : fs[i]? with
    | none => simp [hf] at h
    | some f =>
      cases hj : P.info? f.type with
      | none => simp [hf, hj] at h
      | some j =>
        simp only [hf, hj, Option.bind_some, Option.map_some, Option.some.injEq, Prod.mk.injEq] at h
        obtain ⟨h1, h2, h3⟩ := h
        exact ⟨fs, f, j, hu, hf, h1, h2, hj, by simpa using h3⟩
  · cases h

section
variable {P : Program} {w : World}

theorem run_underlying_of {T : TypeId} {d : TypeDesc} (h : P.underlying T = some d) : (underlying T).run P w = .ok d w := by
  simp [underlying, h]

theorem run_info_of {T : TypeId} {i : TypeInfo} (h : P.info? T = some i) : (typeInfo T).run P w = .ok i w := by
  simp [typeInfo, h]

theorem run_size_of {T : TypeId} {i : TypeInfo} (h : P.info? T = some i) : (sizeOf T).run P w = .ok i.size w := by
  simp [sizeOf, run_info_of h]

theorem run_isAgg_sc {T : TypeId} [s : Sc P T] : (isAgg T).run P w = .ok false w := by
  have h := s.h
  unfold scOf at h
  cases hu : P.underlying T with
  | none => simp [hu] at h
  | some d => cases d <;> simp_all [isAgg, run_underlying_of hu]

theorem Ag.get {T : TypeId} {n : Nat} (x : Ag P T n) : ∃ i, P.info? T = some i ∧ i.size = n ∧ ∀ w, (isAgg T).run P w = .ok true w := by
  have h := x.h
  unfold agOf at h
  cases hu : P.underlying T with
  | none => simp [hu] at h
  | some d =>
    cases hi : P.info? T with
    | none => cases d <;> simp [hu, hi] at h
    | some i => cases d <;> simp_all [isAgg, run_underlying_of hu]

theorem run_isAgg_ag {T : TypeId} {n : Nat} [s : Ag P T n] : (isAgg T).run P w = .ok true w := by
  obtain ⟨i, _, _, h⟩ := s.get
  exact h w

theorem run_size_ag {T : TypeId} {n : Nat} [s : Ag P T n] : (sizeOf T).run P w = .ok n w := by
  obtain ⟨i, hi, hs, _⟩ := s.get
  rw [run_size_of hi, hs]

-- ------------------------------------------------------------ cells

/-- A row of cells. -/
def cells (b : Nat) (T : TypeId) (cs : List Value) : HP := pts b (.cells cs.toArray T (0, 0))

theorem Holds.cells {L L' : List HP} {b : Nat} {T : TypeId} {cs : List Value} (hp : Pick (cells b T cs) L L') (h : Holds (stars L) w) :
    w.heap[b]? = some (.cells cs.toArray T (0, 0)) := by
  have : Holds (stars (Fr.cells b T cs :: L')) w := h.mono fun _ => hp.to
  exact Holds.pts this

theorem cell_of {b o : Nat} {T : TypeId} {cs : List Value} (h : w.heap[b]? = some (.cells cs.toArray T (0, 0))) : w.cell? ⟨b, o, none⟩ = cs[o]? := by
  simp [World.cell?, h]

theorem run_load_of {a : Addr} {v : Value} (h : w.cell? a = some v) : (load a).run P w = .ok v w := by
  simp [h]

theorem add_at (b o i : Nat) : (⟨b, o, none⟩ : Addr).add i = ⟨b, o + i, none⟩ := by
  unfold Addr.add
  split
  · rename_i h; subst h; rfl
  · rfl

theorem run_loadCellsFrom {b o : Nat} {T : TypeId} {cs : List Value} (h : w.heap[b]? = some (.cells cs.toArray T (0, 0))) : ∀ (n i : Nat) (acc : Array Value), o + i + n ≤ cs.length →
    (loadCellsFrom ⟨b, o, none⟩ i n acc).run P w = .ok (acc ++ ((cs.drop (o + i)).take n).toArray) w := by
  intro n
  induction n with
  | zero => intro i acc _; simp [loadCellsFrom]
  | succ n ih =>
    intro i acc hl
    have hlt : o + i < cs.length := by omega
    have hc : w.cell? ((⟨b, o, none⟩ : Addr).add i) = some cs[o + i] := by
      rw [add_at, cell_of h, List.getElem?_eq_getElem hlt]
    simp only [loadCellsFrom, Sem.run_bind, run_load_of hc, Result.andThen_ok]
    rw [ih (i + 1) _ (by omega)]
    congr 1
    rw [List.drop_eq_getElem_cons hlt, List.take_succ_cons, show o + (i + 1) = o + i + 1 by omega]
    simp

theorem run_loadCells {b o n : Nat} {T : TypeId} {cs : List Value} (h : w.heap[b]? = some (.cells cs.toArray T (0, 0))) (hl : o + n ≤ cs.length) :
    (loadCells ⟨b, o, none⟩ n).run P w = .ok ((cs.drop o).take n).toArray w := by
  unfold loadCells
  rw [run_loadCellsFrom h n 0 #[] (by omega)]
  simp
end

section
variable {P : Program} {L L' : List HP} {Q : Nat → List Value → HP}

theorem reads_load {T T' : TypeId} {b o : Nat} {cs : List Value} {v : Value} [Sc P T] (hp : Pick (cells b T' cs) L L') (hv : cs[o]? = some v) :
    Reads P L (oLoad T (.pointer (some ⟨b, o, none⟩))) v := by
  refine ⟨fun w hw => ?_⟩
  have hc : w.cell? ⟨b, o, none⟩ = some v := by rw [cell_of (hw.cells hp), hv]
  simp only [oLoad, Instr.loadAt, Instr.sureAddr, loadVar, Sem.run_bind, Sem.run_pure, Result.andThen_ok, run_isAgg_sc, Bool.false_eq_true, if_false, run_load_of hc]

theorem reads_load_agg {T T' : TypeId} {b o n : Nat} {cs : List Value} {vs : List Value} [Ag P T n] (hp : Pick (cells b T' cs) L L') (hl : o + n ≤ cs.length)
    (hv : (cs.drop o).take n = vs) : Reads P L (oLoad T (.pointer (some ⟨b, o, none⟩))) (.agg vs.toArray) := by
  refine ⟨fun w hw => ?_⟩
  subst hv
  simp only [oLoad, Instr.loadAt, Instr.sureAddr, loadVar, Sem.run_bind, Sem.run_pure, Result.andThen_ok, run_isAgg_ag, if_true, run_size_ag, run_loadCells (hw.cells hp) hl]

theorem reads_fieldAt {T F : TypeId} {b o i off : Nat} [f : Fld P T i off F] :
    Reads P L (oFieldAt T (.pointer (some ⟨b, o, none⟩)) i) (.pointer (some ⟨b, o + off, none⟩)) := by
  refine ⟨fun w _ => ?_⟩
  obtain ⟨fs, f, j, hu, hf, ho, _, hj, hs⟩ := f.get
  simp [oFieldAt, Instr.fieldAt, Instr.sureAddr, run_underlying_of hu, hf, fieldPlace, run_size_of hj, hs, ho, add_at]

theorem reads_nil_ptr {a : Addr} : Reads P L (oNil (.pointer (some a))) (.pointer (some a)) := ⟨fun _ _ => rfl⟩

theorem reads_extract {vs : Array Value} {i : Nat} {v : Value} (h : vs[i]? = some v) : Reads P L (oExtract (.tuple vs) i) v := by
  refine ⟨fun w _ => ?_⟩
  simp [oExtract, Instr.extract, h]

theorem reads_not {b : Bool} : Reads P L (oUn .not (.bool b)) (.bool !b) := ⟨fun _ _ => rfl⟩

theorem eqGuard_int (op : BinOp) (T : TypeId) (x y : Operand) (k k' : IntKind) (a b : Int) (w : World) : (eqGuard op T x y (.int k a) (.int k' b)).run P w = .ok () w := by
  unfold eqGuard
  cases op <;> rfl

theorem reads_bin {op : BinOp} {T : TypeId} {x y : Operand} {k : IntKind} {a b : Int} {v : Value} (h : ∀ w, (binOp op T (.int k a) (.int k b)).run P w = .ok v w) :
    Reads P L (oBin op T x y (.int k a) (.int k b)) v := by
  refine ⟨fun w _ => ?_⟩
  simp [oBin, eqGuard_int, h]

theorem reads_add {T : TypeId} {x y : Operand} {k : IntKind} {a b : Int} : Reads P L (oBin .add T x y (.int k a) (.int k b)) (.int k (k.wrap (a + b))) :=
  reads_bin fun w => by simp [binOp, Op.intArith]
theorem reads_sub {T : TypeId} {x y : Operand} {k : IntKind} {a b : Int} : Reads P L (oBin .sub T x y (.int k a) (.int k b)) (.int k (k.wrap (a - b))) :=
  reads_bin fun w => by simp [binOp, Op.intArith]
theorem reads_mul {T : TypeId} {x y : Operand} {k : IntKind} {a b : Int} : Reads P L (oBin .mul T x y (.int k a) (.int k b)) (.int k (k.wrap (a * b))) :=
  reads_bin fun w => by simp [binOp, Op.intArith]
theorem reads_eq {T : TypeId} {x y : Operand} {k : IntKind} {a b : Int} : Reads P L (oBin .eql T x y (.int k a) (.int k b)) (.bool (decide (a = b))) :=
  reads_bin fun w => by simp [binOp, Op.intCmp]; rfl
theorem reads_ne {T : TypeId} {x y : Operand} {k : IntKind} {a b : Int} : Reads P L (oBin .neq T x y (.int k a) (.int k b)) (.bool (decide (a ≠ b))) :=
  reads_bin fun w => by simp [binOp, Op.intCmp]; rfl
theorem reads_lt {T : TypeId} {x y : Operand} {k : IntKind} {a b : Int} : Reads P L (oBin .lss T x y (.int k a) (.int k b)) (.bool (decide (a < b))) :=
  reads_bin fun w => by simp [binOp, Op.intCmp]
theorem reads_le {T : TypeId} {x y : Operand} {k : IntKind} {a b : Int} : Reads P L (oBin .leq T x y (.int k a) (.int k b)) (.bool (decide (a ≤ b))) :=
  reads_bin fun w => by simp [binOp, Op.intCmp]
theorem reads_gt {T : TypeId} {x y : Operand} {k : IntKind} {a b : Int} : Reads P L (oBin .gtr T x y (.int k a) (.int k b)) (.bool (decide (b < a))) :=
  reads_bin fun w => by simp [binOp, Op.intCmp]
theorem reads_ge {T : TypeId} {x y : Operand} {k : IntKind} {a b : Int} : Reads P L (oBin .geq T x y (.int k a) (.int k b)) (.bool (decide (b ≤ a))) :=
  reads_bin fun w => by simp [binOp, Op.intCmp]
theorem reads_rem {T : TypeId} {x y : Operand} {k : IntKind} {a b : Int} (hb : b ≠ 0) : Reads P L (oBin .rem T x y (.int k a) (.int k b)) (.int k (a.tmod b)) :=
  reads_bin fun w => by simp [binOp, Op.intDiv, hb]
theorem reads_quo {T : TypeId} {x y : Operand} {k : IntKind} {a b : Int} (hb : b ≠ 0) : Reads P L (oBin .quo T x y (.int k a) (.int k b)) (.int k (k.wrap (a.tdiv b))) :=
  reads_bin fun w => by simp [binOp, Op.intDiv, hb]

/-- What int arithmetic comes to where it fits. -/
theorem wrap_fits {n : Int} (h1 : -9223372036854775808 ≤ n) (h2 : n < 9223372036854775808) : IntKind.i64.wrap n = n := by
  unfold IntKind.wrap
  simp [IntKind.bits, IntKind.signed]
  split <;> omega

theorem reads_add_fits {T : TypeId} {x y : Operand} {a b : Int} (h1 : -9223372036854775808 ≤ a + b) (h2 : a + b < 9223372036854775808) :
    Reads P L (oBin .add T x y (.int .i64 a) (.int .i64 b)) (.int .i64 (a + b)) := by
  have := reads_add (P := P) (L := L) (T := T) (x := x) (y := y) (k := .i64) (a := a) (b := b)
  rwa [wrap_fits h1 h2] at this
theorem reads_sub_fits {T : TypeId} {x y : Operand} {a b : Int} (h1 : -9223372036854775808 ≤ a - b) (h2 : a - b < 9223372036854775808) :
    Reads P L (oBin .sub T x y (.int .i64 a) (.int .i64 b)) (.int .i64 (a - b)) := by
  have := reads_sub (P := P) (L := L) (T := T) (x := x) (y := y) (k := .i64) (a := a) (b := b)
  rwa [wrap_fits h1 h2] at this
theorem reads_mul_fits {T : TypeId} {x y : Operand} {a b : Int} (h1 : -9223372036854775808 ≤ a * b) (h2 : a * b < 9223372036854775808) :
    Reads P L (oBin .mul T x y (.int .i64 a) (.int .i64 b)) (.int .i64 (a * b)) := by
  have := reads_mul (P := P) (L := L) (T := T) (x := x) (y := y) (k := .i64) (a := a) (b := b)
  rwa [wrap_fits h1 h2] at this

theorem reads_quo_nn {T : TypeId} {x y : Operand} {a b : Int} (ha : 0 ≤ a) (hb : 0 < b) (h2 : a < 9223372036854775808) :
    Reads P L (oBin .quo T x y (.int .i64 a) (.int .i64 b)) (.int .i64 (a / b)) := by
  have h := reads_quo (P := P) (L := L) (T := T) (x := x) (y := y) (k := .i64) (a := a) (b := b) (by omega)
  rw [Int.tdiv_eq_ediv_of_nonneg ha] at h
  have h3 : 0 ≤ a / b := Int.ediv_nonneg ha (by omega)
  have h4 : a / b ≤ a := Int.ediv_le_self b ha
  rwa [wrap_fits (by omega) (by omega)] at h
theorem reads_rem_nn {T : TypeId} {x y : Operand} {k : IntKind} {a b : Int} (ha : 0 ≤ a) (hb : 0 < b) :
    Reads P L (oBin .rem T x y (.int k a) (.int k b)) (.int k (a % b)) := by
  have h := reads_rem (P := P) (L := L) (T := T) (x := x) (y := y) (k := k) (a := a) (b := b) (by omega)
  rwa [Int.tmod_eq_emod_of_nonneg ha] at h

-- ------------------------------------------------------------ new blocks

theorem tri_new {s : Sem Next} {k : Value → SP} {T : TypeId} {cs : List Value} (f : Nat → Value)
    (hs : ∀ w, s.run P w = .ok (.value (f w.heap.size)) { w with heap := w.heap.push (.cells cs.toArray T) })
    (h : ∀ b, Tri P (k (f b)) (cells b T cs :: L) Q) : Tri P (.op s k) L Q := by
  refine ⟨fun F w hw => ?_⟩
  show UponS P _ _ (s.run P w)
  rw [hs w]
  exact (h _).go F _ (hw.push rfl)

theorem tri_box {T : TypeId} {v : Value} {cs : List Value} {k : Value → SP} (hc : v.cells = cs.toArray) (h : ∀ b, Tri P (k (.pointer (some ⟨b, 0, none⟩))) (cells b T cs :: L) Q) :
    Tri P (.op (oBox T v) k) L Q :=
  tri_new (fun b => .pointer (some ⟨b, 0, none⟩)) (fun w => by simp [oBox, Instr.box, newVar, newRow, hc]) h

theorem run_zero {T : TypeId} {zs : List Value} {by_ : Nat} [i : Inf P T zs by_] {w : World} : ∃ z, (zeroValue T).run P w = .ok z w ∧ z.cells = zs.toArray := by
  obtain ⟨i, hi, _, _, z, hz, hc⟩ := i.get
  exact ⟨z, by simp [zeroValue, run_info_of hi, hz], hc⟩

theorem tri_alloc {T : TypeId} {zs : List Value} {by_ : Nat} [i : Inf P T zs by_] {k : Value → SP} (h : ∀ b, Tri P (k (.pointer (some ⟨b, 0, none⟩))) (cells b T zs :: L) Q) :
    Tri P (.op (oAlloc T) k) L Q :=
  tri_new (fun b => .pointer (some ⟨b, 0, none⟩)) (fun w => by
    obtain ⟨z, hz, hc⟩ := run_zero (P := P) (T := T) (w := w)
    simp [oAlloc, Instr.alloc, hz, newVar, newRow, hc]) h

-- ------------------------------------------------------------ stores

theorem frozen_none {b o : Nat} {T : TypeId} {cs : List Value} {w : World} (h : w.heap[b]? = some (.cells cs.toArray T (0, 0))) : w.frozen? ⟨b, o, none⟩ = false := by
  simp [World.frozen?, h]

/-- A value that is one cell. -/
def one : Value → Bool
  | .agg _ | .tuple _ => false
  | _ => true

theorem setCell_heap {b o : Nat} {T : TypeId} {cs : List Value} {w : World} {v : Value} (h : w.heap[b]? = some (.cells cs.toArray T (0, 0))) :
    (w.setCell ⟨b, o, none⟩ v).heap = w.heap.setIfInBounds b (.cells (cs.set o v).toArray T (0, 0)) := by
  unfold World.setCell
  apply Array.ext_getElem?
  intro i
  simp only [Array.getElem?_modify, Array.getElem?_setIfInBounds]
  by_cases hi : b = i
  · subst hi
    obtain ⟨hlt, hg⟩ := Array.getElem?_eq_some_iff.1 h
    simp [hlt, hg]
  · simp [hi]

theorem run_store_one {b o : Nat} {T : TypeId} {cs : List Value} {w : World} {v : Value} (h : w.heap[b]? = some (.cells cs.toArray T (0, 0))) (ho : o < cs.length) (hv : one v = true) :
    (store ⟨b, o, none⟩ v).run P w = .ok () (w.setCell ⟨b, o, none⟩ v) := by
  have hc : w.cell? ⟨b, o, none⟩ = some cs[o] := by rw [cell_of h, List.getElem?_eq_getElem ho]
  cases v <;> simp [one] at hv <;> simp [store, Sem.run, hc, frozen_none h]

theorem run_storeCells {b o : Nat} {T : TypeId} : ∀ (vs : List Value) (i : Nat) (cs : List Value) (w : World), w.heap[b]? = some (.cells cs.toArray T (0, 0)) → o + i + vs.length ≤ cs.length →
    (∀ v ∈ vs, one v = true) → ∃ w', (storeCells ⟨b, o, none⟩ vs i).run P w = .ok () w' ∧
      w'.heap = w.heap.setIfInBounds b (.cells ((cs.take (o + i)) ++ vs ++ cs.drop (o + i + vs.length)).toArray T (0, 0)) := by
  intro vs
  induction vs with
  | nil =>
    intro i cs w h hl _
    refine ⟨w, by simp [storeCells], ?_⟩
    have : (cs.take (o + i)) ++ [] ++ cs.drop (o + i + 0) = cs := by simp
    simp only [List.length_nil]
    rw [this]
    apply Array.ext_getElem?
    intro j
    simp only [Array.getElem?_setIfInBounds]
    split
    · rename_i hj
      subst hj
      obtain ⟨hlt, hg⟩ := Array.getElem?_eq_some_iff.1 h
      simp [hlt, hg]
    · rfl
  | cons v vs ih =>
    intro i cs w h hl hv
    simp only [List.length_cons] at hl
    have h1 := run_store_one (P := P) (o := o + i) (v := v) h (by omega) (hv v List.mem_cons_self)
    have hh := setCell_heap (o := o + i) (v := v) h
    have hlt := (Array.getElem?_eq_some_iff.1 h).1
    have h2 : (w.setCell ⟨b, o + i, none⟩ v).heap[b]? = some (.cells (cs.set (o + i) v).toArray T (0, 0)) := by rw [hh]; simp [hlt]
    obtain ⟨w', hr, hw'⟩ := ih (i + 1) (cs.set (o + i) v) _ h2 (by simp; omega) fun u hu => hv u (List.mem_cons_of_mem _ hu)
    refine ⟨w', ?_, ?_⟩
    · simp only [storeCells, Sem.run_bind, add_at, h1, Result.andThen_ok, hr]
    · rw [hw', hh]
      have e : ((cs.set (o + i) v).take (o + (i + 1))) ++ vs ++ (cs.set (o + i) v).drop (o + (i + 1) + vs.length) = (cs.take (o + i)) ++ (v :: vs) ++ cs.drop (o + i + (v :: vs).length) := by
        have e1 : (cs.set (o + i) v).take (o + (i + 1)) = cs.take (o + i) ++ [v] := by
          rw [show o + (i + 1) = o + i + 1 by omega, List.take_succ_eq_append_getElem (by simp; omega)]
          simp [List.take_set_of_le]
        have e2 : (cs.set (o + i) v).drop (o + (i + 1) + vs.length) = cs.drop (o + i + (v :: vs).length) := by
          rw [List.drop_set_of_lt (by omega)]
          congr 1
          simp; omega
        rw [e1, e2]
        simp
      rw [e]
      apply Array.ext_getElem?
      intro j
      simp only [Array.getElem?_setIfInBounds, Array.size_setIfInBounds]
      split <;> rfl

theorem tri_store {T T' : TypeId} {b o : Nat} {cs : List Value} {v : Value} {zs : List Value} {by_ : Nat} {k : Value → SP} [i : Inf P T zs by_] (hp : Pick (cells b T' cs) L L')
    (vs : List Value) (hc : v.cells = vs.toArray) (hz : zs.length = vs.length) (hl : o + vs.length ≤ cs.length) (hv : ∀ v ∈ vs, one v = true)
    (h : Tri P (k undef) (cells b T' ((cs.take o) ++ vs ++ cs.drop (o + vs.length)) :: L') Q) : Tri P (.op (oStore T (.pointer (some ⟨b, o, none⟩)) v) k) L Q := by
  refine ⟨fun F w hw => ?_⟩
  have hb := (hw.tail).cells hp
  obtain ⟨ti, hi, hs, _⟩ := i.get
  obtain ⟨w', hr, hh⟩ := run_storeCells (P := P) (o := o) vs 0 cs w hb (by omega) hv
  show UponS P _ _ ((oStore T (.pointer (some ⟨b, o, none⟩)) v).run P w)
  have : (oStore T (.pointer (some ⟨b, o, none⟩)) v).run P w = .ok .skip w' := by
    simp [oStore, Instr.storeAt, Instr.sureAddr, storeVar, run_size_of hi, hs, hc, hz, hr]
  rw [this]
  refine h.go F w' (Holds.set (hw.mono fun _ => star_mono (fun _ a => a) fun _ => hp.to) ?_)
  rw [hh]
  simp

/-- One cell is stored. -/
theorem tri_store1 {T T' : TypeId} {b o : Nat} {cs : List Value} {v : Value} {z : Value} {by_ : Nat} {k : Value → SP} [i : Inf P T [z] by_] (hp : Pick (cells b T' cs) L L')
    (hv : one v = true) (hl : o < cs.length) (h : Tri P (k undef) (cells b T' (cs.set o v) :: L') Q) : Tri P (.op (oStore T (.pointer (some ⟨b, o, none⟩)) v) k) L Q := by
  have hc : v.cells = [v].toArray := by cases v <;> simp [one] at hv <;> rfl
  refine tri_store (zs := [z]) (by_ := by_) hp [v] hc rfl (by simp; omega) (by simpa using hv) ?_
  have : (cs.take o) ++ [v] ++ cs.drop (o + [v].length) = cs.set o v := by
    rw [List.set_eq_take_append_cons_drop, if_pos hl]
    simp
  rw [this]
  exact h
end
end Go.Fr
