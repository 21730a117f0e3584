/-
  This file proves: what the operations on slices, strings and maps ask and leave.
-/
import Derived.Test.YtbnaoejdpggekaaGreatFrStep
import Derived.Laws.Append
namespace Go.Fr
open Go

/-- A slice type: its elements' type, their cells at zero, and one's bytes. -/
def slOf (P : Program) (T : TypeId) : Option (TypeId × List Value × Nat × Nat) :=
  match P.underlying T with
  | some (.slice e) => (infOf P e).map fun x => (e, x)
  | _ => none
class Sl (P : Program) (T : TypeId) (E : outParam TypeId) (zs : outParam (List Value)) (by_ : outParam Nat) : Prop where
  h : slOf P T = some (E, zs, by_, zs.length)

theorem Sl.get {P : Program} {T E : TypeId} {zs : List Value} {by_ : Nat} (x : Sl P T E zs by_) :
    P.underlying T = some (.slice E) ∧ ∃ i z, P.info? E = some i ∧ i.size = zs.length ∧ i.bytes = by_ ∧ i.zero = some z ∧ z.cells = zs.toArray := by
  have h := x.h
  unfold slOf at h
  split at h
  · rename_i e hu
    cases hi : infOf P e with
    | none => simp [hi] at h
    | some y =>
      simp only [hi, Option.map_some, Option.some.injEq, Prod.mk.injEq] at h
      obtain ⟨rfl, h⟩ := h
      obtain ⟨i, h1, h2, h3, z, h4, h5⟩ := Inf.get (⟨by rw [hi, h]⟩ : Inf P e zs by_)
      exact ⟨hu, i, z, h1, h2, h3, h4, h5⟩
  · cases h

/-- An array type: its length, its elements' type, and how many cells one has. -/
def arOf (P : Program) (T : TypeId) : Option (Nat × TypeId × Nat) :=
  match P.underlying T with
  | some (.array n e) => (P.info? e).map fun i => (n, e, i.size)
  | _ => none
class Ar (P : Program) (T : TypeId) (n : outParam Nat) (E : outParam TypeId) (size : outParam Nat) : Prop where
  h : arOf P T = some (n, E, size)

theorem Ar.get {P : Program} {T E : TypeId} {n size : Nat} (x : Ar P T n E size) : P.underlying T = some (.array n E) ∧ ∃ i, P.info? E = some i ∧ i.size = size := by
  have h := x.h
  unfold arOf at h
  split at h
  · rename_i m e hu
    cases hi : P.info? e with
    | none => simp [hi] at h
    | some i =>
      simp only [hi, Option.map_some, Option.some.injEq, Prod.mk.injEq] at h
      obtain ⟨rfl, rfl, h3⟩ := h
      exact ⟨hu, i, hi, h3⟩
  · cases h

section
variable {P : Program} {L L' : List HP} {Q : Nat → List Value → HP}

theorem reads_len {T E ty : TypeId} {zs : List Value} {by_ : Nat} {cs : List Bool} {a : Option Addr} {n c : Nat} [s : Sl P T E zs by_] :
    Reads P L (oBuiltin .len [T] ty cs [.slice a n c]) (.int .i64 n) := by
  refine ⟨fun w _ => ?_⟩
  obtain ⟨hu, _⟩ := s.get
  simp [oBuiltin, builtin, Builtin.len_, run_underlying_of hu, goInt]

theorem reads_len_string {T ty : TypeId} {cs : List Bool} {s : ByteArray} [u : Und P T .string] : Reads P L (oBuiltin .len [T] ty cs [.string s]) (.int .i64 s.size) := by
  refine ⟨fun w _ => ?_⟩
  simp [oBuiltin, builtin, Builtin.len_, run_underlying_of u.h, goInt]

theorem reads_indexAt {T E : TypeId} {zs : List Value} {by_ b o n c : Nat} {k : IntKind} {i : Int} [s : Sl P T E zs by_] (h0 : 0 ≤ i) (h1 : i < n) :
    Reads P L (oIndexAt T (.slice (some ⟨b, o, none⟩) n c) (.int k i)) (.pointer (some ⟨b, o + i.toNat * zs.length, none⟩)) := by
  refine ⟨fun w _ => ?_⟩
  obtain ⟨hu, j, z, hj, hs, _⟩ := s.get
  simp [oIndexAt, Instr.indexAt, asIntOf, run_underlying_of hu, h0, h1, run_size_of hj, hs, add_at]

theorem reads_indexAt_array {T E : TypeId} {size b o n : Nat} {k : IntKind} {i : Int} [s : Ar P T n E size] (h0 : 0 ≤ i) (h1 : i < n) :
    Reads P L (oIndexAt T (.pointer (some ⟨b, o, none⟩)) (.int k i)) (.pointer (some ⟨b, o + i.toNat * size, none⟩)) := by
  refine ⟨fun w _ => ?_⟩
  obtain ⟨hu, j, hj, hs⟩ := s.get
  simp [oIndexAt, Instr.indexAt, Instr.sureAddr, asIntOf, run_underlying_of hu, h0, h1, run_size_of hj, hs, add_at]

/-- A conversion between whole numbers' kinds. -/
theorem reads_conv {S D : TypeId} {k j : IntKind} {n : Int} {d1 : TypeDesc} [u1 : Und P S d1] [u2 : Und P D (.int k)] : Reads P L (oConv S D (.int j n)) (.int k (k.wrap n)) := by
  refine ⟨fun w _ => ?_⟩
  cases d1 <;> simp [oConv, convert, run_underlying_of u1.h, run_underlying_of u2.h, Conv.intToInt]

theorem run_sliceBounds {isSlice : Bool} {len cap : Nat} {lo hi : Option Value} {l h : Nat} (hl : (match lo with | none => l = 0 | some v => ∃ k i, v = .int k i ∧ 0 ≤ i ∧ i.toNat = l))
    (hh : (match hi with | none => h = len | some v => ∃ k i, v = .int k i ∧ 0 ≤ i ∧ i.toNat = h)) (h1 : l ≤ h) (h2 : h ≤ cap) (w : World) :
    (Instr.sliceBounds isSlice len cap lo hi none).run P w = .ok (l, h, cap) w := by
  have hb : ∀ (k : IntKind) (i : Int) (y : Nat) (code : BoundsCode), 0 ≤ i → i.toNat ≤ y → (Instr.sliceBound (.int k i) y code).run P w = .ok i.toNat w := by
    intro k i y code h0 h1
    have : i ≤ (y : Int) := by omega
    simp [Instr.sliceBound, asIntOf, h0, this]
  cases lo with
  | none =>
    subst hl
    cases hi with
    | none => subst hh; simp [Instr.sliceBounds]
    | some v =>
      obtain ⟨k, i, rfl, h0, rfl⟩ := hh
      simp [Instr.sliceBounds, hb _ _ _ _ h0 h2]
  | some u =>
    obtain ⟨k, i, rfl, h0, rfl⟩ := hl
    cases hi with
    | none => subst hh; simp [Instr.sliceBounds, hb _ _ _ _ h0 h1]
    | some v =>
      obtain ⟨k', i', rfl, h0', rfl⟩ := hh
      simp [Instr.sliceBounds, hb _ _ _ _ h0' h2, hb _ _ _ _ h0 h1]

/-- What is left of an address behind the cutting. -/
def cutAt (a : Option Addr) (l size cap : Nat) : Option Addr := if cap = l then a else a.map (·.add (l * size))

theorem reads_slice {T E : TypeId} {zs : List Value} {by_ : Nat} {a : Option Addr} {len cap : Nat} {lo hi : Option Value} {l h : Nat} [s : Sl P T E zs by_]
    (hl : (match lo with | none => l = 0 | some v => ∃ k i, v = .int k i ∧ 0 ≤ i ∧ i.toNat = l))
    (hh : (match hi with | none => h = len | some v => ∃ k i, v = .int k i ∧ 0 ≤ i ∧ i.toNat = h)) (h1 : l ≤ h) (h2 : h ≤ cap) :
    Reads P L (oSlice T (.slice a len cap) lo hi none) (.slice (cutAt a l zs.length cap) (h - l) (cap - l)) := by
  refine ⟨fun w _ => ?_⟩
  obtain ⟨hu, j, z, hj, hs, _⟩ := s.get
  simp [oSlice, Instr.sliceAt, Instr.slice, run_underlying_of hu, run_sliceBounds (P := P) hl hh h1 h2, run_size_of hj, hs, cutAt]

theorem reads_slice_array {T E : TypeId} {size b o n : Nat} {lo hi : Option Value} {l h : Nat} [s : Ar P T n E size]
    (hl : (match lo with | none => l = 0 | some v => ∃ k i, v = .int k i ∧ 0 ≤ i ∧ i.toNat = l))
    (hh : (match hi with | none => h = n | some v => ∃ k i, v = .int k i ∧ 0 ≤ i ∧ i.toNat = h)) (h1 : l ≤ h) (h2 : h ≤ n) :
    Reads P L (oSlice T (.pointer (some ⟨b, o, none⟩)) lo hi none) (.slice (cutAt (some ⟨b, o, none⟩) l size n) (h - l) (n - l)) := by
  refine ⟨fun w _ => ?_⟩
  obtain ⟨hu, j, hj, hs⟩ := s.get
  simp only [oSlice, Instr.sliceAt, Instr.sureAddr, Sem.run_bind, Sem.run_pure, Result.andThen_ok, run_underlying_of hu, run_sliceBounds (P := P) hl hh h1 h2, run_size_of hj, hs, cutAt]
  by_cases hn : n = l
  · simp only [hn, if_true]
  · simp only [hn, if_false]
    rfl

-- ------------------------------------------------------------ new rows

theorem zero_rows (zs : List Value) (n : Nat) : ((Array.range (n * zs.length)).map fun i => zs.toArray[i % zs.toArray.size]!) = (List.replicate n zs).flatten.toArray := by
  apply Array.ext'
  simp only [Array.toList_map, Array.toList_range, List.size_toArray]
  induction n with
  | zero => simp
  | succ n ih =>
    rw [Nat.succ_mul, List.range_add, List.map_append, ih, List.replicate_succ', List.flatten_append]
    congr 1
    simp only [List.map_map, List.flatten_cons, List.flatten_nil, List.append_nil]
    apply List.ext_getElem
    · simp
    · intro i h1 h2
      simp at h1
      simp [Nat.mod_eq_of_lt h1, h1]

theorem map_range_zero (f : Nat → Value) : Array.map f (Array.range 0) = #[] := by
  apply Array.ext'
  simp

theorem tri_make {T E : TypeId} {zs : List Value} {by_ n c : Nat} {k1 k2 : IntKind} {ln cp : Int} {k : Value → SP} [s : Sl P T E zs by_]
    (hl : ln = n) (hc : cp = c) (h1 : n ≤ c) (h2 : (by_ : Int) * c ≤ 281474976710656) (h3 : c < 4611686018427387904)
    (h : ∀ b, Tri P (k (.slice (some ⟨b, 0, none⟩) n c)) (cells b E (List.replicate c zs).flatten :: L) Q) : Tri P (.op (oMake T (.int k1 ln) (.int k2 cp)) k) L Q := by
  subst hl hc
  obtain ⟨hu, j, z, hj, hs, hb, hz, hzc⟩ := s.get
  have e1 : IntKind.i64.wrap (n : Int) = n := wrap_fits (by omega) (by omega)
  have e2 : IntKind.i64.wrap (c : Int) = c := wrap_fits (by omega) (by omega)
  refine tri_new (fun b => .slice (some ⟨b, 0, none⟩) n c) (fun w => ?_) h
  have g1 : ¬ (281474976710656 : Int) < (j.bytes : Int) * c := by rw [hb]; omega
  have g0 : ¬ ((c : Int) < 0) := by omega
  have g2 : ¬ ((n : Int) < 0) := by omega
  have g3 : ¬ ((c : Int) < n) := by omega
  by_cases hn : c * zs.length = 0
  · have e3 : (List.replicate c zs).flatten = [] := by
      rcases Nat.mul_eq_zero.1 hn with h | h
      · simp [h]
      · rw [List.length_eq_zero_iff.1 h]; simp
    simp [oMake, Instr.makeSlice, run_underlying_of hu, asInt, asIntOf, run_info_of hj, e1, e2, g1, g0, g2, g3, run_size_of hj, hs, hn, newRow, e3, map_range_zero]
  · have hzr : (zeroValue E).run P w = .ok z w := by simp [zeroValue, run_info_of hj, hz]
    simp [oMake, Instr.makeSlice, run_underlying_of hu, asInt, asIntOf, run_info_of hj, e1, e2, g1, g0, g2, g3, run_size_of hj, hs, hn, newRow, hzr, hzc]
    have := zero_rows zs c
    simp at this
    rw [this]

theorem run_buildSlice {T E : TypeId} {zs : List Value} {by_ : Nat} [s : Sl P T E zs by_] {n : Nat} {ps : List (Nat × Value)} {cs : List Value} (hn : n * zs.length ≤ 16777216)
    (hf : Instr.fill (fun i => some (i * zs.length, zs.length)) (List.replicate n zs).flatten.toArray ps = some cs.toArray) (w : World) :
    (oBuildSlice T n ps).run P w = .ok (.value (.slice (some ⟨w.heap.size, 0, none⟩) n n)) { w with heap := w.heap.push (.cells cs.toArray E) } := by
  obtain ⟨hu, j, z, hj, hs, _, hz, hzc⟩ := s.get
  have hn' : ¬ (16777216 < n * zs.length) := by omega
  have hzr : (zeroValue E).run P w = .ok z w := by simp [zeroValue, run_info_of hj, hz]
  have zr := zero_rows zs n
  by_cases h0 : n * zs.length = 0
  · have e3 : (List.replicate n zs).flatten = [] := by
      rcases Nat.mul_eq_zero.1 h0 with h | h
      · simp [h]
      · rw [List.length_eq_zero_iff.1 h]; simp
    rw [e3] at hf
    simp only [oBuildSlice, Instr.buildSlice, Sem.run_bind, run_underlying_of hu, Result.andThen_ok, run_size_of hj, hs, h0, if_true, Sem.run_pure, Nat.reducePow, map_range_zero, Nat.not_lt_zero, GT.gt, if_false, hf]
    simp [newRow]
  · simp only [oBuildSlice, Instr.buildSlice, Sem.run_bind, run_underlying_of hu, Result.andThen_ok, run_size_of hj, hs, hn', if_false, h0, hzr, Sem.run_pure, Nat.reducePow, hzc]
    rw [zr, hf]
    simp [newRow]

theorem tri_buildSlice {T E : TypeId} {zs : List Value} {by_ : Nat} [s : Sl P T E zs by_] {n : Nat} {ps : List (Nat × Value)} (cs : List Value) {k : Value → SP} (hn : n * zs.length ≤ 16777216)
    (hf : Instr.fill (fun i => some (i * zs.length, zs.length)) (List.replicate n zs).flatten.toArray ps = some cs.toArray)
    (h : ∀ b, Tri P (k (.slice (some ⟨b, 0, none⟩) n n)) (cells b E cs :: L) Q) : Tri P (.op (oBuildSlice T n ps) k) L Q :=
  tri_new (fun b => .slice (some ⟨b, 0, none⟩) n n) (fun w => run_buildSlice hn hf w) h

-- ------------------------------------------------------------ a slice of one's own

def hor (A B : HP) : HP := fun h => A h ∨ B h

/-- 'v' is a slice of n elements whose cells are 'xs', at the head of a row that nobody else has. -/
def own (E : TypeId) (k : Nat) (v : Value) (n : Nat) (xs : List Value) : HP :=
  hor (fact (v = .slice none 0 0 ∧ n = 0 ∧ xs = []))
    (hex fun b => hex fun c => hex fun r : List Value => star (fact (v = .slice (some ⟨b, 0, none⟩) n c ∧ xs.length = n * k ∧ (xs ++ r).length = c * k)) (cells b E (xs ++ r)))

theorem Tri.or {A B : HP} {p : SP} (ha : Tri P p (A :: L) Q) (hb : Tri P p (B :: L) Q) : Tri P p (hor A B :: L) Q := by
  refine ⟨fun F w hw => ?_⟩
  obtain ⟨g, ⟨h1, h2, d, rfl, a, g1, g2, d', rfl, ab, c⟩, s⟩ := hw
  rcases ab with x | x
  · exact ha.go F w ⟨_, ⟨h1, _, d, rfl, a, g1, g2, d', rfl, x, c⟩, s⟩
  · exact hb.go F w ⟨_, ⟨h1, _, d, rfl, a, g1, g2, d', rfl, x, c⟩, s⟩

/-- A slice of one's own, looked into. -/
theorem Tri.own {E : TypeId} {kk : Nat} {v : Value} {n : Nat} {xs : List Value} {p : SP} (hp : Pick (own E kk v n xs) L L')
    (h0 : v = .slice none 0 0 → n = 0 → xs = [] → Tri P p L' Q)
    (h1 : ∀ b c r, v = .slice (some ⟨b, 0, none⟩) n c → xs.length = n * kk → (xs ++ r).length = c * kk → Tri P p (cells b E (xs ++ r) :: L') Q) : Tri P p L Q := by
  refine Tri.pick hp (Tri.or (Tri.fact fun ⟨a, b, c⟩ => h0 a b c) ?_)
  refine Tri.ex fun b => Tri.ex fun c => Tri.ex fun r => Tri.star (Tri.fact fun ⟨e1, e2, e3⟩ => h1 b c r e1 e2 e3)

theorem stars_own_nil {E : TypeId} {kk : Nat} {h : Part} (x : stars L h) : stars (Fr.own E kk (.slice none 0 0) 0 [] :: L) h :=
  ⟨fun _ => none, h, fun _ => .inl rfl, by funext b; rfl, .inl ⟨rfl, rfl, rfl⟩, x⟩

theorem own_of {E : TypeId} {kk n c b : Nat} {xs r : List Value} (h1 : xs.length = n * kk) (h2 : (xs ++ r).length = c * kk) {h : Part} (x : cells b E (xs ++ r) h) :
    Fr.own E kk (.slice (some ⟨b, 0, none⟩) n c) n xs h :=
  .inr ⟨b, c, r, fun _ => none, h, fun _ => .inl rfl, by funext b; rfl, ⟨rfl, h1, h2⟩, x⟩

theorem stars_own {E : TypeId} {kk n c b : Nat} {xs r : List Value} (h1 : xs.length = n * kk) (h2 : (xs ++ r).length = c * kk) {h : Part} (x : stars (cells b E (xs ++ r) :: L) h) :
    stars (Fr.own E kk (.slice (some ⟨b, 0, none⟩) n c) n xs :: L) h := star_mono (fun _ a => own_of h1 h2 a) (fun _ a => a) x

theorem Tri.toOwn {E : TypeId} {kk n c b : Nat} {p : SP} (xs r : List Value) (h1 : xs.length = n * kk) (h2 : (xs ++ r).length = c * kk)
    (h : Tri P p (Fr.own E kk (.slice (some ⟨b, 0, none⟩) n c) n xs :: L) Q) : Tri P p (cells b E (xs ++ r) :: L) Q := h.pre fun _ x => stars_own h1 h2 x

-- ------------------------------------------------------------ append

theorem run_firstCells {k n o c b m : Nat} {T : TypeId} {cs : List Value} {w : World} (h : w.heap[b]? = some (.cells cs.toArray T (0, 0))) (hl : o + n * k ≤ cs.length) :
    (Builtin.firstCells k n (.slice (some ⟨b, o, none⟩) m c)).run P w = .ok ((cs.drop o).take (n * k)).toArray w := by
  simp only [Builtin.firstCells]
  exact run_loadCells h hl

/-- Behind an append there is room for. -/
theorem run_append_here {T E ty : TypeId} {zs : List Value} {by_ : Nat} {cs : List Bool} [s : Sl P T E zs by_] {b n c : Nat} {xs r : List Value} {w : World}
    (hb : w.heap[b]? = some (.cells (xs ++ r).toArray E (0, 0))) (hx : xs.length = n * zs.length) (hc : (xs ++ r).length = c * zs.length)
    {d o m mc : Nat} {D : TypeId} {ds : List Value} (hd : w.heap[d]? = some (.cells ds.toArray D (0, 0))) (hl : o + m * zs.length ≤ ds.length) (hr : n + m ≤ c)
    (h1 : ∀ v ∈ (ds.drop o).take (m * zs.length), one v = true) :
    ∃ w', (oBuiltin .append [T, T] ty cs [.slice (some ⟨b, 0, none⟩) n c, .slice (some ⟨d, o, none⟩) m mc]).run P w = .ok (.value (.slice (some ⟨b, 0, none⟩) (n + m) c)) w' ∧
      w'.heap = w.heap.setIfInBounds b (.cells (xs ++ (ds.drop o).take (m * zs.length) ++ r.drop (m * zs.length)).toArray E (0, 0)) := by
  obtain ⟨hu, j, z, hj, hs, hby, hz, hzc⟩ := s.get
  have hf := run_firstCells (P := P) (k := zs.length) (n := m) (o := o) (c := mc) (m := m) hd hl
  have hmul : n * zs.length + m * zs.length ≤ c * zs.length := by rw [← Nat.add_mul]; exact Nat.mul_le_mul_right _ hr
  have hlen : ((ds.drop o).take (m * zs.length)).length = m * zs.length := by simp; omega
  obtain ⟨w', hrun, hw'⟩ := run_storeCells (P := P) (b := b) (o := n * zs.length) (T := E) ((ds.drop o).take (m * zs.length)) 0 (xs ++ r) w hb (by rw [hlen, hc]; omega) h1
  refine ⟨w', ?_, ?_⟩
  · have ha : (⟨b, 0, none⟩ : Addr).add (n * zs.length) = ⟨b, n * zs.length, none⟩ := by rw [add_at]; simp
    simp [oBuiltin, builtin, Builtin.append_, run_underlying_of hu, run_size_of hj, hs, Builtin.lenOf, hr, hf, ha, hrun]
  · rw [hw']
    congr 3
    rw [hlen]
    have e1 : (xs ++ r).take (n * zs.length + 0) = xs := by rw [Nat.add_zero, ← hx]; simp
    have e2 : (xs ++ r).drop (n * zs.length + 0 + m * zs.length) = r.drop (m * zs.length) := by
      rw [Nat.add_zero, ← hx, List.drop_append]
      simp
    rw [e1, e2]

theorem run_append_next {ts : List TypeId} {ty : TypeId} {bs : List Bool} {as : List Value} {v : Value} {w w' : World} (h : (Builtin.append_ ts.toArray ty as.toArray).run P w = .ok v w') :
    (oBuiltin .append ts ty bs as).run P w = .ok (.value v) w' := by
  simp only [oBuiltin, builtin, Sem.run_bind, h, Result.andThen_ok, Sem.run_pure]

theorem tri_append {T E ty : TypeId} {zs : List Value} {by_ : Nat} {bs : List Bool} [s : Sl P T E zs by_] {v : Value} {n : Nat} {xs : List Value} {d o m mc : Nat} {D : TypeId} {ds : List Value}
    {k : Value → SP} (hp : Picks [own E zs.length v n xs, cells d D ds] L L') (ys : List Value) (hy : (ds.drop o).take (m * zs.length) = ys) (hl : o + m * zs.length ≤ ds.length)
    (hm : 0 < m) (hsz : (n + m) * by_ ≤ 140737488355328) (h63 : n + m ≤ 9223372036854775807) (h1 : ∀ v ∈ ys, one v = true)
    (h : ∀ v', Tri P (k v') (own E zs.length v' (n + m) (xs ++ ys) :: cells d D ds :: L') Q) :
    Tri P (.op (oBuiltin .append [T, T] ty bs [v, .slice (some ⟨d, o, none⟩) m mc]) k) L Q := by
  subst hy
  refine Tri.picks hp ?_
  obtain ⟨hu, j, z, hj, hs, hby, hz, hzc⟩ := s.get
  have ylen : ((ds.drop o).take (m * zs.length)).length = m * j.size := by rw [hs]; simp; omega
  have news : ∀ (w : World), w.heap[d]? = some (.cells ds.toArray D (0, 0)) → ∀ i u, ((ds.drop o).take (m * zs.length))[i]? = some u → w.cell? ((⟨d, o, none⟩ : Addr).add i) = some u := by
    intro w hw i u hi
    rw [add_at, cell_of hw]
    have hlt : i < m * zs.length := by
      have := (List.getElem?_eq_some_iff.1 hi).1
      rw [ylen, hs] at this; exact this
    rw [List.getElem?_take_of_lt hlt, List.getElem?_drop] at hi
    exact hi
  have tail : ∀ (cap : Nat), (Builtin.zeroCells z.cells (cap - (n + m))).toList.length = (cap - (n + m)) * zs.length := by
    intro cap; simp [Builtin.zeroCells, hzc]
  refine Tri.or (Tri.fact fun ⟨e1, e2, e3⟩ => ?_) ?_
  · subst e1 e2 e3
    simp only [Nat.zero_add, List.nil_append] at hsz h63 h tail
    refine ⟨fun F w hw => ?_⟩
    have hd := (hw.tail).cells .here
    have hr := run_append_nil (P := P) (w := w) T ty E j z hu hj hz ⟨d, o, none⟩ m mc _ ylen (news w hd) hm (by omega) (by rw [hby]; omega)
    show UponS P _ _ _
    rw [run_append_next hr]
    have hcap : m ≤ grownCap w m 0 E := Nat.le_add_right _ _
    refine (h _).go F _ ((hw.push (o := .cells (((ds.drop o).take (m * zs.length)).toArray ++ Builtin.zeroCells z.cells (grownCap w m 0 E - m)) E) (w' := _) rfl).mono fun _ => star_mono (fun _ a => a) fun _ x => ?_)
    have e4 : (((ds.drop o).take (m * zs.length)).toArray ++ Builtin.zeroCells z.cells (grownCap w m 0 E - m)) = (((ds.drop o).take (m * zs.length)) ++ (Builtin.zeroCells z.cells (grownCap w m 0 E - m)).toList).toArray := by
      apply Array.ext'; simp
    rw [e4] at x
    refine stars_own (by rw [ylen, hs]) ?_ x
    rw [List.length_append, ylen, tail, hs, ← Nat.add_mul]
    congr 1
    omega
  · refine Tri.ex fun b => Tri.ex fun c => Tri.ex fun r => Tri.star (Tri.fact fun ⟨e1, e2, e3⟩ => ?_)
    subst e1
    by_cases hroom : n + m ≤ c
    · refine ⟨fun F w hw => ?_⟩
      have hb := (hw.tail).cells .here
      have hd := (hw.tail).cells (.there .here)
      obtain ⟨w', hrun, hw'⟩ := run_append_here (P := P) (T := T) (ty := ty) (cs := bs) (mc := mc) hb e2 e3 hd hl hroom h1
      show UponS P _ _ _
      rw [hrun]
      refine (h _).go F w' ((Holds.set hw hw').mono fun _ => star_mono (fun _ a => a) fun _ x => ?_)
      refine stars_own (by rw [List.length_append, e2, ylen, hs, ← Nat.add_mul]) ?_ x
      have hmul : n * zs.length + m * zs.length ≤ c * zs.length := by rw [← Nat.add_mul]; exact Nat.mul_le_mul_right _ hroom
      rw [List.length_append] at e3
      rw [List.length_append, List.length_append, List.length_drop, ylen, hs]
      omega
    · refine ⟨fun F w hw => ?_⟩
      have hb := (hw.tail).cells .here
      have hd := (hw.tail).cells (.there .here)
      have holds : ∀ i u, xs[i]? = some u → w.cell? ((⟨b, 0, none⟩ : Addr).add i) = some u := by
        intro i u hi
        rw [add_at, Nat.zero_add, cell_of hb, List.getElem?_append_left (List.getElem?_eq_some_iff.1 hi).1]
        exact hi
      have hr := run_append_grow (P := P) (w := w) T ty E j z hu hj hz ⟨b, 0, none⟩ n c xs (by rw [e2, hs]) holds ⟨d, o, none⟩ m mc _ ylen (news w hd) (by omega) (by omega)
        (by rw [hby]; exact growslice_fits (by omega) hsz)
      show UponS P _ _ _
      rw [run_append_next hr]
      have hcap : n + m ≤ grownCap w (n + m) c E := Nat.le_add_right _ _
      have hw2 : Holds (star F (stars (cells d D ds :: L'))) w := hw.mono fun _ => star_mono (fun _ a => a) fun _ x => by
        have := stars_some (M := [cells d D ds] ++ L') (L' := [cells b E (xs ++ r)]) (stars_join (star_comm (stars_split (L := [cells b E (xs ++ r)]) (M := cells d D ds :: L') x)))
        exact this
      refine (h _).go F _ ((hw2.push (o := .cells (xs.toArray ++ ((ds.drop o).take (m * zs.length)).toArray ++ Builtin.zeroCells z.cells (grownCap w (n + m) c E - (n + m))) E) (w' := _) rfl).mono fun _ => star_mono (fun _ a => a) fun _ x => ?_)
      have e4 : (xs.toArray ++ ((ds.drop o).take (m * zs.length)).toArray ++ Builtin.zeroCells z.cells (grownCap w (n + m) c E - (n + m))) =
          ((xs ++ (ds.drop o).take (m * zs.length)) ++ (Builtin.zeroCells z.cells (grownCap w (n + m) c E - (n + m))).toList).toArray := by
        apply Array.ext'; simp
      rw [e4] at x
      refine stars_own (by rw [List.length_append, e2, ylen, hs, ← Nat.add_mul]) ?_ x
      rw [List.length_append, List.length_append, e2, ylen, tail, hs, ← Nat.add_mul, ← Nat.add_mul]
      congr 1
      omega
end
end Go.Fr
