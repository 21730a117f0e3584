/-
  This file proves: geom.Inode never fails: contracts of it and of what it calls.
-/
import Derived.Test.YtbnaoejdpggekaaGreatDoorFrH
import Derived.Test.YtbnaoejdpggekaaGreatDoorProg
import Derived.KernelRfl
namespace Go.Proofs.YtbnaoejdpggekaaGreatDoor.Nn.G
open Go Go.Fr
set_option linter.unusedVariables false
set_option maxRecDepth 1000000
instance : Sc Tryz.prog 3 where h := by kernel_rfl
instance : Sc Tryz.prog 4 where h := by kernel_rfl
instance : Ag Tryz.prog 23 3 where h := by kernel_rfl
instance : Fld Tryz.prog 23 0 0 3 where h := by kernel_rfl
instance : Fld Tryz.prog 23 1 1 3 where h := by kernel_rfl
instance : Fld Tryz.prog 23 2 2 3 where h := by kernel_rfl
theorem mixed : Tryz.prog.follows .mixedOrders = true := by kernel_rfl

/-- bollard/geom.between -/
def a79 : Ann := [(6, [(0, [6])])]
def s79 (a0 a1 a2 : Value) : SP :=
.bind (.op (oBin .geq 3 (.tmp 7) (.tmp 8) a0 a1) fun x0 =>
.ite x0 (.op (oBin .leq 3 (.tmp 11) (.tmp 12) a0 a2) fun x1 =>
.done 0 [x1]) (.done 0 [(.bool false)])) fun x2 x3 =>
if x2 = 0 then (fin [.tmp 6] [(x3.headD undef)] [])
else .fail
theorem d79 (a0 a1 a2 : Value) : denF Tryz.f79 a79 [a0, a1, a2] = s79 a0 a1 a2 := by kernel_rfl

/-- bollard/geom.front -/
def a80 : Ann := []
def s80 (a0 : Value) : SP :=
.op (oBox 23 a0) fun x0 =>
.op (oFieldAt 23 x0 2) fun x1 =>
.op (oLoad 3 x1) fun x2 =>
.op (oBin .quo 3 (.tmp 4) (.const (.int .i64 4)) x2 (.int .i64 4)) fun x3 =>
.op (oBin .add 3 (.const (.int .i64 2)) (.tmp 5) (.int .i64 2) x3) fun x4 =>
fin [.tmp 2] [x4] []
theorem d80 (a0 : Value) : denF Tryz.f80 a80 [a0] = s80 a0 := by kernel_rfl

/-- bollard/geom.Can -/
def a36 : Ann := [(6, [(0, [3])]), (28, [(0, [32])])]
def s36 (a0 : Value) : SP :=
.op (oBox 23 a0) fun x0 =>
.bind (.op (oFieldAt 23 x0 0) fun x1 =>
.op (oLoad 3 x1) fun x2 =>
.op (oCall 79 [x2, (.int .i64 1), (.int .i64 8)]) fun x3 =>
.ite x3 (.op (oFieldAt 23 x0 1) fun x4 =>
.op (oLoad 3 x4) fun x5 =>
.op (oCall 79 [x5, (.int .i64 8), (.int .i64 256)]) fun x6 =>
.ite x6 (.op (oFieldAt 23 x0 2) fun x7 =>
.op (oLoad 3 x7) fun x8 =>
.op (oCall 79 [x8, (.int .i64 4), (.int .i64 64)]) fun x9 =>
.done 0 [x9]) (.done 0 [(.bool false)])) (.done 0 [(.bool false)])) fun x10 x11 =>
if x10 = 0 then (.bind (.drew <|
.rd (oUn .not (x11.headD undef)) fun x12 =>
.ite x12 (.done 0 [(.bool true)]) (.rd (oFieldAt 23 x0 2) fun x13 =>
.rd (oLoad 3 x13) fun x14 =>
.rd (oBin .rem 3 (.tmp 21) (.const (.int .i64 4)) x14 (.int .i64 4)) fun x15 =>
.rd (oBin .neq 3 (.tmp 22) (.const (.int .i64 0)) x15 (.int .i64 0)) fun x16 =>
.ite x16 (.done 0 [(.bool true)]) (.rd (oFieldAt 23 x0 1) fun x17 =>
.rd (oLoad 3 x17) fun x18 =>
.rd (oLoad 23 x0) fun x19 =>
.op (oCall 80 [x19]) fun x20 =>
.chk (oLoad 3 x17) x18 <|
.chk (oFieldAt 23 x0 1) x17 <|
.rd (oBin .add 3 (.tmp 29) (.const (.int .i64 1)) x20 (.int .i64 1)) fun x21 =>
.rd (oBin .lss 3 (.tmp 27) (.tmp 30) x18 x21) fun x22 =>
.done 0 [x22]))) fun x23 x24 =>
if x23 = 0 then (.ite (x24.headD undef) (fin [.tmp 2] [(.int .i64 170)] [])
 (fin [.tmp 2] [(.int .i64 0)] []))
else .fail)
else .fail
theorem d36 (a0 : Value) : denF Tryz.f36 a36 [a0] = s36 a0 := by kernel_rfl

/-- bollard/geom.all -/
def a81 : Ann := []
def s81 (a0 a1 : Value) : SP :=
.op (oBox 23 a0) fun x0 =>
.op (oLoad 23 x0) fun x1 =>
.op (oCall 36 [x1]) fun x2 =>
.op (oBin .neq 42 (.tmp 6) (.const (.int .i64 0)) x2 (.int .i64 0)) fun x3 =>
.ite x3 (fin [.tmp 4] [(.int .i64 0)] [])
 (.op (oFieldAt 23 x0 0) fun x4 =>
.op (oLoad 3 x4) fun x5 =>
.op (oBin .mul 3 (.tmp 9) (.tmp 10) x5 a1) fun x6 =>
fin [.tmp 4] [x6] [])
theorem d81 (a0 a1 : Value) : denF Tryz.f81 a81 [a0, a1] = s81 a0 a1 := by kernel_rfl

/-- bollard/geom.Owner -/
def a90 : Ann := []
def s90 (a0 a1 : Value) : SP :=
.op (oBox 23 a0) fun x0 =>
.drew <|
.rd (oFieldAt 23 x0 2) fun x1 =>
.rd (oLoad 3 x1) fun x2 =>
.rd (oLoad 23 x0) fun x3 =>
.op (oCall 146 [x3]) fun x4 =>
.chk (oLoad 3 x1) x2 <|
.chk (oFieldAt 23 x0 2) x1 <|
.op (oCall 145 [a1, x2, x4]) fun x5 =>
.rd (oExtract x5 0) fun x6 =>
.rd (oExtract x5 1) fun x7 =>
.rd (oExtract x5 2) fun x8 =>
fin [.tmp 4, .tmp 5, .tmp 6] [x6, x7, x8] []
theorem d90 (a0 a1 : Value) : denF Tryz.f90 a90 [a0, a1] = s90 a0 a1 := by kernel_rfl

/-- bollard/geom.at -/
def a91 : Ann := [(12, [(0, [18])])]
def s91 (a0 a1 a2 : Value) : SP :=
.op (oBox 23 a0) fun x0 =>
.bind (.op (oLoad 23 x0) fun x1 =>
.op (oCall 36 [x1]) fun x2 =>
.op (oBin .neq 42 (.tmp 9) (.const (.int .i64 0)) x2 (.int .i64 0)) fun x3 =>
.ite x3 (.done 0 [(.bool true)]) (.op (oFieldAt 23 x0 0) fun x4 =>
.op (oLoad 3 x4) fun x5 =>
.op (oBin .sub 3 (.tmp 14) (.const (.int .i64 1)) x5 (.int .i64 1)) fun x6 =>
.op (oCall 79 [a1, (.int .i64 0), x6]) fun x7 =>
.op (oUn .not x7) fun x8 =>
.done 0 [x8])) fun x9 x10 =>
if x9 = 0 then (.ite (x10.headD undef) (fin [.tmp 6, .tmp 7] [(.int .i64 0), (.bool false)] [])
 (.op (oFieldAt 23 x0 1) fun x11 =>
.op (oLoad 3 x11) fun x12 =>
.op (oBin .mul 3 (.tmp 19) (.tmp 21) a1 x12) fun x13 =>
.op (oBin .add 3 (.tmp 22) (.tmp 23) x13 a2) fun x14 =>
fin [.tmp 6, .tmp 7] [x14, (.bool true)] []))
else .fail
theorem d91 (a0 a1 a2 : Value) : denF Tryz.f91 a91 [a0, a1, a2] = s91 a0 a1 a2 := by kernel_rfl

/-- bollard/geom.split -/
def a145 : Ann := []
def s145 (a0 a1 a2 : Value) : SP :=
.op (oBin .sub 3 (.tmp 10) (.const (.int .i64 1)) a2 (.int .i64 1)) fun x0 =>
.op (oCall 79 [a0, (.int .i64 0), x0]) fun x1 =>
.op (oUn .not x1) fun x2 =>
.ite x2 (fin [.tmp 6, .tmp 7, .tmp 8] [(.int .i64 0), (.int .i64 0), (.bool false)] [])
 (.drew <|
.rd (oBin .quo 3 (.tmp 14) (.tmp 15) a0 a1) fun x3 =>
.rd (oBin .rem 3 (.tmp 17) (.tmp 18) a0 a1) fun x4 =>
fin [.tmp 6, .tmp 7, .tmp 8] [x3, x4, (.bool true)] [])
theorem d145 (a0 a1 a2 : Value) : denF Tryz.f145 a145 [a0, a1, a2] = s145 a0 a1 a2 := by kernel_rfl

/-- bollard/geom.Inodes -/
def a146 : Ann := []
def s146 (a0 : Value) : SP :=
.op (oBox 23 a0) fun x0 =>
.op (oLoad 23 x0) fun x1 =>
.op (oFieldAt 23 x0 2) fun x2 =>
.op (oLoad 3 x2) fun x3 =>
.op (oCall 81 [x1, x3]) fun x4 =>
fin [.tmp 2] [x4] []
theorem d146 (a0 : Value) : denF Tryz.f146 a146 [a0] = s146 a0 := by kernel_rfl

/-- bollard/geom.Inode -/
def a51 : Ann := []
def s51 (a0 a1 : Value) : SP :=
.op (oBox 23 a0) fun x0 =>
.op (oLoad 23 x0) fun x1 =>
.op (oCall 90 [x1, a1]) fun x2 =>
.op (oExtract x2 0) fun x3 =>
.op (oExtract x2 1) fun x4 =>
.op (oExtract x2 2) fun x5 =>
.op (oUn .not x5) fun x6 =>
.ite x6 (fin [.tmp 4, .tmp 5, .tmp 6] [(.int .i64 0), (.int .i64 0), (.bool false)] [])
 (.op (oLoad 23 x0) fun x7 =>
.op (oBin .quo 3 (.tmp 24) (.const (.int .i64 4)) x4 (.int .i64 4)) fun x8 =>
.op (oBin .add 3 (.const (.int .i64 2)) (.tmp 25) (.int .i64 2) x8) fun x9 =>
.op (oCall 91 [x7, x3, x9]) fun x10 =>
.op (oExtract x10 0) fun x11 =>
.op (oExtract x10 1) fun x12 =>
.op (oBin .rem 3 (.tmp 31) (.const (.int .i64 4)) x4 (.int .i64 4)) fun x13 =>
.op (oBin .mul 3 (.tmp 32) (.const (.int .i64 32)) x13 (.int .i64 32)) fun x14 =>
fin [.tmp 4, .tmp 5, .tmp 6] [x11, x14, (.bool true)] [])
theorem d51 (a0 a1 : Value) : denF Tryz.f51 a51 [a0, a1] = s51 a0 a1 := by kernel_rfl


theorem between_spec (n a b : Int) : CtrK Tryz.prog 79 [.int .i64 n, .int .i64 a, .int .i64 b] [] fun v => fact (v = .bool (decide (a ≤ n ∧ n ≤ b))) := by
  refine CtrK.of_den (A := a79) mixed Tryz.func79 (by kernel_rfl) (by kernel_rfl) ?_
  rw [d79, s79]
  refine trk_bind_op (trk_reads reads_ge ?_)
  refine trk_bind_ite (trk_if (fun h1 => ?_) fun h1 => ?_)
  · refine trk_bind_op (trk_reads reads_le ?_)
    refine trk_bind_done ?_
    refine trk_fin (.tmp .nil) fun _ _ => ?_
    show _ = _
    simp [h1, tupleOf]
  · refine trk_bind_done ?_
    refine trk_fin (.tmp .nil) fun _ _ => ?_
    show _ = _
    simp [h1, tupleOf]

theorem front_spec (a b c : Int) : CtrK Tryz.prog 80 [.agg #[.int .i64 a, .int .i64 b, .int .i64 c]] [] fun v => fact (∃ n, v = .int .i64 n) := by
  refine CtrK.of_den (A := a80) mixed Tryz.func80 (by kernel_rfl) (by kernel_rfl) ?_
  rw [d80, s80]
  refine trk_box (cs := [_, _, _]) rfl fun x => ?_
  refine trk_reads reads_fieldAt (trk_reads (reads_load (by repeat (first | exact Pick.here | apply Pick.there)) (by rfl)) ?_)
  refine trk_reads (reads_quo (by omega)) ?_
  refine trk_reads reads_add ?_
  refine trk_fin (.tmp .nil) fun _ _ => ?_
  exact ⟨_, rfl⟩

theorem can_spec (a b c : Int) : CtrK Tryz.prog 36 [.agg #[.int .i64 a, .int .i64 b, .int .i64 c]] [] fun v => fact (∃ e, v = .int .i64 e ∧ (e = 0 → (1 ≤ a ∧ a ≤ 8) ∧ (8 ≤ b ∧ b ≤ 256) ∧ 4 ≤ c ∧ c ≤ 64)) := by
  refine CtrK.of_den (A := a36) mixed Tryz.func36 (by kernel_rfl) (by kernel_rfl) ?_
  rw [d36, s36]
  refine trk_box (cs := [_, _, _]) rfl fun x => ?_
  refine trk_bind (fun t vs => stars [fact (∃ r, t = 0 ∧ vs = [.bool r] ∧ (r = true → (1 ≤ a ∧ a ≤ 8) ∧ (8 ≤ b ∧ b ≤ 256) ∧ 4 ≤ c ∧ c ≤ 64)), cells x 23 [.int .i64 a, .int .i64 b, .int .i64 c]]) ?_ ?_
  · refine trk_reads reads_fieldAt (trk_reads (reads_load (by repeat (first | exact Pick.here | apply Pick.there)) (by rfl)) ?_)
    refine trk_call (between_spec _ _ _) .none fun v => TriK.fact ?_
    rintro rfl
    refine trk_if (fun h1 => ?_) (fun _ => trk_done fun h x => stars_fact ⟨_, rfl, rfl, fun e => by cases e⟩ x)
    refine trk_reads reads_fieldAt (trk_reads (reads_load (by repeat (first | exact Pick.here | apply Pick.there)) (by rfl)) ?_)
    refine trk_call (between_spec _ _ _) .none fun v => TriK.fact ?_
    rintro rfl
    refine trk_if (fun h2 => ?_) (fun _ => trk_done fun h x => stars_fact ⟨_, rfl, rfl, fun e => by cases e⟩ x)
    refine trk_reads reads_fieldAt (trk_reads (reads_load (by repeat (first | exact Pick.here | apply Pick.there)) (by rfl)) ?_)
    refine trk_call (between_spec _ _ _) .none fun v => TriK.fact ?_
    rintro rfl
    exact trk_done fun h x => stars_fact ⟨_, rfl, rfl, fun e => ⟨h1, h2, of_decide_eq_true e⟩⟩ x
  · intro t vs
    refine TriK.stars (TriK.fact ?_)
    rintro ⟨r, rfl, rfl, hr⟩
    simp only [if_true, List.headD_cons, List.append_eq, List.nil_append, List.cons_append]
    refine trk_bind (fun t vs => stars [fact (∃ q, t = 0 ∧ vs = [.bool q] ∧ (q = false → r = true)), cells x 23 [.int .i64 a, .int .i64 b, .int .i64 c]]) ?_ ?_
    · refine trk_drew (trk_rd reads_not (trk_ite (fun h => ?_) (fun h => ?_)))
      · exact trk_done fun h x => stars_fact ⟨_, rfl, rfl, fun e => by cases e⟩ x
      · have hr1 : r = true := by simpa using h
        refine trk_rd reads_fieldAt (trk_rd (reads_load (by repeat (first | exact Pick.here | apply Pick.there)) (by rfl)) ?_)
        refine trk_rd (reads_rem (by omega)) ?_
        refine trk_rd reads_ne ?_
        refine trk_if (fun h1 => trk_done fun h x => stars_fact ⟨_, rfl, rfl, fun _ => hr1⟩ x) fun h1 => ?_
        refine trk_rd reads_fieldAt (trk_rd (reads_load (by repeat (first | exact Pick.here | apply Pick.there)) (by rfl)) ?_)
        refine trk_rd (reads_load_agg (n := 3) (by repeat (first | exact Pick.here | apply Pick.there)) (by simp) rfl) ?_
        refine trk_call (front_spec _ _ _) .none fun v => TriK.fact ?_
        rintro ⟨n, rfl⟩
        refine trk_chk (reads_load (by repeat (first | exact Pick.here | apply Pick.there)) rfl) ?_
        refine trk_chk reads_fieldAt ?_
        refine trk_rd reads_add ?_
        refine trk_rd reads_lt ?_
        exact trk_done fun h x => stars_fact ⟨_, rfl, rfl, fun _ => hr1⟩ x
    · intro t vs
      refine TriK.stars (TriK.fact ?_)
      rintro ⟨q, rfl, rfl, hq⟩
      simp only [if_true, List.headD_cons, List.append_eq, List.nil_append, List.cons_append]
      refine trk_ite (fun h => ?_) (fun h => ?_)
      · refine trk_fin (.tmp .nil) fun _ _ => ?_
        exact ⟨_, rfl, fun e => by simp at e⟩
      · refine trk_fin (.tmp .nil) fun _ _ => ?_
        exact ⟨_, rfl, fun _ => hr (hq h)⟩

theorem all_spec (a b c m : Int) : CtrK Tryz.prog 81 [.agg #[.int .i64 a, .int .i64 b, .int .i64 c], .int .i64 m] [] fun v => fact (∃ n, v = .int .i64 n ∧ (n = 0 ∨ 4 ≤ c)) := by
  refine CtrK.of_den (A := a81) mixed Tryz.func81 (by kernel_rfl) (by kernel_rfl) ?_
  rw [d81, s81]
  refine trk_box (cs := [_, _, _]) rfl fun x => ?_
  refine trk_reads (reads_load_agg (n := 3) (by repeat (first | exact Pick.here | apply Pick.there)) (by simp) rfl) ?_
  refine trk_call (can_spec _ _ _) .none fun v => TriK.fact ?_
  rintro ⟨e, rfl, he⟩
  refine trk_reads reads_ne ?_
  refine trk_if (fun h1 => ?_) fun h1 => ?_
  · refine trk_fin (.tmp .nil) fun _ _ => ?_
    exact ⟨_, rfl, .inl rfl⟩
  · refine trk_reads reads_fieldAt (trk_reads (reads_load (by repeat (first | exact Pick.here | apply Pick.there)) (by rfl)) ?_)
    refine trk_reads reads_mul ?_
    refine trk_fin (.tmp .nil) fun _ _ => ?_
    exact ⟨_, rfl, .inr (he (by omega)).2.2.1⟩

theorem inodes_spec (a b c : Int) : CtrK Tryz.prog 146 [.agg #[.int .i64 a, .int .i64 b, .int .i64 c]] [] fun v => fact (∃ n, v = .int .i64 n ∧ (n = 0 ∨ 4 ≤ c)) := by
  refine CtrK.of_den (A := a146) mixed Tryz.func146 (by kernel_rfl) (by kernel_rfl) ?_
  rw [d146, s146]
  refine trk_box (cs := [_, _, _]) rfl fun x => ?_
  refine trk_reads (reads_load_agg (n := 3) (by repeat (first | exact Pick.here | apply Pick.there)) (by simp) rfl) ?_
  refine trk_reads reads_fieldAt (trk_reads (reads_load (by repeat (first | exact Pick.here | apply Pick.there)) (by rfl)) ?_)
  refine trk_call (all_spec _ _ _ _) .none fun v => TriK.fact ?_
  rintro ⟨n, rfl, hn⟩
  refine trk_fin (.tmp .nil) fun _ _ => ?_
  exact ⟨_, rfl, hn⟩

theorem split_spec (n each total : Int) (h : total = 0 ∨ 4 ≤ each) : CtrK Tryz.prog 145 [.int .i64 n, .int .i64 each, .int .i64 total] [] fun v => fact (∃ x y r, v = .tuple #[.int .i64 x, .int .i64 y, .bool r]) := by
  refine CtrK.of_den (A := a145) mixed Tryz.func145 (by kernel_rfl) (by kernel_rfl) ?_
  rw [d145, s145]
  refine trk_reads reads_sub ?_
  refine trk_call (between_spec _ _ _) .none fun v => TriK.fact ?_
  rintro rfl
  refine trk_reads reads_not ?_
  refine trk_ite (fun h1 => ?_) fun h1 => ?_
  · refine trk_fin (.tmp (.tmp (.tmp .nil))) fun _ _ => ?_
    exact ⟨_, _, _, rfl⟩
  · have h2 : each ≠ 0 := by
      rcases h with rfl | h
      · simp at h1
        have e : IntKind.i64.wrap (-1) = -1 := by decide
        rw [e] at h1
        omega
      · omega
    refine trk_drew (trk_rd (reads_quo h2) (trk_rd (reads_rem h2) ?_))
    refine trk_fin (.tmp (.tmp (.tmp .nil))) fun _ _ => ?_
    exact ⟨_, _, _, rfl⟩

theorem owner_spec (a b c i : Int) : CtrK Tryz.prog 90 [.agg #[.int .i64 a, .int .i64 b, .int .i64 c], .int .i64 i] [] fun v => fact (∃ x y r, v = .tuple #[.int .i64 x, .int .i64 y, .bool r]) := by
  refine CtrK.of_den (A := a90) mixed Tryz.func90 (by kernel_rfl) (by kernel_rfl) ?_
  rw [d90, s90]
  refine trk_box (cs := [_, _, _]) rfl fun x => ?_
  refine trk_drew ?_
  refine trk_rd reads_fieldAt (trk_rd (reads_load (by repeat (first | exact Pick.here | apply Pick.there)) (by rfl)) ?_)
  refine trk_rd (reads_load_agg (n := 3) (by repeat (first | exact Pick.here | apply Pick.there)) (by simp) rfl) ?_
  refine trk_call (inodes_spec _ _ _) .none fun v => TriK.fact ?_
  rintro ⟨n, rfl, hn⟩
  refine trk_chk (reads_load (by repeat (first | exact Pick.here | apply Pick.there)) rfl) ?_
  refine trk_chk reads_fieldAt ?_
  refine trk_call (split_spec _ _ _ hn) .none fun v => TriK.fact ?_
  rintro ⟨y, z, r, rfl⟩
  refine trk_rd (reads_extract rfl) (trk_rd (reads_extract rfl) (trk_rd (reads_extract rfl) ?_))
  refine trk_fin (.tmp (.tmp (.tmp .nil))) fun _ _ => ?_
  exact ⟨_, _, _, rfl⟩

theorem at_spec (a b c i k : Int) : CtrK Tryz.prog 91 [.agg #[.int .i64 a, .int .i64 b, .int .i64 c], .int .i64 i, .int .i64 k] [] fun v => fact (∃ x r, v = .tuple #[.int .i64 x, .bool r]) := by
  refine CtrK.of_den (A := a91) mixed Tryz.func91 (by kernel_rfl) (by kernel_rfl) ?_
  rw [d91, s91]
  refine trk_box (cs := [_, _, _]) rfl fun x => ?_
  refine trk_bind (fun t vs => stars [fact (∃ r, t = 0 ∧ vs = [.bool r]), cells x 23 [.int .i64 a, .int .i64 b, .int .i64 c]]) ?_ ?_
  · refine trk_reads (reads_load_agg (n := 3) (by repeat (first | exact Pick.here | apply Pick.there)) (by simp) rfl) ?_
    refine trk_call (can_spec _ _ _) .none fun v => TriK.fact ?_
    rintro ⟨e, rfl, he⟩
    refine trk_reads reads_ne ?_
    refine trk_if (fun h1 => trk_done fun h x => stars_fact ⟨_, rfl, rfl⟩ x) fun h1 => ?_
    refine trk_reads reads_fieldAt (trk_reads (reads_load (by repeat (first | exact Pick.here | apply Pick.there)) (by rfl)) ?_)
    refine trk_reads reads_sub ?_
    refine trk_call (between_spec _ _ _) .none fun v => TriK.fact ?_
    rintro rfl
    refine trk_reads reads_not ?_
    exact trk_done fun h x => stars_fact ⟨_, rfl, rfl⟩ x
  · intro t vs
    refine TriK.stars (TriK.fact ?_)
    rintro ⟨r, rfl, rfl⟩
    simp only [if_true, List.headD_cons, List.append_eq, List.nil_append, List.cons_append]
    refine trk_ite (fun h1 => ?_) fun h1 => ?_
    · refine trk_fin (.tmp (.tmp .nil)) fun _ _ => ?_
      exact ⟨_, _, rfl⟩
    · refine trk_reads reads_fieldAt (trk_reads (reads_load (by repeat (first | exact Pick.here | apply Pick.there)) (by rfl)) ?_)
      refine trk_reads reads_mul (trk_reads reads_add ?_)
      refine trk_fin (.tmp (.tmp .nil)) fun _ _ => ?_
      exact ⟨_, _, rfl⟩

theorem inode_spec (a b c i : Int) : CtrK Tryz.prog 51 [.agg #[.int .i64 a, .int .i64 b, .int .i64 c], .int .i64 i] [] fun v => fact (∃ x y r, v = .tuple #[.int .i64 x, .int .i64 y, .bool r]) := by
  refine CtrK.of_den (A := a51) mixed Tryz.func51 (by kernel_rfl) (by kernel_rfl) ?_
  rw [d51, s51]
  refine trk_box (cs := [_, _, _]) rfl fun x => ?_
  refine trk_reads (reads_load_agg (n := 3) (by repeat (first | exact Pick.here | apply Pick.there)) (by simp) rfl) ?_
  refine trk_call (owner_spec _ _ _ _) .none fun v => TriK.fact ?_
  rintro ⟨y, z, r, rfl⟩
  refine trk_reads (reads_extract rfl) (trk_reads (reads_extract rfl) (trk_reads (reads_extract rfl) ?_))
  refine trk_reads reads_not ?_
  refine trk_ite (fun h1 => ?_) fun h1 => ?_
  · refine trk_fin (.tmp (.tmp (.tmp .nil))) fun _ _ => ?_
    exact ⟨_, _, _, rfl⟩
  · refine trk_reads (reads_load_agg (n := 3) (by repeat (first | exact Pick.here | apply Pick.there)) (by simp) rfl) ?_
    refine trk_reads (reads_quo (by omega)) (trk_reads reads_add ?_)
    refine trk_call (at_spec _ _ _ _ _) .none fun v => TriK.fact ?_
    rintro ⟨y, r, rfl⟩
    refine trk_reads (reads_extract rfl) (trk_reads (reads_extract rfl) ?_)
    refine trk_reads (reads_rem (by omega)) (trk_reads reads_mul ?_)
    refine trk_fin (.tmp (.tmp (.tmp .nil))) fun _ _ => ?_
    exact ⟨_, _, _, rfl⟩

@[reducible] def sig (a b c i : Int) (s : ByteArray) : Sig where
  val
    | 0 => .int .i64 a
    | 1 => .int .i64 b
    | 2 => .int .i64 c
    | 3 => .int .i64 i
    | _ => .string s
  one n := by split <;> rfl

def model : List V → Option V
  | [.agg [.sym 0, .sym 1, .sym 2], .sym 3] => some (.tup [.any, .any, .any])
  | _ => none

noncomputable def nat : Ev.Rec := Ev.natPure 51 model

theorem nat_ok (a b c i : Int) (s : ByteArray) {base : Nat} {w0 : World} : @RecOk (sig a b c i s) Tryz.prog base w0 nat := by
  letI : Sig := sig a b c i s
  unfold nat
  refine natPure_ok (P := Tryz.prog) (f0 := 51) (model := model) fun ρ xs v xs' hm hv => ?_
  unfold model at hm
  split at hm
  · cases hm
    obtain ⟨g, l, rfl, hg, hl⟩ := hv.uncons
    obtain ⟨j, m, rfl, hj, hm⟩ := hl.uncons
    rw [hm.unnil]
    cases hg with
    | @agg _ us hl h =>
      have hu : Al (VR ρ) _ us := ⟨hl, h⟩
      obtain ⟨x, us, rfl, hx, hu⟩ := hu.uncons
      obtain ⟨y, us, rfl, hy, hu⟩ := hu.uncons
      obtain ⟨z, us, rfl, hz, hu⟩ := hu.uncons
      rw [hu.unnil, hx.sym_eq, hy.sym_eq, hz.sym_eq, hj.sym_eq]
      have hs := inode_spec a b c i
      refine ⟨hs.enters, fun v0 F w hw => (hs.calls v0 F w hw).mono fun e w' he => ?_⟩
      obtain ⟨v, rfl, hv⟩ := he
      refine ⟨v, rfl, hv.mono fun _ => star_mono (fun _ a => a) fun _ q => ?_⟩
      obtain ⟨x, y, r, rfl⟩ := q
      exact .tup (us := [_, _, _]) rfl (Al.cons (.any rfl) (Al.cons (.any rfl) (Al.cons (.any rfl) Al.nil))).2
  · cases hm
end Go.Proofs.YtbnaoejdpggekaaGreatDoor.Nn.G
