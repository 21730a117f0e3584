/-
  This file has the trees of the functions that NamesNobody reaches: each is what its function's code does.
-/
import Derived.Test.YtbnaoejdpggekaaGreatDoorFrF
import Derived.Test.YtbnaoejdpggekaaGreatDoorProg
import Derived.KernelRfl
namespace Go.Proofs.YtbnaoejdpggekaaGreatDoor.Nn
open Go Go.Fr
set_option maxRecDepth 100000
theorem args1 {l : List Value} (h : l.length = 1) : ∃ x0, l = [x0] := by
  match l, h with
  | [x0], _ => exact ⟨x0, rfl⟩
theorem args2 {l : List Value} (h : l.length = 2) : ∃ x0 x1, l = [x0, x1] := by
  match l, h with
  | [x0, x1], _ => exact ⟨x0, x1, rfl⟩
theorem args3 {l : List Value} (h : l.length = 3) : ∃ x0 x1 x2, l = [x0, x1, x2] := by
  match l, h with
  | [x0, x1, x2], _ => exact ⟨x0, x1, x2, rfl⟩
theorem args4 {l : List Value} (h : l.length = 4) : ∃ x0 x1 x2 x3, l = [x0, x1, x2, x3] := by
  match l, h with
  | [x0, x1, x2, x3], _ => exact ⟨x0, x1, x2, x3, rfl⟩
theorem args5 {l : List Value} (h : l.length = 5) : ∃ x0 x1 x2 x3 x4, l = [x0, x1, x2, x3, x4] := by
  match l, h with
  | [x0, x1, x2, x3, x4], _ => exact ⟨x0, x1, x2, x3, x4, rfl⟩
theorem args6 {l : List Value} (h : l.length = 6) : ∃ x0 x1 x2 x3 x4 x5, l = [x0, x1, x2, x3, x4, x5] := by
  match l, h with
  | [x0, x1, x2, x3, x4, x5], _ => exact ⟨x0, x1, x2, x3, x4, x5, rfl⟩
theorem args7 {l : List Value} (h : l.length = 7) : ∃ x0 x1 x2 x3 x4 x5 x6, l = [x0, x1, x2, x3, x4, x5, x6] := by
  match l, h with
  | [x0, x1, x2, x3, x4, x5, x6], _ => exact ⟨x0, x1, x2, x3, x4, x5, x6, rfl⟩
theorem args8 {l : List Value} (h : l.length = 8) : ∃ x0 x1 x2 x3 x4 x5 x6 x7, l = [x0, x1, x2, x3, x4, x5, x6, x7] := by
  match l, h with
  | [x0, x1, x2, x3, x4, x5, x6, x7], _ => exact ⟨x0, x1, x2, x3, x4, x5, x6, x7, rfl⟩
/-- bollard/bollardlaw16.NamesNobody -/
def a3 : Ann := [(26, [(0, [35]), (1, []), (2, [])]), (1730558, [(0, [109]), (1, []), (4, [])]), (126, [(0, [6])])]
def t3 : T :=
.op (.box 23 (.v 0 0)) <|
.op (.build 40 []) <|
.op (.box 40 (.v 0 0)) <|
.op (.buildSlice 41 2 [(0, (.c (.pointer none))), (1, (.v 0 0))]) <|
.op (.builtin .len [41] 3 [false] [(.v 0 0)]) <|
.loop [(.c (.int .i64 0))] (
.op (.bin .lss 3 (.tmp 35) (.tmp 34) (.v 0 0) (.v 1 0)) <|
.ite (.v 0 0) (.op (.indexAt 41 (.v 3 0) (.v 1 0)) <|
.op (.load 24 (.v 0 0)) <|
.op (.load 23 (.v 8 0)) <|
.op (.call 4 [(.v 1 0), (.v 0 0), (.v 12 0)]) <|
.op (.extract (.v 0 0) 0) <|
.op (.extract (.v 1 0) 1) <|
.op (.load 23 (.v 12 0)) <|
.op (.call 5 [(.v 5 0), (.v 0 0), (.v 15 0), (.v 16 0)]) <|
.op (.extract (.v 0 0) 0) <|
.op (.extract (.v 1 0) 1) <|
.op (.load 23 (.v 16 0)) <|
.op (.build 48 [(0, (.c (.int .i64 3))), (1, (.c (.string ⟨#[97]⟩)))]) <|
.op (.call 6 [(.v 10 0), (.v 1 0), (.v 20 0), (.v 0 0), (.c (.slice none 0 0))]) <|
.op (.extract (.v 0 0) 0) <|
.op (.extract (.v 1 0) 1) <|
.op (.load 23 (.v 21 0)) <|
.op (.call 7 [(.v 14 0), (.v 0 0), (.v 24 0), (.v 25 0), (.c (.slice none 0 0))]) <|
.op (.extract (.v 0 0) 0) <|
.op (.extract (.v 1 0) 1) <|
.op (.load 23 (.v 25 0)) <|
.op (.call 8 [(.v 18 0), (.v 0 0), (.v 28 0), (.v 29 0), (.c (.int .i64 3)), (.c (.slice none 0 0))]) <|
.op (.extract (.v 0 0) 0) <|
.op (.extract (.v 1 0) 1) <|
.op (.load 23 (.v 29 0)) <|
.op (.call 9 [(.v 22 0), (.v 0 0), (.v 32 0)]) <|
.op (.extract (.v 0 0) 0) <|
.op (.extract (.v 1 0) 1) <|
.op (.load 23 (.v 33 0)) <|
.op (.call 10 [(.v 26 0), (.v 0 0), (.v 36 0)]) <|
.op (.extract (.v 0 0) 0) <|
.op (.extract (.v 1 0) 1) <|
.op (.load 23 (.v 37 0)) <|
.op (.call 11 [(.v 30 0), (.v 0 0), (.v 40 0), (.c (.int .i64 2))]) <|
.op (.extract (.v 0 0) 0) <|
.op (.extract (.v 1 0) 1) <|
.op (.buildSlice 57 8 [(0, (.v 29 0)), (1, (.v 25 0)), (2, (.v 20 0)), (3, (.v 16 0)), (4, (.v 12 0)), (5, (.v 8 0)), (6, (.v 4 0)), (7, (.v 0 0))]) <|
.op (.builtin .len [57] 3 [false] [(.v 0 0)]) <|
.loop [(.c (.int .i64 0))] (
.op (.bin .lss 3 (.tmp 109) (.tmp 108) (.v 0 0) (.v 1 0)) <|
.ite (.v 0 0) (.op (.indexAt 57 (.v 3 0) (.v 1 0)) <|
.op (.load 42 (.v 0 0)) <|
.op (.bin .neq 42 (.tmp 113) (.const (.int .i64 2)) (.v 0 0) (.c (.int .i64 2))) <|
.ite (.v 0 0) (.done 1 [(.c (.bool false))])
 (.op (.bin .add 3 (.tmp 109) (.const (.int .i64 1)) (.v 4 0) (.c (.int .i64 1))) <|
.done 0 [(.v 0 0)]))
 (.done 4 [])) <|
.alt 0 (.fail)
 (.alt 1 (.doneRow 1 0)
 (.alt 4 (.op (.bin .add 3 (.tmp 35) (.const (.int .i64 1)) (.v 39 0) (.c (.int .i64 1))) <|
.done 0 [(.v 0 0)])
 (.fail))))
 (.done 2 [])) <|
.alt 0 (.fail)
 (.alt 1 (.finRow [.tmp 6] 0)
 (.alt 2 (.op (.build 23 []) <|
.op (.call 12 [(.v 0 0)]) <|
.op (.extract (.v 0 0) 0) <|
.op (.extract (.v 1 0) 1) <|
.op (.extract (.v 2 0) 2) <|
.op (.store 23 (.v 10 0) (.v 1 0)) <|
.op (.un .not (.v 1 0)) <|
.ite (.v 0 0) (.fin [.tmp 6] [(.c (.bool false))])
 (.drew <|
.rd (.nil (.v 4 0)) <|
.rd (.fieldAt 64 (.v 0 0) 1) <|
.rd (.load 24 (.v 0 0)) <|
.rd (.load 23 (.v 15 0)) <|
.op (.call 4 [(.v 1 0), (.v 0 0), (.c (.string ⟨#[47]⟩))]) <|
.rd (.extract (.v 0 0) 0) <|
.rd (.extract (.v 1 0) 1) <|
.bind (.op (.bin .eql 42 (.tmp 134) (.const (.int .i64 0)) (.v 0 0) (.c (.int .i64 0))) <|
.ite (.v 0 0) (.op (.bin .eql 3 (.tmp 137) (.const (.int .i64 2)) (.v 2 0) (.c (.int .i64 2))) <|
.done 0 [(.v 0 0)]) (.done 0 [(.c (.bool false))])) <|
.alt 0 (.fin [.tmp 6] [(.v 0 0)])
 (.fail)))
 (.fail)))
theorem d3 (a0 a1 a2 : Value) : denF Tryz.f3 a3 [a0, a1, a2] = t3.sp 0 (rows [a0, a1, a2]) [] := by kernel_rfl
/-- bollard/names.Walk -/
def a4 : Ann := [(506, [(0, [11, 30]), (1, []), (2, [11])])]
def t4 : T :=
.op (.box 23 (.v 1 0)) <|
.op (.load 23 (.v 0 0)) <|
.op (.call 13 [(.v 2 0), (.v 0 0)]) <|
.op (.bin .neq 42 (.tmp 17) (.const (.int .i64 0)) (.v 0 0) (.c (.int .i64 0))) <|
.ite (.v 0 0) (.fin [.tmp 6, .tmp 7] [(.c (.int .i64 0)), (.v 1 0)])
 (.op (.call 14 [(.v 6 0)]) <|
.op (.extract (.v 0 0) 0) <|
.op (.extract (.v 1 0) 1) <|
.op (.bin .neq 42 (.tmp 25) (.const (.int .i64 0)) (.v 0 0) (.c (.int .i64 0))) <|
.ite (.v 0 0) (.fin [.tmp 6, .tmp 7] [(.c (.int .i64 0)), (.v 1 0)])
 (.op (.builtin .len [67] 3 [false] [(.v 2 0)]) <|
.loop [(.c (.int .i64 2)), (.c (.int .i64 0))] (
.op (.bin .lss 3 (.tmp 30) (.tmp 29) (.v 0 1) (.v 1 0)) <|
.ite (.v 0 0) (.op (.indexAt 67 (.v 5 0) (.v 1 1)) <|
.op (.load 9 (.v 0 0)) <|
.op (.load 23 (.v 12 0)) <|
.op (.call 5 [(.v 14 0), (.v 0 0), (.v 4 0), (.v 1 0)]) <|
.op (.extract (.v 0 0) 0) <|
.op (.extract (.v 1 0) 1) <|
.op (.bin .neq 42 (.tmp 42) (.const (.int .i64 0)) (.v 0 0) (.c (.int .i64 0))) <|
.ite (.v 0 0) (.done 1 [(.c (.int .i64 0)), (.v 1 0)])
 (.op (.bin .add 3 (.tmp 30) (.const (.int .i64 1)) (.v 8 1) (.c (.int .i64 1))) <|
.done 0 [(.v 3 0), (.v 0 0)]))
 (.done 2 [(.v 1 0)])) <|
.alt 0 (.fail)
 (.alt 1 (.finRow [.tmp 6, .tmp 7] 0)
 (.alt 2 (.fin [.tmp 6, .tmp 7] [(.v 0 0), (.c (.int .i64 0))])
 (.fail)))))
theorem d4 (a0 a1 a2 : Value) : denF Tryz.f4 a4 [a0, a1, a2] = t4.sp 0 (rows [a0, a1, a2]) [] := by kernel_rfl
/-- bollard/names.Lookup -/
def a5 : Ann := []
def t5 : T :=
.op (.box 23 (.v 1 0)) <|
.op (.load 23 (.v 0 0)) <|
.op (.call 15 [(.v 2 0), (.v 0 0), (.v 4 0)]) <|
.op (.extract (.v 0 0) 0) <|
.op (.extract (.v 1 0) 1) <|
.op (.bin .neq 42 (.tmp 21) (.const (.int .i64 0)) (.v 0 0) (.c (.int .i64 0))) <|
.ite (.v 0 0) (.fin [.tmp 8, .tmp 9] [(.c (.int .i64 0)), (.v 1 0)])
 (.op (.call 16 [(.v 2 0), (.v 9 0)]) <|
.op (.extract (.v 0 0) 0) <|
.op (.extract (.v 1 0) 1) <|
.op (.alloc 74) <|
.op (.store 74 (.v 0 0) (.v 2 0)) <|
.op (.iface 42 (.c (.int .i64 211))) <|
.op (.call 17 [(.v 3 0), (.v 0 0)]) <|
.ite (.v 0 0) (.fin [.tmp 8, .tmp 9] [(.c (.int .i64 0)), (.c (.int .i64 211))])
 (.op (.fieldAt 74 (.v 3 0) 2) <|
.op (.load 3 (.v 0 0)) <|
.fin [.tmp 8, .tmp 9] [(.v 0 0), (.c (.int .i64 0))]))
theorem d5 (a0 a1 a2 a3 : Value) : denF Tryz.f5 a5 [a0, a1, a2, a3] = t5.sp 0 (rows [a0, a1, a2, a3]) [] := by kernel_rfl
/-- bollard/names.Add -/
def a6 : Ann := [(124, [(0, [44])]), (2042, [(0, [4, 66]), (2, [4])]), (4090, [(0, [81]), (1, []), (4, [])])]
def t6 : T :=
.op (.box 23 (.v 1 0)) <|
.op (.box 48 (.v 4 0)) <|
.op (.load 23 (.v 1 0)) <|
.op (.call 15 [(.v 3 0), (.v 0 0), (.v 5 0)]) <|
.op (.extract (.v 0 0) 0) <|
.op (.extract (.v 1 0) 1) <|
.op (.bin .neq 42 (.tmp 30) (.const (.int .i64 0)) (.v 0 0) (.c (.int .i64 0))) <|
.ite (.v 0 0) (.fin [.tmp 10, .tmp 11] [(.c (.int .i64 0)), (.v 1 0)])
 (.op (.load 48 (.v 5 0)) <|
.op (.call 18 [(.v 0 0)]) <|
.op (.extract (.v 0 0) 0) <|
.op (.extract (.v 1 0) 1) <|
.bind (.op (.bin .neq 42 (.tmp 38) (.const (.int .i64 0)) (.v 0 0) (.c (.int .i64 0))) <|
.ite (.v 0 0) (.done 0 [(.c (.bool true))]) (.op (.fieldAt 48 (.v 10 0) 0) <|
.op (.load 3 (.v 0 0)) <|
.op (.bin .eql 3 (.tmp 42) (.const (.int .i64 0)) (.v 0 0) (.c (.int .i64 0))) <|
.done 0 [(.v 0 0)])) <|
.alt 0 (.ite (.v 0 0) (.fin [.tmp 10, .tmp 11] [(.c (.int .i64 0)), (.c (.int .i64 1))])
 (.op (.fieldAt 48 (.v 10 0) 1) <|
.op (.load 9 (.v 0 0)) <|
.op (.call 16 [(.v 9 0), (.v 0 0)]) <|
.op (.extract (.v 0 0) 0) <|
.op (.extract (.v 1 0) 1) <|
.op (.alloc 74) <|
.op (.store 74 (.v 0 0) (.v 2 0)) <|
.op (.bin .eql 76 (.tmp 52) (.const .nilIface) (.v 2 0) (.c .nilIface)) <|
.ite (.v 0 0) (.fin [.tmp 10, .tmp 11] [(.c (.int .i64 0)), (.c (.int .i64 212))])
 (.op (.load 23 (.v 19 0)) <|
.op (.call 20 [(.v 21 0), (.v 0 0), (.v 23 0)]) <|
.op (.buildSlice 131 2 [(0, (.v 26 0)), (1, (.v 0 0))]) <|
.op (.call 19 [(.v 0 0)]) <|
.op (.nil (.v 19 0)) <|
.op (.fieldAt 91 (.v 0 0) 5) <|
.op (.load 80 (.v 0 0)) <|
.op (.builtin .len [80] 3 [false] [(.v 0 0)]) <|
.loop [(.v 4 0), (.c (.int .i64 0))] (
.op (.bin .lss 3 (.tmp 66) (.tmp 65) (.v 0 1) (.v 1 0)) <|
.ite (.v 0 0) (.op (.indexAt 80 (.v 3 0) (.v 1 1)) <|
.op (.load 3 (.v 0 0)) <|
.op (.call 21 [(.v 32 0), (.v 0 0)]) <|
.op (.builtin .append [80, 80] 80 [false, false] [(.v 4 0), (.v 0 0)]) <|
.op (.bin .add 3 (.tmp 66) (.const (.int .i64 1)) (.v 5 1) (.c (.int .i64 1))) <|
.done 0 [(.v 1 0), (.v 0 0)])
 (.done 2 [(.v 1 0)])) <|
.alt 0 (.fail)
 (.alt 2 (.op (.nil (.v 24 0)) <|
.op (.fieldAt 91 (.v 0 0) 4) <|
.op (.load 89 (.v 0 0)) <|
.op (.builtin .len [89] 3 [false] [(.v 0 0)]) <|
.loop [(.c (.int .i64 0))] (
.op (.bin .lss 3 (.tmp 81) (.tmp 80) (.v 0 0) (.v 1 0)) <|
.ite (.v 0 0) (.op (.indexAt 89 (.v 3 0) (.v 1 0)) <|
.op (.load 81 (.v 0 0)) <|
.op (.call 22 [(.v 0 0)]) <|
.op (.extract (.v 0 0) 0) <|
.op (.extract (.v 1 0) 1) <|
.ite (.v 0 0) (.op (.nil (.v 35 0)) <|
.op (.fieldAt 91 (.v 0 0) 5) <|
.op (.load 80 (.v 0 0)) <|
.op (.indexAt 80 (.v 0 0) (.v 9 0)) <|
.op (.load 3 (.v 0 0)) <|
.op (.bin .mul 3 (.tmp 100) (.const (.int .i64 16)) (.v 6 0) (.c (.int .i64 16))) <|
.op (.call 23 [(.v 46 0), (.v 1 0), (.v 0 0), (.v 36 0), (.v 17 0)]) <|
.op (.extract (.v 0 0) 0) <|
.op (.extract (.v 1 0) 1) <|
.done 1 [(.v 1 0), (.v 0 0)])
 (.op (.bin .add 3 (.tmp 81) (.const (.int .i64 1)) (.v 6 0) (.c (.int .i64 1))) <|
.done 0 [(.v 0 0)]))
 (.done 4 [])) <|
.alt 0 (.fail)
 (.alt 1 (.finRow [.tmp 10, .tmp 11] 0)
 (.alt 4 (.op (.load 48 (.v 32 0)) <|
.op (.build 99 [(0, (.v 30 0)), (1, (.v 0 0)), (2, (.v 6 0))]) <|
.op (.func (.func 25) [(.v 0 0)] []) <|
.op (.call 24 [(.v 37 0), (.v 0 0)]) <|
.op (.extract (.v 0 0) 0) <|
.op (.extract (.v 1 0) 1) <|
.fin [.tmp 10, .tmp 11] [(.v 1 0), (.v 0 0)])
 (.fail))))
 (.fail)))))
 (.fail))
theorem d6 (a0 a1 a2 a3 a4 : Value) : denF Tryz.f6 a6 [a0, a1, a2, a3, a4] = t6.sp 0 (rows [a0, a1, a2, a3, a4]) [] := by kernel_rfl
/-- bollard/names.Remove -/
def a7 : Ann := []
def t7 : T :=
.op (.box 23 (.v 1 0)) <|
.op (.load 23 (.v 0 0)) <|
.op (.build 48 []) <|
.op (.call 26 [(.v 3 0), (.v 1 0), (.v 5 0), (.v 6 0), (.v 0 0), (.v 7 0)]) <|
.op (.extract (.v 0 0) 0) <|
.op (.extract (.v 1 0) 1) <|
.fin [.tmp 10, .tmp 11] [(.v 1 0), (.v 0 0)]
theorem d7 (a0 a1 a2 a3 a4 : Value) : denF Tryz.f7 a7 [a0, a1, a2, a3, a4] = t7.sp 0 (rows [a0, a1, a2, a3, a4]) [] := by kernel_rfl
/-- bollard/names.Set -/
def a8 : Ann := [(29, [(0, [])])]
def t8 : T :=
.op (.box 23 (.v 1 0)) <|
.op (.build 48 [(0, (.v 5 0)), (1, (.v 4 0))]) <|
.op (.alloc 48) <|
.op (.store 48 (.v 0 0) (.v 1 0)) <|
.op (.bin .eql 3 (.tmp 18) (.const (.int .i64 0)) (.v 8 0) (.c (.int .i64 0))) <|
.bind (.ite (.v 0 0) (.op (.build 48 [(0, (.c (.int .i64 (-1))))]) <|
.op (.store 48 (.v 3 0) (.v 0 0)) <|
.done 0 [])
 (.done 0 [])) <|
.alt 0 (.drew <|
.rd (.load 23 (.v 5 0)) <|
.rd (.load 48 (.v 4 0)) <|
.rd (.load 23 (.v 7 0)) <|
.op (.call 20 [(.v 9 0), (.v 0 0), (.v 11 0)]) <|
.chk (.load 48 (.v 7 0)) (.v 2 0) <|
.chk (.load 23 (.v 9 0)) (.v 3 0) <|
.op (.buildSlice 131 2 [(0, (.v 15 0)), (1, (.v 0 0))]) <|
.chk (.load 48 (.v 8 0)) (.v 3 0) <|
.chk (.load 23 (.v 10 0)) (.v 4 0) <|
.op (.call 19 [(.v 0 0)]) <|
.chk (.load 48 (.v 9 0)) (.v 4 0) <|
.chk (.load 23 (.v 11 0)) (.v 5 0) <|
.op (.call 26 [(.v 12 0), (.v 5 0), (.v 14 0), (.v 15 0), (.v 4 0), (.v 0 0)]) <|
.rd (.extract (.v 0 0) 0) <|
.rd (.extract (.v 1 0) 1) <|
.fin [.tmp 12, .tmp 13] [(.v 1 0), (.v 0 0)])
 (.fail)
theorem d8 (a0 a1 a2 a3 a4 a5 : Value) : denF Tryz.f8 a8 [a0, a1, a2, a3, a4, a5] = t8.sp 0 (rows [a0, a1, a2, a3, a4, a5]) [] := by kernel_rfl
/-- bollard/names.List -/
def a9 : Ann := [(250, [(0, [10, 30]), (2, [10])])]
def t9 : T :=
.op (.box 23 (.v 1 0)) <|
.op (.load 23 (.v 0 0)) <|
.op (.call 15 [(.v 2 0), (.v 0 0), (.v 4 0)]) <|
.op (.extract (.v 0 0) 0) <|
.op (.extract (.v 1 0) 1) <|
.op (.bin .neq 42 (.tmp 22) (.const (.int .i64 0)) (.v 0 0) (.c (.int .i64 0))) <|
.ite (.v 0 0) (.fin [.tmp 6, .tmp 7] [(.c (.slice none 0 0)), (.v 1 0)])
 (.op (.nil (.v 2 0)) <|
.op (.fieldAt 91 (.v 0 0) 4) <|
.op (.load 89 (.v 0 0)) <|
.op (.builtin .len [89] 3 [false] [(.v 0 0)]) <|
.loop [(.c (.slice none 0 0)), (.c (.int .i64 0))] (
.op (.bin .lss 3 (.tmp 30) (.tmp 29) (.v 0 1) (.v 1 0)) <|
.ite (.v 0 0) (.op (.indexAt 89 (.v 3 0) (.v 1 1)) <|
.op (.load 81 (.v 0 0)) <|
.op (.call 27 [(.v 0 0)]) <|
.op (.extract (.v 0 0) 0) <|
.op (.extract (.v 1 0) 1) <|
.op (.call 28 [(.v 1 0), (.c (.func (.func 29) #[] #[]))]) <|
.op (.builtin .append [51, 51] 51 [false, false] [(.v 7 0), (.v 0 0)]) <|
.op (.bin .add 3 (.tmp 30) (.const (.int .i64 1)) (.v 8 1) (.c (.int .i64 1))) <|
.done 0 [(.v 1 0), (.v 0 0)])
 (.done 2 [(.v 1 0)])) <|
.alt 0 (.fail)
 (.alt 2 (.fin [.tmp 6, .tmp 7] [(.v 0 0), (.c (.int .i64 0))])
 (.fail)))
theorem d9 (a0 a1 a2 : Value) : denF Tryz.f9 a9 [a0, a1, a2] = t9.sp 0 (rows [a0, a1, a2]) [] := by kernel_rfl
/-- bollard/names.Empty -/
def a10 : Ann := []
def t10 : T :=
.op (.box 23 (.v 1 0)) <|
.op (.load 23 (.v 0 0)) <|
.op (.call 9 [(.v 2 0), (.v 0 0), (.v 4 0)]) <|
.op (.extract (.v 0 0) 0) <|
.op (.extract (.v 1 0) 1) <|
.op (.bin .neq 42 (.tmp 17) (.const (.int .i64 0)) (.v 0 0) (.c (.int .i64 0))) <|
.ite (.v 0 0) (.fin [.tmp 6, .tmp 7] [(.c (.bool false)), (.v 1 0)])
 (.op (.call 30 [(.v 2 0), (.c (.func (.func 31) #[] #[]))]) <|
.op (.un .not (.v 0 0)) <|
.fin [.tmp 6, .tmp 7] [(.v 0 0), (.c (.int .i64 0))])
theorem d10 (a0 a1 a2 : Value) : denF Tryz.f10 a10 [a0, a1, a2] = t10.sp 0 (rows [a0, a1, a2]) [] := by kernel_rfl
/-- bollard/names.Below -/
def a11 : Ann := [(29, [(0, [2]), (1, [])]), (58, [(0, [2, 24]), (1, []), (2, [2])]), (7472, [(0, [32])])]
def t11 : T :=
.op (.box 23 (.v 1 0)) <|
.op (.load 23 (.v 0 0)) <|
.op (.call 15 [(.v 2 0), (.v 0 0), (.v 4 0)]) <|
.op (.extract (.v 0 0) 0) <|
.op (.extract (.v 1 0) 1) <|
.op (.bin .neq 42 (.tmp 21) (.const (.int .i64 0)) (.v 0 0) (.c (.int .i64 0))) <|
.ite (.v 0 0) (.fin [.tmp 8, .tmp 9] [(.c (.bool false)), (.v 1 0)])
 (.bind (.loop [(.v 8 0), (.c (.int .i64 0))] (
.op (.bin .lss 3 (.tmp 24) (.const (.int .i64 512)) (.v 0 1) (.c (.int .i64 512))) <|
.ite (.v 0 0) (.bind (.op (.bin .eql 3 (.tmp 26) (.tmp 27) (.v 1 0) (.v 11 0)) <|
.ite (.v 0 0) (.done 0 [(.c (.bool true))]) (.op (.bin .eql 3 (.tmp 30) (.const (.int .i64 2)) (.v 2 0) (.c (.int .i64 2))) <|
.done 0 [(.v 0 0)])) <|
.alt 0 (.ite (.v 0 0) (.done 2 [(.v 2 0)])
 (.op (.load 23 (.v 8 0)) <|
.op (.call 5 [(.v 10 0), (.v 0 0), (.v 3 0), (.c (.string ⟨#[46, 46]⟩))]) <|
.op (.extract (.v 0 0) 0) <|
.op (.extract (.v 1 0) 1) <|
.op (.bin .neq 42 (.tmp 40) (.const (.int .i64 0)) (.v 0 0) (.c (.int .i64 0))) <|
.ite (.v 0 0) (.done 1 [(.c (.bool false)), (.v 1 0)])
 (.op (.bin .add 3 (.tmp 24) (.const (.int .i64 1)) (.v 7 1) (.c (.int .i64 1))) <|
.done 0 [(.v 3 0), (.v 0 0)])))
 (.fail))
 (.done 2 [(.v 1 0)])) <|
.alt 0 (.fail)
 (.alt 1 (.doneRow 1 0)
 (.alt 2 (.done 0 [(.v 0 0)])
 (.fail)))) <|
.alt 0 (.op (.bin .eql 3 (.tmp 45) (.tmp 46) (.v 0 0) (.v 10 0)) <|
.fin [.tmp 8, .tmp 9] [(.v 0 0), (.c (.int .i64 0))])
 (.alt 1 (.finRow [.tmp 8, .tmp 9] 0)
 (.fail)))
theorem d11 (a0 a1 a2 a3 : Value) : denF Tryz.f11 a11 [a0, a1, a2, a3] = t11.sp 0 (rows [a0, a1, a2, a3]) [] := by kernel_rfl
/-- bollard/bollardplain.Fresh -/
def a12 : Ann := [(29, [(0, [5])]), (62, [(0, [2, 4])])]
def t12 : T :=
.op (.box 23 (.v 0 0)) <|
.op (.alloc 23) <|
.op (.load 23 (.v 1 0)) <|
.op (.call 33 [(.v 0 0)]) <|
.op (.extract (.v 0 0) 0) <|
.op (.extract (.v 1 0) 1) <|
.op (.bin .neq 42 (.tmp 14) (.const (.int .i64 0)) (.v 0 0) (.c (.int .i64 0))) <|
.bind (.ite (.v 0 0) (.op (.build 23 [(0, (.c (.int .i64 1))), (1, (.c (.int .i64 8))), (2, (.c (.int .i64 4)))]) <|
.op (.store 23 (.v 7 0) (.v 0 0)) <|
.op (.load 23 (.v 8 0)) <|
.op (.call 33 [(.v 0 0)]) <|
.op (.extract (.v 0 0) 0) <|
.op (.extract (.v 1 0) 1) <|
.done 0 [(.v 1 0)])
 (.done 0 [(.v 2 0)])) <|
.alt 0 (.op (.call 34 [(.v 0 0), (.c (.int .i64 64))]) <|
.op (.extract (.v 0 0) 0) <|
.op (.extract (.v 1 0) 1) <|
.bind (.drew <|
.rd (.load 23 (.v 10 0)) <|
.ite (.v 1 0) (.rd (.bin .neq 58 (.tmp 31) (.const (.pointer none)) (.v 2 0) (.c (.pointer none))) <|
.op (.store 23 (.v 11 0) (.v 1 0)) <|
.chk (.bin .neq 58 (.tmp 31) (.const (.pointer none)) (.v 4 0) (.c (.pointer none))) (.v 1 0) <|
.done 0 [(.v 4 0), (.v 1 0)]) (.op (.store 23 (.v 10 0) (.v 0 0)) <|
.done 0 [(.v 3 0), (.c (.bool false))])) <|
.alt 0 (.fin [.tmp 2, .cell 3 23, .tmp 4] [(.v 0 0), (.v 10 0), (.v 0 1)])
 (.fail))
 (.fail)
theorem d12 (a0 : Value) : denF Tryz.f12 a12 [a0] = t12.sp 0 (rows [a0]) [] := by kernel_rfl
/-- bollard/names.fine -/
def a13 : Ann := [(28, [(0, [17])])]
def t13 : T :=
.op (.box 23 (.v 1 0)) <|
.op (.call 35 [(.v 1 0)]) <|
.op (.bin .eql 3 (.tmp 6) (.const (.int .i64 0)) (.v 0 0) (.c (.int .i64 0))) <|
.ite (.v 0 0) (.fin [.tmp 4] [(.c (.int .i64 2))])
 (.bind (.drew <|
.rd (.load 23 (.v 2 0)) <|
.op (.call 36 [(.v 0 0)]) <|
.rd (.bin .neq 42 (.tmp 9) (.const (.int .i64 0)) (.v 0 0) (.c (.int .i64 0))) <|
.ite (.v 0 0) (.done 0 [(.c (.bool true))]) (.rd (.load 23 (.v 5 0)) <|
.op (.call 35 [(.v 7 0)]) <|
.chk (.load 23 (.v 7 0)) (.v 1 0) <|
.op (.call 37 [(.v 1 0)]) <|
.rd (.bin .lss 3 (.tmp 13) (.tmp 15) (.v 1 0) (.v 0 0)) <|
.done 0 [(.v 0 0)])) <|
.alt 0 (.ite (.v 0 0) (.fin [.tmp 4] [(.c (.int .i64 170))])
 (.fin [.tmp 4] [(.c (.int .i64 0))]))
 (.fail))
theorem d13 (a0 a1 : Value) : denF Tryz.f13 a13 [a0, a1] = t13.sp 0 (rows [a0, a1]) [] := by kernel_rfl
/-- bollard/dirs.Split -/
def a14 : Ann := []
def t14 : T :=
.op (.bin .eql 9 (.tmp 7) (.const (.string ⟨#[47]⟩)) (.v 0 0) (.c (.string ⟨#[47]⟩))) <|
.ite (.v 0 0) (.fin [.tmp 2, .tmp 3] [(.c (.slice none 0 0)), (.c (.int .i64 0))])
 (.op (.call 38 [(.v 1 0), (.c (.string ⟨#[47]⟩))]) <|
.op (.extract (.v 0 0) 0) <|
.op (.extract (.v 1 0) 1) <|
.op (.un .not (.v 0 0)) <|
.ite (.v 0 0) (.fin [.tmp 2, .tmp 3] [(.c (.slice none 0 0)), (.c (.int .i64 7))])
 (.op (.call 39 [(.v 2 0), (.c (.string ⟨#[47]⟩))]) <|
.op (.call 40 [(.v 0 0), (.c (.func (.func 41) #[] #[]))]) <|
.ite (.v 0 0) (.fin [.tmp 2, .tmp 3] [(.c (.slice none 0 0)), (.c (.int .i64 7))])
 (.op (.builtin .len [67] 3 [false] [(.v 1 0)]) <|
.op (.bin .gtr 3 (.tmp 21) (.const (.int .i64 32)) (.v 0 0) (.c (.int .i64 32))) <|
.ite (.v 0 0) (.fin [.tmp 2, .tmp 3] [(.c (.slice none 0 0)), (.c (.int .i64 219))])
 (.fin [.tmp 2, .tmp 3] [(.v 3 0), (.c (.int .i64 0))]))))
theorem d14 (a0 : Value) : denF Tryz.f14 a14 [a0] = t14.sp 0 (rows [a0]) [] := by kernel_rfl
/-- bollard/names.open -/
def a15 : Ann := [(506, [(0, [35]), (1, []), (2, [])])]
def t15 : T :=
.op (.box 23 (.v 1 0)) <|
.op (.load 23 (.v 0 0)) <|
.op (.call 42 [(.v 2 0), (.v 0 0), (.v 4 0)]) <|
.op (.extract (.v 0 0) 0) <|
.op (.extract (.v 1 0) 1) <|
.op (.alloc 88) <|
.op (.store 88 (.v 0 0) (.v 2 0)) <|
.op (.bin .neq 42 (.tmp 20) (.const (.int .i64 0)) (.v 2 0) (.c (.int .i64 0))) <|
.ite (.v 0 0) (.fin [.tmp 6, .tmp 7] [(.c (.pointer none)), (.v 3 0)])
 (.op (.fieldAt 88 (.v 2 0) 0) <|
.op (.load 3 (.v 0 0)) <|
.op (.bin .neq 3 (.tmp 24) (.const (.int .i64 2)) (.v 0 0) (.c (.int .i64 2))) <|
.ite (.v 0 0) (.fin [.tmp 6, .tmp 7] [(.c (.pointer none)), (.c (.int .i64 214))])
 (.op (.load 23 (.v 10 0)) <|
.op (.load 88 (.v 6 0)) <|
.op (.build 91 [(0, (.v 13 0)), (1, (.v 1 0)), (2, (.v 15 0)), (3, (.v 0 0))]) <|
.op (.box 91 (.v 0 0)) <|
.op (.fieldAt 88 (.v 9 0) 2) <|
.op (.load 3 (.v 0 0)) <|
.op (.bin .quo 3 (.tmp 33) (.const (.int .i64 128)) (.v 0 0) (.c (.int .i64 128))) <|
.loop [(.c (.int .i64 0))] (
.op (.bin .lss 3 (.tmp 35) (.tmp 34) (.v 0 0) (.v 1 0)) <|
.ite (.v 0 0) (.op (.call 43 [(.v 5 0), (.v 1 0)]) <|
.op (.bin .neq 42 (.tmp 41) (.const (.int .i64 0)) (.v 0 0) (.c (.int .i64 0))) <|
.ite (.v 0 0) (.done 1 [(.c (.pointer none)), (.v 1 0)])
 (.op (.bin .add 3 (.tmp 35) (.const (.int .i64 1)) (.v 3 0) (.c (.int .i64 1))) <|
.done 0 [(.v 0 0)]))
 (.done 2 [])) <|
.alt 0 (.fail)
 (.alt 1 (.finRow [.tmp 6, .tmp 7] 0)
 (.alt 2 (.fin [.tmp 6, .tmp 7] [(.v 4 0), (.c (.int .i64 0))])
 (.fail)))))
theorem d15 (a0 a1 a2 : Value) : denF Tryz.f15 a15 [a0, a1, a2] = t15.sp 0 (rows [a0, a1, a2]) [] := by kernel_rfl
/-- slices.Concat[[]int,int] -/
def a19 : Ann := [(58, [(0, [3, 11]), (2, [3])]), (934, [(0, [3])]), (14951, [(0, [])]), (250, [(0, [6, 27]), (4, [6])])]
def t19 : T :=
.op (.builtin .len [131] 3 [false] [(.v 0 0)]) <|
.loop [(.c (.int .i64 0)), (.c (.int .i64 0))] (
.op (.bin .lss 3 (.tmp 11) (.tmp 10) (.v 0 1) (.v 1 0)) <|
.ite (.v 0 0) (.bind (.op (.indexAt 131 (.v 3 0) (.v 1 1)) <|
.op (.load 80 (.v 0 0)) <|
.op (.builtin .len [80] 3 [false] [(.v 0 0)]) <|
.op (.bin .add 3 (.tmp 15) (.tmp 17) (.v 4 0) (.v 0 0)) <|
.op (.bin .lss 3 (.tmp 19) (.const (.int .i64 0)) (.v 0 0) (.c (.int .i64 0))) <|
.bind (.ite (.v 0 0) (.op (.iface 9 (.c (.string ⟨#[108, 101, 110, 32, 111, 117, 116, 32, 111, 102, 32, 114, 97, 110, 103, 101]⟩))) <|
.op (.panic (.v 0 0)) <|
.done 0 [])
 (.done 0 [])) <|
.alt 0 (.done 0 [(.v 2 0)])
 (.fail)) <|
.alt 0 (.op (.bin .add 3 (.tmp 11) (.const (.int .i64 1)) (.v 2 1) (.c (.int .i64 1))) <|
.done 0 [(.v 1 0), (.v 0 0)])
 (.fail))
 (.done 2 [(.v 1 0)])) <|
.alt 0 (.fail)
 (.alt 2 (.op (.call 50 [(.c (.slice none 0 0)), (.v 0 0)]) <|
.op (.builtin .len [131] 3 [false] [(.v 3 0)]) <|
.loop [(.v 1 0), (.c (.int .i64 0))] (
.op (.bin .lss 3 (.tmp 27) (.tmp 26) (.v 0 1) (.v 1 0)) <|
.ite (.v 0 0) (.op (.indexAt 131 (.v 6 0) (.v 1 1)) <|
.op (.load 80 (.v 0 0)) <|
.op (.builtin .append [80, 80] 80 [false, false] [(.v 3 0), (.v 0 0)]) <|
.op (.bin .add 3 (.tmp 27) (.const (.int .i64 1)) (.v 4 1) (.c (.int .i64 1))) <|
.done 0 [(.v 1 0), (.v 0 0)])
 (.done 4 [(.v 1 0)])) <|
.alt 0 (.fail)
 (.alt 4 (.fin [.tmp 2] [(.v 0 0)])
 (.fail)))
 (.fail))
theorem d19 (a0 : Value) : denF Tryz.f19 a19 [a0] = t19.sp 0 (rows [a0]) [] := by kernel_rfl
/-- bollard/names.waits -/
def a20 : Ann := []
def t20 : T :=
.op (.box 23 (.v 1 0)) <|
.op (.load 23 (.v 0 0)) <|
.op (.call 51 [(.v 0 0), (.v 4 0)]) <|
.op (.extract (.v 0 0) 0) <|
.op (.extract (.v 1 0) 1) <|
.op (.extract (.v 2 0) 2) <|
.op (.call 21 [(.v 6 0), (.v 2 0)]) <|
.fin [.tmp 6] [(.v 0 0)]
theorem d20 (a0 a1 a2 : Value) : denF Tryz.f20 a20 [a0, a1, a2] = t20.sp 0 (rows [a0, a1, a2]) [] := by kernel_rfl
/-- (*bollard/volume.Volume).Pending -/
def a21 : Ann := []
def t21 : T :=
.op (.call 52 [(.v 0 0)]) <|
.op (.un .not (.v 0 0)) <|
.ite (.v 0 0) (.fin [.tmp 4] [(.c (.slice none 0 0))])
 (.op (.nil (.v 2 0)) <|
.op (.fieldAt 40 (.v 0 0) 0) <|
.dfr (.c (.func (.func 53) #[] #[])) [(.v 0 0)] <|
.op (.nil (.v 4 0)) <|
.op (.fieldAt 40 (.v 0 0) 3) <|
.op (.load 34 (.v 0 0)) <|
.op (.call 54 [(.v 0 0), (.v 8 0)]) <|
.fin [.tmp 4] [(.v 0 0)])
theorem d21 (a0 a1 : Value) : denF Tryz.f21 a21 [a0, a1] = t21.sp 0 (rows [a0, a1]) [] := by kernel_rfl
/-- bollard/names.replace -/
def a26 : Ann := []
def t26 : T :=
.op (.box 23 (.v 1 0)) <|
.op (.box 48 (.v 5 0)) <|
.op (.load 23 (.v 1 0)) <|
.op (.call 15 [(.v 3 0), (.v 0 0), (.v 5 0)]) <|
.op (.extract (.v 0 0) 0) <|
.op (.extract (.v 1 0) 1) <|
.op (.bin .neq 42 (.tmp 26) (.const (.int .i64 0)) (.v 0 0) (.c (.int .i64 0))) <|
.ite (.v 0 0) (.fin [.tmp 12, .tmp 13] [(.c (.int .i64 0)), (.v 1 0)])
 (.op (.call 16 [(.v 2 0), (.v 10 0)]) <|
.op (.extract (.v 0 0) 0) <|
.op (.extract (.v 1 0) 1) <|
.op (.alloc 74) <|
.op (.store 74 (.v 0 0) (.v 2 0)) <|
.op (.bin .neq 76 (.tmp 35) (.const .nilIface) (.v 2 0) (.c .nilIface)) <|
.ite (.v 0 0) (.fin [.tmp 12, .tmp 13] [(.c (.int .i64 0)), (.c (.int .i64 211))])
 (.op (.load 48 (.v 11 0)) <|
.op (.call 18 [(.v 0 0)]) <|
.op (.extract (.v 0 0) 0) <|
.op (.extract (.v 1 0) 1) <|
.op (.bin .neq 42 (.tmp 42) (.const (.int .i64 0)) (.v 0 0) (.c (.int .i64 0))) <|
.ite (.v 0 0) (.fin [.tmp 12, .tmp 13] [(.c (.int .i64 0)), (.c (.int .i64 1))])
 (.op (.fieldAt 74 (.v 7 0) 0) <|
.op (.load 3 (.v 0 0)) <|
.op (.fieldAt 74 (.v 9 0) 1) <|
.op (.load 3 (.v 0 0)) <|
.op (.call 23 [(.v 22 0), (.v 2 0), (.v 0 0), (.v 6 0), (.v 27 0)]) <|
.op (.extract (.v 0 0) 0) <|
.op (.extract (.v 1 0) 1) <|
.fin [.tmp 12, .tmp 13] [(.v 1 0), (.v 0 0)])))
theorem d26 (a0 a1 a2 a3 a4 a5 : Value) : denF Tryz.f26 a26 [a0, a1, a2, a3, a4, a5] = t26.sp 0 (rows [a0, a1, a2, a3, a4, a5]) [] := by kernel_rfl
/-- bollard/bollardref17.Make -/
def a33 : Ann := [(122, [(0, [4, 16]), (2, [4])])]
def t33 : T :=
.op (.box 23 (.v 0 0)) <|
.op (.load 23 (.v 0 0)) <|
.op (.call 69 [(.v 0 0)]) <|
.op (.bin .neq 42 (.tmp 12) (.const (.int .i64 0)) (.v 0 0) (.c (.int .i64 0))) <|
.ite (.v 0 0) (.fin [.tmp 2, .tmp 3] [(.c (.slice none 0 0)), (.c (.int .i64 170))])
 (.op (.fieldAt 23 (.v 3 0) 0) <|
.op (.load 3 (.v 0 0)) <|
.loop [(.c (.slice none 0 0)), (.c (.int .i64 0))] (
.op (.bin .lss 3 (.tmp 16) (.tmp 15) (.v 0 1) (.v 1 0)) <|
.ite (.v 0 0) (.op (.load 23 (.v 7 0)) <|
.op (.call 70 [(.v 0 0), (.v 2 1)]) <|
.op (.builtin .append [89, 89] 89 [false, false] [(.v 3 0), (.v 0 0)]) <|
.op (.bin .add 3 (.tmp 16) (.const (.int .i64 1)) (.v 4 1) (.c (.int .i64 1))) <|
.done 0 [(.v 1 0), (.v 0 0)])
 (.done 2 [(.v 1 0)])) <|
.alt 0 (.fail)
 (.alt 2 (.op (.fieldAt 23 (.v 6 0) 2) <|
.op (.load 3 (.v 0 0)) <|
.op (.bin .quo 3 (.tmp 26) (.const (.int .i64 4)) (.v 0 0) (.c (.int .i64 4))) <|
.op (.bin .add 3 (.const (.int .i64 2)) (.tmp 27) (.c (.int .i64 2)) (.v 0 0)) <|
.op (.build 86 [(0, (.v 0 0))]) <|
.op (.build 88 [(0, (.c (.int .i64 2))), (1, (.c (.int .i64 2))), (2, (.c (.int .i64 128))), (3, (.v 0 0))]) <|
.op (.call 71 [(.v 0 0)]) <|
.op (.extract (.v 0 0) 0) <|
.op (.extract (.v 1 0) 1) <|
.op (.indexAt 89 (.v 9 0) (.c (.int .i64 2))) <|
.op (.load 81 (.v 0 0)) <|
.op (.slice 81 (.v 0 0) (some (.c (.int .i64 64))) none none) <|
.op (.builtin .copy [81, 81] 3 [false, false] [(.v 0 0), (.v 4 0)]) <|
.op (.build 48 [(0, (.c (.int .i64 2))), (1, (.c (.string ⟨#[46]⟩)))]) <|
.op (.build 48 [(0, (.c (.int .i64 2))), (1, (.c (.string ⟨#[46, 46]⟩)))]) <|
.op (.buildSlice 51 2 [(0, (.v 1 0)), (1, (.v 0 0))]) <|
.op (.call 72 [(.v 0 0)]) <|
.op (.extract (.v 0 0) 0) <|
.op (.extract (.v 1 0) 1) <|
.op (.indexAt 89 (.v 19 0) (.v 15 0)) <|
.op (.store 81 (.v 0 0) (.v 2 0)) <|
.fin [.tmp 2, .tmp 3] [(.v 21 0), (.c (.int .i64 0))])
 (.fail)))
theorem d33 (a0 : Value) : denF Tryz.f33 a33 [a0] = t33.sp 0 (rows [a0]) [] := by kernel_rfl
/-- bollard/bollardplain.Of -/
def a34 : Ann := [(124, [(0, [36])]), (500, [(0, [4, 5])]), (1020, [(0, [69])])]
def t34 : T :=
.op (.build 64 []) <|
.op (.box 64 (.v 0 0)) <|
.op (.call 74 [(.v 2 0)]) <|
.op (.call 73 [(.v 0 0)]) <|
.op (.extract (.v 0 0) 0) <|
.op (.extract (.v 1 0) 1) <|
.op (.call 75 [(.v 6 0)]) <|
.op (.extract (.v 0 0) 0) <|
.op (.extract (.v 1 0) 1) <|
.bind (.op (.bin .neq 42 (.tmp 26) (.tmp 27) (.v 3 0) (.v 0 0)) <|
.ite (.v 0 0) (.done 0 [(.c (.bool true))]) (.op (.bin .eql 32 (.tmp 30) (.const (.pointer none)) (.v 5 0) (.c (.pointer none))) <|
.ite (.v 0 0) (.done 0 [(.c (.bool true))]) (.op (.bin .eql 61 (.tmp 34) (.const (.pointer none)) (.v 3 0) (.c (.pointer none))) <|
.done 0 [(.v 0 0)]))) <|
.alt 0 (.ite (.v 0 0) (.bind (.op (.bin .eql 42 (.tmp 37) (.tmp 38) (.v 4 0) (.v 1 0)) <|
.ite (.v 0 0) (.op (.bin .eql 32 (.tmp 41) (.const (.pointer none)) (.v 6 0) (.c (.pointer none))) <|
.ite (.v 0 0) (.op (.bin .eql 61 (.tmp 45) (.const (.pointer none)) (.v 4 0) (.c (.pointer none))) <|
.done 0 [(.c (.pointer none)), (.v 0 0)]) (.done 0 [(.c (.pointer none)), (.c (.bool false))])) (.done 0 [(.c (.pointer none)), (.c (.bool false))])) <|
.alt 0 (.fin [.tmp 4, .tmp 5] [(.v 0 0), (.v 0 1)])
 (.fail))
 (.op (.call 76 [(.v 5 0), (.v 11 0)]) <|
.op (.extract (.v 0 0) 0) <|
.op (.extract (.v 1 0) 1) <|
.op (.call 77 [(.v 5 0), (.v 14 0)]) <|
.op (.extract (.v 0 0) 0) <|
.op (.extract (.v 1 0) 1) <|
.bind (.op (.bin .neq 42 (.tmp 60) (.tmp 61) (.v 3 0) (.v 0 0)) <|
.ite (.v 0 0) (.done 0 [(.c (.bool true))]) (.op (.bin .eql 24 (.tmp 64) (.const (.pointer none)) (.v 5 0) (.c (.pointer none))) <|
.op (.bin .eql 62 (.tmp 66) (.const (.pointer none)) (.v 3 0) (.c (.pointer none))) <|
.op (.bin .neq 4 (.tmp 65) (.tmp 67) (.v 1 0) (.v 0 0)) <|
.done 0 [(.v 0 0)])) <|
.alt 0 (.ite (.v 0 0) (.fin [.tmp 4, .tmp 5] [(.c (.pointer none)), (.c (.bool false))])
 (.op (.bin .eql 62 (.tmp 70) (.const (.pointer none)) (.v 2 0) (.c (.pointer none))) <|
.ite (.v 0 0) (.fin [.tmp 4, .tmp 5] [(.c (.pointer none)), (.c (.bool true))])
 (.op (.nil (.v 16 0)) <|
.op (.fieldAt 64 (.v 0 0) 0) <|
.op (.store 32 (.v 0 0) (.v 15 0)) <|
.op (.nil (.v 19 0)) <|
.op (.fieldAt 64 (.v 0 0) 1) <|
.op (.store 24 (.v 0 0) (.v 11 0)) <|
.op (.nil (.v 22 0)) <|
.op (.fieldAt 64 (.v 0 0) 2) <|
.op (.store 61 (.v 0 0) (.v 18 0)) <|
.op (.nil (.v 25 0)) <|
.op (.fieldAt 64 (.v 0 0) 3) <|
.op (.store 62 (.v 0 0) (.v 14 0)) <|
.fin [.tmp 4, .tmp 5] [(.v 28 0), (.c (.bool true))])))
 (.fail)))
 (.fail)
theorem d34 (a0 a1 : Value) : denF Tryz.f34 a34 [a0, a1] = t34.sp 0 (rows [a0, a1]) [] := by kernel_rfl
/-- (*bollard/volume.Volume).Blocks -/
def a35 : Ann := []
def t35 : T :=
.op (.call 52 [(.v 0 0)]) <|
.op (.un .not (.v 0 0)) <|
.ite (.v 0 0) (.fin [.tmp 2] [(.c (.int .i64 0))])
 (.op (.nil (.v 2 0)) <|
.op (.fieldAt 40 (.v 0 0) 0) <|
.dfr (.c (.func (.func 53) #[] #[])) [(.v 0 0)] <|
.op (.nil (.v 4 0)) <|
.op (.fieldAt 40 (.v 0 0) 1) <|
.op (.load 32 (.v 0 0)) <|
.op (.call 78 [(.v 0 0)]) <|
.fin [.tmp 2] [(.v 0 0)])
theorem d35 (a0 : Value) : denF Tryz.f35 a35 [a0] = t35.sp 0 (rows [a0]) [] := by kernel_rfl
/-- bollard/geom.Can -/
def a36 : Ann := [(6, [(0, [3])]), (28, [(0, [32])])]
def t36 : T :=
.op (.box 23 (.v 0 0)) <|
.bind (.op (.fieldAt 23 (.v 0 0) 0) <|
.op (.load 3 (.v 0 0)) <|
.op (.call 79 [(.v 0 0), (.c (.int .i64 1)), (.c (.int .i64 8))]) <|
.ite (.v 0 0) (.op (.fieldAt 23 (.v 3 0) 1) <|
.op (.load 3 (.v 0 0)) <|
.op (.call 79 [(.v 0 0), (.c (.int .i64 8)), (.c (.int .i64 256))]) <|
.ite (.v 0 0) (.op (.fieldAt 23 (.v 6 0) 2) <|
.op (.load 3 (.v 0 0)) <|
.op (.call 79 [(.v 0 0), (.c (.int .i64 4)), (.c (.int .i64 64))]) <|
.done 0 [(.v 0 0)]) (.done 0 [(.c (.bool false))])) (.done 0 [(.c (.bool false))])) <|
.alt 0 (.bind (.drew <|
.rd (.un .not (.v 0 0)) <|
.ite (.v 0 0) (.done 0 [(.c (.bool true))]) (.rd (.fieldAt 23 (.v 2 0) 2) <|
.rd (.load 3 (.v 0 0)) <|
.rd (.bin .rem 3 (.tmp 21) (.const (.int .i64 4)) (.v 0 0) (.c (.int .i64 4))) <|
.rd (.bin .neq 3 (.tmp 22) (.const (.int .i64 0)) (.v 0 0) (.c (.int .i64 0))) <|
.ite (.v 0 0) (.done 0 [(.c (.bool true))]) (.rd (.fieldAt 23 (.v 6 0) 1) <|
.rd (.load 3 (.v 0 0)) <|
.rd (.load 23 (.v 8 0)) <|
.op (.call 80 [(.v 0 0)]) <|
.chk (.load 3 (.v 3 0)) (.v 2 0) <|
.chk (.fieldAt 23 (.v 10 0) 1) (.v 3 0) <|
.rd (.bin .add 3 (.tmp 29) (.const (.int .i64 1)) (.v 0 0) (.c (.int .i64 1))) <|
.rd (.bin .lss 3 (.tmp 27) (.tmp 30) (.v 3 0) (.v 0 0)) <|
.done 0 [(.v 0 0)]))) <|
.alt 0 (.ite (.v 0 0) (.fin [.tmp 2] [(.c (.int .i64 170))])
 (.fin [.tmp 2] [(.c (.int .i64 0))]))
 (.fail))
 (.fail)
theorem d36 (a0 : Value) : denF Tryz.f36 a36 [a0] = t36.sp 0 (rows [a0]) [] := by kernel_rfl
/-- bollard/geom.Blocks -/
def a37 : Ann := []
def t37 : T :=
.op (.box 23 (.v 0 0)) <|
.op (.load 23 (.v 0 0)) <|
.op (.fieldAt 23 (.v 1 0) 1) <|
.op (.load 3 (.v 0 0)) <|
.op (.call 81 [(.v 2 0), (.v 0 0)]) <|
.fin [.tmp 2] [(.v 0 0)]
theorem d37 (a0 : Value) : denF Tryz.f37 a37 [a0] = t37.sp 0 (rows [a0]) [] := by kernel_rfl
/-- bollard/inode.Get -/
def a42 : Ann := []
def t42 : T :=
.op (.box 23 (.v 1 0)) <|
.op (.alloc 88) <|
.op (.load 23 (.v 1 0)) <|
.op (.call 85 [(.v 3 0), (.v 0 0), (.v 5 0)]) <|
.op (.extract (.v 0 0) 0) <|
.op (.extract (.v 1 0) 1) <|
.op (.extract (.v 2 0) 2) <|
.op (.bin .neq 42 (.tmp 20) (.const (.int .i64 0)) (.v 0 0) (.c (.int .i64 0))) <|
.ite (.v 0 0) (.op (.build 88 []) <|
.op (.store 88 (.v 7 0) (.v 0 0)) <|
.fin [.cell 6 88, .tmp 7] [(.v 8 0), (.v 3 0)])
 (.op (.call 86 [(.v 8 0), (.v 3 0)]) <|
.op (.extract (.v 0 0) 0) <|
.op (.extract (.v 1 0) 1) <|
.op (.bin .neq 42 (.tmp 30) (.const (.int .i64 0)) (.v 0 0) (.c (.int .i64 0))) <|
.ite (.v 0 0) (.op (.build 88 []) <|
.op (.store 88 (.v 11 0) (.v 0 0)) <|
.fin [.cell 6 88, .tmp 7] [(.v 12 0), (.v 3 0)])
 (.op (.bin .add 3 (.tmp 36) (.const (.int .i64 32)) (.v 6 0) (.c (.int .i64 32))) <|
.op (.slice 81 (.v 3 0) (some (.v 7 0)) (some (.v 0 0)) none) <|
.op (.call 87 [(.v 0 0)]) <|
.op (.extract (.v 0 0) 0) <|
.op (.extract (.v 1 0) 1) <|
.op (.store 88 (.v 15 0) (.v 1 0)) <|
.fin [.cell 6 88, .tmp 7] [(.v 16 0), (.v 1 0)]))
theorem d42 (a0 a1 a2 : Value) : denF Tryz.f42 a42 [a0, a1, a2] = t42.sp 0 (rows [a0, a1, a2]) [] := by kernel_rfl
/-- slices.Grow[[]int,int] -/
def a50 : Ann := [(13, [(0, [])]), (59, [(0, [0])])]
def t50 : T :=
.op (.bin .lss 3 (.tmp 5) (.const (.int .i64 0)) (.v 1 0) (.c (.int .i64 0))) <|
.bind (.ite (.v 0 0) (.op (.iface 9 (.c (.string ⟨#[99, 97, 110, 110, 111, 116, 32, 98, 101, 32, 110, 101, 103, 97, 116, 105, 118, 101]⟩))) <|
.op (.panic (.v 0 0)) <|
.done 0 [])
 (.done 0 [])) <|
.alt 0 (.op (.builtin .cap [80] 3 [false] [(.v 2 0)]) <|
.op (.builtin .len [80] 3 [false] [(.v 3 0)]) <|
.op (.bin .sub 3 (.tmp 10) (.tmp 12) (.v 1 0) (.v 0 0)) <|
.op (.bin .sub 3 (.tmp 8) (.tmp 13) (.v 6 0) (.v 0 0)) <|
.op (.bin .gtr 3 (.tmp 15) (.const (.int .i64 0)) (.v 0 0) (.c (.int .i64 0))) <|
.bind (.ite (.v 0 0) (.op (.builtin .cap [80] 3 [false] [(.v 7 0)]) <|
.op (.slice 80 (.v 8 0) none (some (.v 0 0)) none) <|
.op (.builtin .append [80, 3] 80 [false, false] [(.v 0 0), (.v 3 0)]) <|
.op (.builtin .len [80] 3 [false] [(.v 10 0)]) <|
.op (.slice 80 (.v 1 0) none (some (.v 0 0)) none) <|
.done 0 [(.v 0 0)])
 (.done 0 [(.v 7 0)])) <|
.alt 0 (.fin [.tmp 4] [(.v 0 0)])
 (.fail))
 (.fail)
theorem d50 (a0 a1 : Value) : denF Tryz.f50 a50 [a0, a1] = t50.sp 0 (rows [a0, a1]) [] := by kernel_rfl
/-- bollard/geom.Inode -/
def a51 : Ann := []
def t51 : T :=
.op (.box 23 (.v 0 0)) <|
.op (.load 23 (.v 0 0)) <|
.op (.call 90 [(.v 0 0), (.v 3 0)]) <|
.op (.extract (.v 0 0) 0) <|
.op (.extract (.v 1 0) 1) <|
.op (.extract (.v 2 0) 2) <|
.op (.un .not (.v 0 0)) <|
.ite (.v 0 0) (.fin [.tmp 4, .tmp 5, .tmp 6] [(.c (.int .i64 0)), (.c (.int .i64 0)), (.c (.bool false))])
 (.op (.load 23 (.v 6 0)) <|
.op (.bin .quo 3 (.tmp 24) (.const (.int .i64 4)) (.v 3 0) (.c (.int .i64 4))) <|
.op (.bin .add 3 (.const (.int .i64 2)) (.tmp 25) (.c (.int .i64 2)) (.v 0 0)) <|
.op (.call 91 [(.v 2 0), (.v 6 0), (.v 0 0)]) <|
.op (.extract (.v 0 0) 0) <|
.op (.extract (.v 1 0) 1) <|
.op (.bin .rem 3 (.tmp 31) (.const (.int .i64 4)) (.v 8 0) (.c (.int .i64 4))) <|
.op (.bin .mul 3 (.tmp 32) (.const (.int .i64 32)) (.v 0 0) (.c (.int .i64 32))) <|
.fin [.tmp 4, .tmp 5, .tmp 6] [(.v 3 0), (.v 0 0), (.c (.bool true))])
theorem d51 (a0 a1 : Value) : denF Tryz.f51 a51 [a0, a1] = t51.sp 0 (rows [a0, a1]) [] := by kernel_rfl
/-- (*bollard/volume.Volume).held -/
def a52 : Ann := []
def t52 : T :=
.op (.bin .eql 24 (.tmp 3) (.const (.pointer none)) (.v 0 0) (.c (.pointer none))) <|
.ite (.v 0 0) (.fin [.tmp 2] [(.c (.bool false))])
 (.op (.nil (.v 1 0)) <|
.op (.fieldAt 40 (.v 0 0) 0) <|
.op (.call 92 [(.v 0 0)]) <|
.op (.nil (.v 4 0)) <|
.op (.fieldAt 40 (.v 0 0) 1) <|
.op (.load 32 (.v 0 0)) <|
.op (.bin .eql 32 (.tmp 12) (.const (.pointer none)) (.v 0 0) (.c (.pointer none))) <|
.ite (.v 0 0) (.op (.nil (.v 8 0)) <|
.op (.fieldAt 40 (.v 0 0) 0) <|
.op (.call 53 [(.v 0 0)]) <|
.fin [.tmp 2] [(.c (.bool false))])
 (.fin [.tmp 2] [(.c (.bool true))]))
theorem d52 (a0 : Value) : denF Tryz.f52 a52 [a0] = t52.sp 0 (rows [a0]) [] := by kernel_rfl
/-- bollard/bollardref04.Can -/
def a69 : Ann := [(12, [(0, [45])])]
def t69 : T :=
.op (.box 23 (.v 0 0)) <|
.bind (.op (.fieldAt 23 (.v 0 0) 0) <|
.op (.load 3 (.v 0 0)) <|
.op (.bin .lss 3 (.tmp 4) (.const (.int .i64 1)) (.v 0 0) (.c (.int .i64 1))) <|
.ite (.v 0 0) (.done 0 [(.c (.bool true))]) (.op (.fieldAt 23 (.v 3 0) 0) <|
.op (.load 3 (.v 0 0)) <|
.op (.bin .gtr 3 (.tmp 8) (.const (.int .i64 8)) (.v 0 0) (.c (.int .i64 8))) <|
.ite (.v 0 0) (.done 0 [(.c (.bool true))]) (.op (.fieldAt 23 (.v 6 0) 1) <|
.op (.load 3 (.v 0 0)) <|
.op (.bin .lss 3 (.tmp 13) (.const (.int .i64 8)) (.v 0 0) (.c (.int .i64 8))) <|
.ite (.v 0 0) (.done 0 [(.c (.bool true))]) (.op (.fieldAt 23 (.v 9 0) 1) <|
.op (.load 3 (.v 0 0)) <|
.op (.bin .gtr 3 (.tmp 18) (.const (.int .i64 256)) (.v 0 0) (.c (.int .i64 256))) <|
.ite (.v 0 0) (.done 0 [(.c (.bool true))]) (.op (.fieldAt 23 (.v 12 0) 2) <|
.op (.load 3 (.v 0 0)) <|
.op (.bin .lss 3 (.tmp 23) (.const (.int .i64 4)) (.v 0 0) (.c (.int .i64 4))) <|
.ite (.v 0 0) (.done 0 [(.c (.bool true))]) (.op (.fieldAt 23 (.v 15 0) 2) <|
.op (.load 3 (.v 0 0)) <|
.op (.bin .gtr 3 (.tmp 28) (.const (.int .i64 64)) (.v 0 0) (.c (.int .i64 64))) <|
.ite (.v 0 0) (.done 0 [(.c (.bool true))]) (.op (.fieldAt 23 (.v 18 0) 2) <|
.op (.load 3 (.v 0 0)) <|
.op (.bin .rem 3 (.tmp 33) (.const (.int .i64 4)) (.v 0 0) (.c (.int .i64 4))) <|
.op (.bin .neq 3 (.tmp 34) (.const (.int .i64 0)) (.v 0 0) (.c (.int .i64 0))) <|
.ite (.v 0 0) (.done 0 [(.c (.bool true))]) (.op (.fieldAt 23 (.v 22 0) 1) <|
.op (.load 3 (.v 0 0)) <|
.op (.fieldAt 23 (.v 24 0) 2) <|
.op (.load 3 (.v 0 0)) <|
.op (.bin .quo 3 (.tmp 41) (.const (.int .i64 4)) (.v 0 0) (.c (.int .i64 4))) <|
.op (.bin .add 3 (.const (.int .i64 3)) (.tmp 42) (.c (.int .i64 3)) (.v 0 0)) <|
.op (.bin .lss 3 (.tmp 39) (.tmp 43) (.v 4 0) (.v 0 0)) <|
.done 0 [(.v 0 0)])))))))) <|
.alt 0 (.ite (.v 0 0) (.fin [.tmp 2] [(.c (.int .i64 170))])
 (.fin [.tmp 2] [(.c (.int .i64 0))]))
 (.fail)
theorem d69 (a0 : Value) : denF Tryz.f69 a69 [a0] = t69.sp 0 (rows [a0]) [] := by kernel_rfl
/-- bollard/bollardref17.group -/
def a70 : Ann := [(122, [(0, [28]), (2, [])]), (125, [(0, [])]), (1020, [(0, [15]), (4, [15])])]
def t70 : T :=
.op (.box 23 (.v 0 0)) <|
.op (.load 23 (.v 0 0)) <|
.op (.build 213 [(0, (.v 0 0))]) <|
.op (.call 118 [(.v 0 0)]) <|
.op (.extract (.v 0 0) 0) <|
.op (.extract (.v 1 0) 1) <|
.op (.build 217 [(0, (.v 7 0))]) <|
.op (.alloc 217) <|
.op (.store 217 (.v 0 0) (.v 1 0)) <|
.op (.fieldAt 23 (.v 8 0) 2) <|
.op (.load 3 (.v 0 0)) <|
.op (.bin .quo 3 (.tmp 25) (.const (.int .i64 4)) (.v 0 0) (.c (.int .i64 4))) <|
.op (.bin .add 3 (.const (.int .i64 2)) (.tmp 26) (.c (.int .i64 2)) (.v 0 0)) <|
.loop [(.c (.int .i64 0))] (
.op (.bin .lss 3 (.tmp 28) (.tmp 27) (.v 0 0) (.v 1 0)) <|
.ite (.v 0 0) (.op (.fieldAt 217 (.v 7 0) 2) <|
.op (.slice 215 (.v 0 0) none none none) <|
.op (.call 119 [(.v 0 0), (.v 3 0), (.c (.bool true))]) <|
.op (.extract (.v 0 0) 0) <|
.op (.extract (.v 1 0) 1) <|
.op (.fieldAt 217 (.v 12 0) 2) <|
.op (.slice 215 (.v 0 0) none none none) <|
.op (.builtin .copy [81, 81] 3 [false, false] [(.v 0 0), (.v 3 0)]) <|
.op (.bin .add 3 (.tmp 28) (.const (.int .i64 1)) (.v 9 0) (.c (.int .i64 1))) <|
.done 0 [(.v 0 0)])
 (.done 2 [])) <|
.alt 0 (.fail)
 (.alt 2 (.op (.bin .eql 3 (.tmp 43) (.const (.int .i64 0)) (.v 15 0) (.c (.int .i64 0))) <|
.bind (.ite (.v 0 0) (.drew <|
.rd (.fieldAt 217 (.v 7 0) 2) <|
.rd (.slice 215 (.v 0 0) none none none) <|
.rd (.fieldAt 23 (.v 16 0) 2) <|
.rd (.load 3 (.v 0 0)) <|
.rd (.bin .quo 3 (.tmp 49) (.const (.int .i64 4)) (.v 0 0) (.c (.int .i64 4))) <|
.rd (.bin .add 3 (.const (.int .i64 2)) (.tmp 50) (.c (.int .i64 2)) (.v 0 0)) <|
.op (.call 119 [(.v 4 0), (.v 0 0), (.c (.bool true))]) <|
.rd (.extract (.v 0 0) 0) <|
.rd (.extract (.v 1 0) 1) <|
.op (.fieldAt 217 (.v 16 0) 2) <|
.op (.slice 215 (.v 0 0) none none none) <|
.op (.builtin .copy [81, 81] 3 [false, false] [(.v 0 0), (.v 3 0)]) <|
.op (.fieldAt 217 (.v 19 0) 1) <|
.op (.indexAt 214 (.v 0 0) (.c (.int .i64 0))) <|
.op (.store 5 (.v 0 0) (.c (.int .u8 7))) <|
.done 0 [])
 (.done 0 [])) <|
.alt 0 (.op (.load 217 (.v 8 0)) <|
.op (.call 120 [(.v 0 0)]) <|
.op (.extract (.v 0 0) 0) <|
.op (.extract (.v 1 0) 1) <|
.op (.buildSlice 89 2 [(0, (.v 15 0)), (1, (.v 1 0))]) <|
.loop [(.v 0 0)] (
.op (.builtin .len [89] 3 [false] [(.v 0 0)]) <|
.op (.fieldAt 23 (.v 22 0) 1) <|
.op (.load 3 (.v 0 0)) <|
.op (.bin .lss 3 (.tmp 70) (.tmp 72) (.v 2 0) (.v 0 0)) <|
.ite (.v 0 0) (.op (.make 81 (.c (.int .i64 128)) (.c (.int .i64 128))) <|
.op (.buildSlice 89 1 [(0, (.v 0 0))]) <|
.op (.builtin .append [89, 89] 89 [false, false] [(.v 6 0), (.v 0 0)]) <|
.done 0 [(.v 0 0)])
 (.done 4 [(.v 4 0)])) <|
.alt 0 (.fail)
 (.alt 4 (.fin [.tmp 4] [(.v 0 0)])
 (.fail)))
 (.fail))
 (.fail))
theorem d70 (a0 a1 : Value) : denF Tryz.f70 a70 [a0, a1] = t70.sp 0 (rows [a0, a1]) [] := by kernel_rfl
/-- bollard/bollardref03.EncodeDinode -/
def a71 : Ann := [(2042, [(0, [4, 29]), (2, [4])])]
def t71 : T :=
.op (.box 88 (.v 0 0)) <|
.op (.load 88 (.v 0 0)) <|
.op (.call 121 [(.v 0 0)]) <|
.op (.un .not (.v 0 0)) <|
.ite (.v 0 0) (.fin [.tmp 2, .tmp 3] [(.c (.slice none 0 0)), (.c (.int .i64 1))])
 (.op (.make 81 (.c (.int .i64 32)) (.c (.int .i64 32))) <|
.op (.fieldAt 88 (.v 4 0) 0) <|
.op (.load 3 (.v 0 0)) <|
.op (.bin .eql 3 (.tmp 12) (.const (.int .i64 0)) (.v 0 0) (.c (.int .i64 0))) <|
.ite (.v 0 0) (.fin [.tmp 2, .tmp 3] [(.v 3 0), (.c (.int .i64 0))])
 (.op (.fieldAt 88 (.v 7 0) 0) <|
.op (.load 3 (.v 0 0)) <|
.op (.call 122 [(.v 5 0), (.c (.int .i64 0)), (.c (.int .i64 1)), (.v 0 0)]) <|
.op (.fieldAt 88 (.v 10 0) 1) <|
.op (.load 3 (.v 0 0)) <|
.op (.call 122 [(.v 2 0), (.c (.int .i64 2)), (.c (.int .i64 2)), (.v 0 0)]) <|
.op (.fieldAt 88 (.v 13 0) 2) <|
.op (.load 3 (.v 0 0)) <|
.op (.call 122 [(.v 2 0), (.c (.int .i64 4)), (.c (.int .i64 4)), (.v 0 0)]) <|
.op (.fieldAt 88 (.v 16 0) 3) <|
.op (.load 86 (.v 0 0)) <|
.loop [(.v 2 0), (.c (.int .i64 0))] (
.op (.bin .lss 3 (.tmp 29) (.const (.int .i64 4)) (.v 0 1) (.c (.int .i64 4))) <|
.ite (.v 0 0) (.op (.index 86 (.v 2 0) (.v 1 1)) <|
.op (.bin .mul 3 (.const (.int .i64 2)) (.tmp 34) (.c (.int .i64 2)) (.v 2 1)) <|
.op (.bin .add 3 (.const (.int .i64 8)) (.tmp 35) (.c (.int .i64 8)) (.v 0 0)) <|
.op (.call 122 [(.v 4 0), (.v 0 0), (.c (.int .i64 2)), (.v 2 0)]) <|
.op (.bin .add 3 (.tmp 29) (.const (.int .i64 1)) (.v 5 1) (.c (.int .i64 1))) <|
.done 0 [(.v 1 0), (.v 0 0)])
 (.done 2 [(.v 1 0)])) <|
.alt 0 (.fail)
 (.alt 2 (.op (.fieldAt 88 (.v 19 0) 4) <|
.op (.load 3 (.v 0 0)) <|
.op (.call 122 [(.v 2 0), (.c (.int .i64 16)), (.c (.int .i64 2)), (.v 0 0)]) <|
.op (.fieldAt 88 (.v 22 0) 5) <|
.op (.load 3 (.v 0 0)) <|
.op (.call 122 [(.v 2 0), (.c (.int .i64 18)), (.c (.int .i64 2)), (.v 0 0)]) <|
.op (.call 123 [(.v 0 0)]) <|
.op (.extract (.v 0 0) 0) <|
.op (.extract (.v 1 0) 1) <|
.fin [.tmp 2, .tmp 3] [(.v 1 0), (.v 0 0)])
 (.fail))))
theorem d71 (a0 : Value) : denF Tryz.f71 a71 [a0] = t71.sp 0 (rows [a0]) [] := by kernel_rfl
/-- bollard/bollardref12.Encode -/
def a72 : Ann := [(12, [(0, [15])]), (122, [(0, [4, 18]), (1, []), (2, [4])])]
def t72 : T :=
.bind (.op (.builtin .len [51] 3 [false] [(.v 0 0)]) <|
.op (.bin .gtr 3 (.tmp 10) (.const (.int .i64 8)) (.v 0 0) (.c (.int .i64 8))) <|
.ite (.v 0 0) (.done 0 [(.c (.bool true))]) (.op (.call 124 [(.v 2 0)]) <|
.done 0 [(.v 0 0)])) <|
.alt 0 (.ite (.v 0 0) (.fin [.tmp 2, .tmp 3] [(.c (.slice none 0 0)), (.c (.int .i64 1))])
 (.op (.builtin .len [51] 3 [false] [(.v 1 0)]) <|
.loop [(.c (.slice none 0 0)), (.c (.int .i64 0))] (
.op (.bin .lss 3 (.tmp 18) (.tmp 17) (.v 0 1) (.v 1 0)) <|
.ite (.v 0 0) (.op (.indexAt 51 (.v 4 0) (.v 1 1)) <|
.op (.load 48 (.v 0 0)) <|
.op (.alloc 48) <|
.op (.store 48 (.v 0 0) (.v 1 0)) <|
.op (.load 48 (.v 1 0)) <|
.op (.call 125 [(.v 0 0)]) <|
.op (.extract (.v 0 0) 0) <|
.op (.extract (.v 1 0) 1) <|
.op (.bin .neq 42 (.tmp 27) (.const (.int .i64 0)) (.v 0 0) (.c (.int .i64 0))) <|
.ite (.v 0 0) (.done 1 [(.c (.slice none 0 0)), (.c (.int .i64 1))])
 (.op (.builtin .append [81, 81] 81 [false, false] [(.v 10 0), (.v 2 0)]) <|
.op (.bin .add 3 (.tmp 18) (.const (.int .i64 1)) (.v 11 1) (.c (.int .i64 1))) <|
.done 0 [(.v 1 0), (.v 0 0)]))
 (.done 2 [(.v 1 0)])) <|
.alt 0 (.fail)
 (.alt 1 (.finRow [.tmp 2, .tmp 3] 0)
 (.alt 2 (.op (.builtin .len [81] 3 [false] [(.v 0 0)]) <|
.op (.bin .sub 3 (.const (.int .i64 128)) (.tmp 35) (.c (.int .i64 128)) (.v 0 0)) <|
.op (.builtin .append [81, 3] 81 [false, false] [(.v 2 0), (.v 0 0)]) <|
.fin [.tmp 2, .tmp 3] [(.v 0 0), (.c (.int .i64 0))])
 (.fail)))))
 (.fail)
theorem d72 (a0 : Value) : denF Tryz.f72 a72 [a0] = t72.sp 0 (rows [a0]) [] := by kernel_rfl
/-- bollard/disk.Of -/
def a73 : Ann := [(28, [(0, [17])])]
def t73 : T :=
.bind (.op (.builtin .len [89] 3 [false] [(.v 0 0)]) <|
.op (.bin .lss 3 (.tmp 6) (.const (.int .i64 1)) (.v 0 0) (.c (.int .i64 1))) <|
.ite (.v 0 0) (.done 0 [(.c (.bool true))]) (.op (.builtin .len [89] 3 [false] [(.v 2 0)]) <|
.op (.bin .gtr 3 (.tmp 10) (.const (.int .i64 2048)) (.v 0 0) (.c (.int .i64 2048))) <|
.ite (.v 0 0) (.done 0 [(.c (.bool true))]) (.op (.call 127 [(.v 4 0), (.c (.func (.func 126) #[] #[]))]) <|
.done 0 [(.v 0 0)]))) <|
.alt 0 (.ite (.v 0 0) (.fin [.tmp 2, .tmp 3] [(.c (.pointer none)), (.c (.int .i64 1))])
 (.op (.call 128 [(.v 1 0)]) <|
.op (.map 224 none) <|
.op (.build 227 [(0, (.v 1 0)), (2, (.v 0 0))]) <|
.op (.box 227 (.v 0 0)) <|
.fin [.tmp 2, .tmp 3] [(.v 0 0), (.c (.int .i64 0))]))
 (.fail)
theorem d73 (a0 : Value) : denF Tryz.f73 a73 [a0] = t73.sp 0 (rows [a0]) [] := by kernel_rfl
/-- bollard/bollardplain.Image -/
def a74 : Ann := [(58, [(0, [3, 8]), (2, [3])])]
def t74 : T :=
.op (.builtin .len [89] 3 [false] [(.v 0 0)]) <|
.loop [(.c (.slice none 0 0)), (.c (.int .i64 0))] (
.op (.bin .lss 3 (.tmp 8) (.tmp 7) (.v 0 1) (.v 1 0)) <|
.ite (.v 0 0) (.op (.indexAt 89 (.v 3 0) (.v 1 1)) <|
.op (.load 81 (.v 0 0)) <|
.op (.call 129 [(.v 0 0)]) <|
.op (.buildSlice 89 1 [(0, (.v 0 0))]) <|
.op (.builtin .append [89, 89] 89 [false, false] [(.v 5 0), (.v 0 0)]) <|
.op (.bin .add 3 (.tmp 8) (.const (.int .i64 1)) (.v 6 1) (.c (.int .i64 1))) <|
.done 0 [(.v 1 0), (.v 0 0)])
 (.done 2 [(.v 1 0)])) <|
.alt 0 (.fail)
 (.alt 2 (.fin [.tmp 2] [(.v 0 0)])
 (.fail))
theorem d74 (a0 : Value) : denF Tryz.f74 a74 [a0] = t74.sp 0 (rows [a0]) [] := by kernel_rfl
/-- bollard/bollardref02.Of -/
def a75 : Ann := [(12, [(0, [14])]), (122, [(0, [22]), (1, []), (2, [])])]
def t75 : T :=
.bind (.op (.builtin .len [89] 3 [false] [(.v 0 0)]) <|
.op (.bin .lss 3 (.tmp 8) (.const (.int .i64 1)) (.v 0 0) (.c (.int .i64 1))) <|
.ite (.v 0 0) (.done 0 [(.c (.bool true))]) (.op (.builtin .len [89] 3 [false] [(.v 2 0)]) <|
.op (.bin .gtr 3 (.tmp 12) (.const (.int .i64 2048)) (.v 0 0) (.c (.int .i64 2048))) <|
.done 0 [(.v 0 0)])) <|
.alt 0 (.ite (.v 0 0) (.fin [.tmp 2, .tmp 3] [(.c (.pointer none)), (.c (.int .i64 1))])
 (.op (.builtin .len [89] 3 [false] [(.v 1 0)]) <|
.op (.make 80 (.v 0 0) (.v 0 0)) <|
.op (.build 229 [(2, (.v 0 0))]) <|
.op (.box 229 (.v 0 0)) <|
.op (.builtin .len [89] 3 [false] [(.v 5 0)]) <|
.loop [(.c (.int .i64 0))] (
.op (.bin .lss 3 (.tmp 22) (.tmp 21) (.v 0 0) (.v 1 0)) <|
.ite (.v 0 0) (.op (.indexAt 89 (.v 8 0) (.v 1 0)) <|
.op (.load 81 (.v 0 0)) <|
.op (.builtin .len [81] 3 [false] [(.v 0 0)]) <|
.op (.bin .neq 3 (.tmp 27) (.const (.int .i64 128)) (.v 0 0) (.c (.int .i64 128))) <|
.ite (.v 0 0) (.done 1 [(.c (.pointer none)), (.c (.int .i64 1))])
 (.drew <|
.rd (.nil (.v 7 0)) <|
.rd (.fieldAt 229 (.v 0 0) 0) <|
.rd (.load 89 (.v 0 0)) <|
.op (.call 130 [(.v 5 0)]) <|
.chk (.load 89 (.v 2 0)) (.v 1 0) <|
.chk (.fieldAt 229 (.v 3 0) 0) (.v 2 0) <|
.chk (.nil (.v 11 0)) (.v 3 0) <|
.op (.buildSlice 89 1 [(0, (.v 0 0))]) <|
.chk (.load 89 (.v 3 0)) (.v 2 0) <|
.chk (.fieldAt 229 (.v 4 0) 0) (.v 3 0) <|
.chk (.nil (.v 12 0)) (.v 4 0) <|
.op (.builtin .append [89, 89] 89 [false, false] [(.v 2 0), (.v 0 0)]) <|
.rd (.nil (.v 13 0)) <|
.rd (.fieldAt 229 (.v 0 0) 0) <|
.op (.store 89 (.v 0 0) (.v 2 0)) <|
.op (.bin .add 3 (.tmp 22) (.const (.int .i64 1)) (.v 14 0) (.c (.int .i64 1))) <|
.done 0 [(.v 0 0)]))
 (.done 2 [])) <|
.alt 0 (.fail)
 (.alt 1 (.finRow [.tmp 2, .tmp 3] 0)
 (.alt 2 (.fin [.tmp 2, .tmp 3] [(.v 2 0), (.c (.int .i64 0))])
 (.fail)))))
 (.fail)
theorem d75 (a0 : Value) : denF Tryz.f75 a75 [a0] = t75.sp 0 (rows [a0]) [] := by kernel_rfl
/-- bollard/volume.Open -/
def a76 : Ann := []
def t76 : T :=
.op (.call 131 [(.v 0 0), (.v 1 0)]) <|
.op (.extract (.v 0 0) 0) <|
.op (.extract (.v 1 0) 1) <|
.op (.bin .neq 42 (.tmp 14) (.const (.int .i64 0)) (.v 0 0) (.c (.int .i64 0))) <|
.ite (.v 0 0) (.fin [.tmp 4, .tmp 5] [(.c (.pointer none)), (.v 1 0)])
 (.op (.call 132 []) <|
.op (.map 35 none) <|
.op (.build 40 [(1, (.v 6 0)), (2, (.v 4 0)), (3, (.v 1 0)), (4, (.v 0 0))]) <|
.op (.box 40 (.v 0 0)) <|
.fin [.tmp 4, .tmp 5] [(.v 0 0), (.c (.int .i64 0))])
theorem d76 (a0 a1 : Value) : denF Tryz.f76 a76 [a0, a1] = t76.sp 0 (rows [a0, a1]) [] := by kernel_rfl
/-- bollard/bollardref09.Open -/
def a77 : Ann := []
def t77 : T :=
.op (.bin .eql 61 (.tmp 8) (.const (.pointer none)) (.v 0 0) (.c (.pointer none))) <|
.ite (.v 0 0) (.fin [.tmp 4, .tmp 5] [(.c (.pointer none)), (.c (.int .i64 2))])
 (.op (.call 133 [(.v 1 0), (.v 2 0)]) <|
.op (.extract (.v 0 0) 0) <|
.op (.extract (.v 1 0) 1) <|
.op (.bin .neq 42 (.tmp 16) (.const (.int .i64 0)) (.v 0 0) (.c (.int .i64 0))) <|
.ite (.v 0 0) (.fin [.tmp 4, .tmp 5] [(.c (.pointer none)), (.v 1 0)])
 (.op (.build 239 []) <|
.op (.box 239 (.v 0 0)) <|
.op (.build 243 [(0, (.v 7 0)), (1, (.v 4 0)), (2, (.v 0 0))]) <|
.op (.box 243 (.v 0 0)) <|
.fin [.tmp 4, .tmp 5] [(.v 0 0), (.c (.int .i64 0))]))
theorem d77 (a0 a1 : Value) : denF Tryz.f77 a77 [a0, a1] = t77.sp 0 (rows [a0, a1]) [] := by kernel_rfl
/-- (*bollard/disk.Disk).Blocks -/
def a78 : Ann := []
def t78 : T :=
.op (.bin .eql 32 (.tmp 3) (.const (.pointer none)) (.v 0 0) (.c (.pointer none))) <|
.ite (.v 0 0) (.fin [.tmp 2] [(.c (.int .i64 0))])
 (.op (.nil (.v 1 0)) <|
.op (.fieldAt 227 (.v 0 0) 0) <|
.op (.load 89 (.v 0 0)) <|
.op (.builtin .len [89] 3 [false] [(.v 0 0)]) <|
.fin [.tmp 2] [(.v 0 0)])
theorem d78 (a0 : Value) : denF Tryz.f78 a78 [a0] = t78.sp 0 (rows [a0]) [] := by kernel_rfl
/-- bollard/geom.between -/
def a79 : Ann := [(6, [(0, [6])])]
def t79 : T :=
.bind (.op (.bin .geq 3 (.tmp 7) (.tmp 8) (.v 0 0) (.v 1 0)) <|
.ite (.v 0 0) (.op (.bin .leq 3 (.tmp 11) (.tmp 12) (.v 1 0) (.v 3 0)) <|
.done 0 [(.v 0 0)]) (.done 0 [(.c (.bool false))])) <|
.alt 0 (.fin [.tmp 6] [(.v 0 0)])
 (.fail)
theorem d79 (a0 a1 a2 : Value) : denF Tryz.f79 a79 [a0, a1, a2] = t79.sp 0 (rows [a0, a1, a2]) [] := by kernel_rfl
/-- bollard/geom.front -/
def a80 : Ann := []
def t80 : T :=
.op (.box 23 (.v 0 0)) <|
.op (.fieldAt 23 (.v 0 0) 2) <|
.op (.load 3 (.v 0 0)) <|
.op (.bin .quo 3 (.tmp 4) (.const (.int .i64 4)) (.v 0 0) (.c (.int .i64 4))) <|
.op (.bin .add 3 (.const (.int .i64 2)) (.tmp 5) (.c (.int .i64 2)) (.v 0 0)) <|
.fin [.tmp 2] [(.v 0 0)]
theorem d80 (a0 : Value) : denF Tryz.f80 a80 [a0] = t80.sp 0 (rows [a0]) [] := by kernel_rfl
/-- bollard/geom.all -/
def a81 : Ann := []
def t81 : T :=
.op (.box 23 (.v 0 0)) <|
.op (.load 23 (.v 0 0)) <|
.op (.call 36 [(.v 0 0)]) <|
.op (.bin .neq 42 (.tmp 6) (.const (.int .i64 0)) (.v 0 0) (.c (.int .i64 0))) <|
.ite (.v 0 0) (.fin [.tmp 4] [(.c (.int .i64 0))])
 (.op (.fieldAt 23 (.v 3 0) 0) <|
.op (.load 3 (.v 0 0)) <|
.op (.bin .mul 3 (.tmp 9) (.tmp 10) (.v 0 0) (.v 7 0)) <|
.fin [.tmp 4] [(.v 0 0)])
theorem d81 (a0 a1 : Value) : denF Tryz.f81 a81 [a0, a1] = t81.sp 0 (rows [a0, a1]) [] := by kernel_rfl
/-- bollard/inode.place -/
def a85 : Ann := []
def t85 : T :=
.op (.box 23 (.v 1 0)) <|
.op (.load 23 (.v 0 0)) <|
.op (.call 138 [(.v 2 0), (.v 0 0)]) <|
.op (.bin .neq 42 (.tmp 16) (.const (.int .i64 0)) (.v 0 0) (.c (.int .i64 0))) <|
.ite (.v 0 0) (.fin [.tmp 6, .tmp 7, .tmp 8] [(.c (.int .i64 0)), (.c (.int .i64 0)), (.v 1 0)])
 (.op (.load 23 (.v 3 0)) <|
.op (.call 51 [(.v 0 0), (.v 7 0)]) <|
.op (.extract (.v 0 0) 0) <|
.op (.extract (.v 1 0) 1) <|
.op (.extract (.v 2 0) 2) <|
.op (.un .not (.v 0 0)) <|
.ite (.v 0 0) (.fin [.tmp 6, .tmp 7, .tmp 8] [(.c (.int .i64 0)), (.c (.int .i64 0)), (.c (.int .i64 130))])
 (.fin [.tmp 6, .tmp 7, .tmp 8] [(.v 3 0), (.v 2 0), (.c (.int .i64 0))]))
theorem d85 (a0 a1 a2 : Value) : denF Tryz.f85 a85 [a0, a1, a2] = t85.sp 0 (rows [a0, a1, a2]) [] := by kernel_rfl
/-- bollard/geom.Owner -/
def a90 : Ann := []
def t90 : T :=
.op (.box 23 (.v 0 0)) <|
.drew <|
.rd (.fieldAt 23 (.v 0 0) 2) <|
.rd (.load 3 (.v 0 0)) <|
.rd (.load 23 (.v 2 0)) <|
.op (.call 146 [(.v 0 0)]) <|
.chk (.load 3 (.v 3 0)) (.v 2 0) <|
.chk (.fieldAt 23 (.v 4 0) 2) (.v 3 0) <|
.op (.call 145 [(.v 6 0), (.v 2 0), (.v 0 0)]) <|
.rd (.extract (.v 0 0) 0) <|
.rd (.extract (.v 1 0) 1) <|
.rd (.extract (.v 2 0) 2) <|
.fin [.tmp 4, .tmp 5, .tmp 6] [(.v 2 0), (.v 1 0), (.v 0 0)]
theorem d90 (a0 a1 : Value) : denF Tryz.f90 a90 [a0, a1] = t90.sp 0 (rows [a0, a1]) [] := by kernel_rfl
/-- bollard/geom.at -/
def a91 : Ann := [(12, [(0, [18])])]
def t91 : T :=
.op (.box 23 (.v 0 0)) <|
.bind (.op (.load 23 (.v 0 0)) <|
.op (.call 36 [(.v 0 0)]) <|
.op (.bin .neq 42 (.tmp 9) (.const (.int .i64 0)) (.v 0 0) (.c (.int .i64 0))) <|
.ite (.v 0 0) (.done 0 [(.c (.bool true))]) (.op (.fieldAt 23 (.v 3 0) 0) <|
.op (.load 3 (.v 0 0)) <|
.op (.bin .sub 3 (.tmp 14) (.const (.int .i64 1)) (.v 0 0) (.c (.int .i64 1))) <|
.op (.call 79 [(.v 8 0), (.c (.int .i64 0)), (.v 0 0)]) <|
.op (.un .not (.v 0 0)) <|
.done 0 [(.v 0 0)])) <|
.alt 0 (.ite (.v 0 0) (.fin [.tmp 6, .tmp 7] [(.c (.int .i64 0)), (.c (.bool false))])
 (.op (.fieldAt 23 (.v 1 0) 1) <|
.op (.load 3 (.v 0 0)) <|
.op (.bin .mul 3 (.tmp 19) (.tmp 21) (.v 5 0) (.v 0 0)) <|
.op (.bin .add 3 (.tmp 22) (.tmp 23) (.v 0 0) (.v 7 0)) <|
.fin [.tmp 6, .tmp 7] [(.v 0 0), (.c (.bool true))]))
 (.fail)
theorem d91 (a0 a1 a2 : Value) : denF Tryz.f91 a91 [a0, a1, a2] = t91.sp 0 (rows [a0, a1, a2]) [] := by kernel_rfl
/-- bollard/bollardref03.EncodeSuper -/
def a118 : Ann := [(12, [(0, [18])])]
def t118 : T :=
.op (.box 213 (.v 0 0)) <|
.bind (.op (.fieldAt 213 (.v 0 0) 0) <|
.op (.load 23 (.v 0 0)) <|
.op (.call 170 [(.v 0 0)]) <|
.op (.un .not (.v 0 0)) <|
.ite (.v 0 0) (.done 0 [(.c (.bool true))]) (.op (.fieldAt 213 (.v 4 0) 1) <|
.op (.load 3 (.v 0 0)) <|
.op (.bin .lss 3 (.tmp 11) (.const (.int .i64 0)) (.v 0 0) (.c (.int .i64 0))) <|
.ite (.v 0 0) (.done 0 [(.c (.bool true))]) (.op (.fieldAt 213 (.v 7 0) 1) <|
.op (.load 3 (.v 0 0)) <|
.op (.bin .geq 3 (.tmp 16) (.const (.int .i64 4294967296)) (.v 0 0) (.c (.int .i64 4294967296))) <|
.done 0 [(.v 0 0)]))) <|
.alt 0 (.ite (.v 0 0) (.fin [.tmp 2, .tmp 3] [(.c (.slice none 0 0)), (.c (.int .i64 1))])
 (.op (.buildSlice 81 4 [(0, (.c (.int .u8 98))), (1, (.c (.int .u8 111))), (2, (.c (.int .u8 108))), (3, (.c (.int .u8 108)))]) <|
.op (.conv 81 81 (.v 0 0)) <|
.op (.builtin .append [81, 3] 81 [false, true] [(.v 0 0), (.c (.int .i64 124))]) <|
.op (.fieldAt 213 (.v 4 0) 0) <|
.op (.fieldAt 23 (.v 0 0) 0) <|
.op (.load 3 (.v 0 0)) <|
.op (.call 122 [(.v 3 0), (.c (.int .i64 4)), (.c (.int .i64 1)), (.v 0 0)]) <|
.op (.fieldAt 213 (.v 8 0) 0) <|
.op (.fieldAt 23 (.v 0 0) 1) <|
.op (.load 3 (.v 0 0)) <|
.op (.bin .sub 3 (.tmp 30) (.const (.int .i64 1)) (.v 0 0) (.c (.int .i64 1))) <|
.op (.call 122 [(.v 4 0), (.c (.int .i64 5)), (.c (.int .i64 1)), (.v 0 0)]) <|
.op (.fieldAt 213 (.v 13 0) 0) <|
.op (.fieldAt 23 (.v 0 0) 2) <|
.op (.load 3 (.v 0 0)) <|
.op (.call 122 [(.v 3 0), (.c (.int .i64 6)), (.c (.int .i64 1)), (.v 0 0)]) <|
.op (.fieldAt 213 (.v 17 0) 1) <|
.op (.load 3 (.v 0 0)) <|
.op (.call 122 [(.v 2 0), (.c (.int .i64 8)), (.c (.int .i64 4)), (.v 0 0)]) <|
.op (.call 123 [(.v 0 0)]) <|
.op (.extract (.v 0 0) 0) <|
.op (.extract (.v 1 0) 1) <|
.fin [.tmp 2, .tmp 3] [(.v 1 0), (.v 0 0)]))
 (.fail)
theorem d118 (a0 : Value) : denF Tryz.f118 a118 [a0] = t118.sp 0 (rows [a0]) [] := by kernel_rfl
/-- bollard/bollardref05.With -/
def a119 : Ann := [(12, [(0, [17])]), (61, [(0, [])])]
def t119 : T :=
.bind (.op (.bin .lss 3 (.tmp 9) (.const (.int .i64 0)) (.v 1 0) (.c (.int .i64 0))) <|
.ite (.v 0 0) (.done 0 [(.c (.bool true))]) (.op (.bin .quo 3 (.tmp 12) (.const (.int .i64 8)) (.v 2 0) (.c (.int .i64 8))) <|
.op (.builtin .len [81] 3 [false] [(.v 2 0)]) <|
.op (.bin .geq 3 (.tmp 13) (.tmp 15) (.v 1 0) (.v 0 0)) <|
.done 0 [(.v 0 0)])) <|
.alt 0 (.ite (.v 0 0) (.fin [.tmp 6, .tmp 7] [(.c (.slice none 0 0)), (.c (.int .i64 50))])
 (.op (.buildSlice 81 0 []) <|
.op (.builtin .append [81, 81] 81 [false, false] [(.v 0 0), (.v 2 0)]) <|
.op (.call 171 [(.v 3 0), (.v 4 0)]) <|
.op (.bin .neq 4 (.tmp 23) (.tmp 24) (.v 0 0) (.v 6 0)) <|
.bind (.ite (.v 0 0) (.drew <|
.rd (.bin .quo 3 (.tmp 27) (.const (.int .i64 8)) (.v 6 0) (.c (.int .i64 8))) <|
.rd (.bin .quo 3 (.tmp 30) (.const (.int .i64 8)) (.v 7 0) (.c (.int .i64 8))) <|
.rd (.indexAt 81 (.v 4 0) (.v 0 0)) <|
.rd (.load 5 (.v 0 0)) <|
.rd (.bin .rem 3 (.tmp 34) (.const (.int .i64 8)) (.v 10 0) (.c (.int .i64 8))) <|
.rd (.bin .shl 5 (.const (.int .u8 1)) (.tmp 35) (.c (.int .u8 1)) (.v 0 0)) <|
.rd (.bin .xor 5 (.tmp 33) (.tmp 36) (.v 2 0) (.v 0 0)) <|
.rd (.indexAt 81 (.v 9 0) (.v 6 0)) <|
.op (.store 5 (.v 0 0) (.v 1 0)) <|
.done 0 [])
 (.done 0 [])) <|
.alt 0 (.fin [.tmp 6, .tmp 7] [(.v 3 0), (.c (.int .i64 0))])
 (.fail)))
 (.fail)
theorem d119 (a0 a1 a2 : Value) : denF Tryz.f119 a119 [a0, a1, a2] = t119.sp 0 (rows [a0, a1, a2]) [] := by kernel_rfl
/-- bollard/bollardref03.EncodeGroup -/
def a120 : Ann := [(12, [(0, [12])])]
def t120 : T :=
.op (.box 217 (.v 0 0)) <|
.bind (.op (.fieldAt 217 (.v 0 0) 0) <|
.op (.load 3 (.v 0 0)) <|
.op (.bin .lss 3 (.tmp 6) (.const (.int .i64 0)) (.v 0 0) (.c (.int .i64 0))) <|
.ite (.v 0 0) (.done 0 [(.c (.bool true))]) (.op (.fieldAt 217 (.v 3 0) 0) <|
.op (.load 3 (.v 0 0)) <|
.op (.bin .gtr 3 (.tmp 10) (.const (.int .i64 7)) (.v 0 0) (.c (.int .i64 7))) <|
.done 0 [(.v 0 0)])) <|
.alt 0 (.ite (.v 0 0) (.fin [.tmp 2, .tmp 3] [(.c (.slice none 0 0)), (.c (.int .i64 1))])
 (.op (.buildSlice 81 2 [(0, (.c (.int .u8 104))), (1, (.c (.int .u8 100)))]) <|
.op (.conv 81 81 (.v 0 0)) <|
.op (.fieldAt 217 (.v 3 0) 0) <|
.op (.load 3 (.v 0 0)) <|
.op (.conv 3 5 (.v 0 0)) <|
.op (.buildSlice 81 2 [(0, (.v 0 0)), (1, (.c (.int .u8 0)))]) <|
.op (.builtin .append [81, 81] 81 [false, false] [(.v 4 0), (.v 0 0)]) <|
.drew <|
.rd (.fieldAt 217 (.v 8 0) 1) <|
.rd (.slice 214 (.v 0 0) none none none) <|
.rd (.fieldAt 217 (.v 10 0) 2) <|
.rd (.slice 215 (.v 0 0) none none none) <|
.op (.builtin .append [81, 81] 81 [false, false] [(.v 4 0), (.v 2 0)]) <|
.chk (.slice 215 (.v 2 0) none none none) (.v 1 0) <|
.chk (.fieldAt 217 (.v 13 0) 2) (.v 2 0) <|
.op (.builtin .append [81, 81] 81 [false, false] [(.v 0 0), (.v 1 0)]) <|
.op (.builtin .append [81, 3] 81 [false, true] [(.v 0 0), (.c (.int .i64 84))]) <|
.fin [.tmp 2, .tmp 3] [(.v 0 0), (.c (.int .i64 0))]))
 (.fail)
theorem d120 (a0 : Value) : denF Tryz.f120 a120 [a0] = t120.sp 0 (rows [a0]) [] := by kernel_rfl
/-- bollard/bollardref03.mayDinode -/
def a121 : Ann := [(28, [(0, [38])]), (122, [(0, [41]), (1, []), (2, [])]), (62, [(0, [2])])]
def t121 : T :=
.op (.box 88 (.v 0 0)) <|
.op (.fieldAt 88 (.v 0 0) 0) <|
.op (.load 3 (.v 0 0)) <|
.op (.bin .eql 3 (.tmp 6) (.const (.int .i64 0)) (.v 0 0) (.c (.int .i64 0))) <|
.ite (.v 0 0) (.op (.load 88 (.v 3 0)) <|
.op (.build 88 []) <|
.op (.bin .eql 88 (.tmp 8) (.tmp 9) (.v 1 0) (.v 0 0)) <|
.fin [.tmp 2] [(.v 0 0)])
 (.bind (.op (.fieldAt 88 (.v 3 0) 0) <|
.op (.load 3 (.v 0 0)) <|
.op (.bin .neq 3 (.tmp 12) (.const (.int .i64 1)) (.v 0 0) (.c (.int .i64 1))) <|
.ite (.v 0 0) (.op (.fieldAt 88 (.v 6 0) 0) <|
.op (.load 3 (.v 0 0)) <|
.op (.bin .neq 3 (.tmp 16) (.const (.int .i64 2)) (.v 0 0) (.c (.int .i64 2))) <|
.ite (.v 0 0) (.done 0 [(.c (.bool true))]) (.op (.fieldAt 88 (.v 9 0) 1) <|
.op (.load 3 (.v 0 0)) <|
.op (.bin .lss 3 (.tmp 21) (.const (.int .i64 0)) (.v 0 0) (.c (.int .i64 0))) <|
.ite (.v 0 0) (.done 0 [(.c (.bool true))]) (.op (.fieldAt 88 (.v 12 0) 1) <|
.op (.load 3 (.v 0 0)) <|
.op (.bin .gtr 3 (.tmp 26) (.const (.int .i64 1000)) (.v 0 0) (.c (.int .i64 1000))) <|
.ite (.v 0 0) (.done 0 [(.c (.bool true))]) (.op (.fieldAt 88 (.v 15 0) 2) <|
.op (.load 3 (.v 0 0)) <|
.op (.bin .lss 3 (.tmp 31) (.const (.int .i64 0)) (.v 0 0) (.c (.int .i64 0))) <|
.ite (.v 0 0) (.done 0 [(.c (.bool true))]) (.op (.fieldAt 88 (.v 18 0) 2) <|
.op (.load 3 (.v 0 0)) <|
.op (.bin .gtr 3 (.tmp 36) (.const (.int .i64 532992)) (.v 0 0) (.c (.int .i64 532992))) <|
.done 0 [(.v 0 0)]))))) (.op (.fieldAt 88 (.v 6 0) 1) <|
.op (.load 3 (.v 0 0)) <|
.op (.bin .lss 3 (.tmp 21) (.const (.int .i64 0)) (.v 0 0) (.c (.int .i64 0))) <|
.ite (.v 0 0) (.done 0 [(.c (.bool true))]) (.op (.fieldAt 88 (.v 9 0) 1) <|
.op (.load 3 (.v 0 0)) <|
.op (.bin .gtr 3 (.tmp 26) (.const (.int .i64 1000)) (.v 0 0) (.c (.int .i64 1000))) <|
.ite (.v 0 0) (.done 0 [(.c (.bool true))]) (.op (.fieldAt 88 (.v 12 0) 2) <|
.op (.load 3 (.v 0 0)) <|
.op (.bin .lss 3 (.tmp 31) (.const (.int .i64 0)) (.v 0 0) (.c (.int .i64 0))) <|
.ite (.v 0 0) (.done 0 [(.c (.bool true))]) (.op (.fieldAt 88 (.v 15 0) 2) <|
.op (.load 3 (.v 0 0)) <|
.op (.bin .gtr 3 (.tmp 36) (.const (.int .i64 532992)) (.v 0 0) (.c (.int .i64 532992))) <|
.done 0 [(.v 0 0)]))))) <|
.alt 0 (.ite (.v 0 0) (.fin [.tmp 2] [(.c (.bool false))])
 (.op (.fieldAt 88 (.v 4 0) 3) <|
.op (.load 86 (.v 0 0)) <|
.loop [(.c (.int .i64 0))] (
.op (.bin .lss 3 (.tmp 41) (.const (.int .i64 4)) (.v 0 0) (.c (.int .i64 4))) <|
.ite (.v 0 0) (.op (.index 86 (.v 2 0) (.v 1 0)) <|
.op (.call 172 [(.v 0 0)]) <|
.op (.un .not (.v 0 0)) <|
.ite (.v 0 0) (.done 1 [(.c (.bool false))])
 (.op (.bin .add 3 (.tmp 41) (.const (.int .i64 1)) (.v 4 0) (.c (.int .i64 1))) <|
.done 0 [(.v 0 0)]))
 (.done 2 [])) <|
.alt 0 (.fail)
 (.alt 1 (.finRow [.tmp 2] 0)
 (.alt 2 (.bind (.op (.fieldAt 88 (.v 7 0) 4) <|
.op (.load 3 (.v 0 0)) <|
.op (.call 172 [(.v 0 0)]) <|
.ite (.v 0 0) (.op (.fieldAt 88 (.v 10 0) 5) <|
.op (.load 3 (.v 0 0)) <|
.op (.call 172 [(.v 0 0)]) <|
.ite (.v 0 0) (.op (.fieldAt 88 (.v 13 0) 0) <|
.op (.load 3 (.v 0 0)) <|
.op (.bin .neq 3 (.tmp 58) (.const (.int .i64 2)) (.v 0 0) (.c (.int .i64 2))) <|
.ite (.v 0 0) (.done 0 [(.c (.bool true))]) (.op (.fieldAt 88 (.v 16 0) 2) <|
.op (.load 3 (.v 0 0)) <|
.op (.bin .rem 3 (.tmp 62) (.const (.int .i64 128)) (.v 0 0) (.c (.int .i64 128))) <|
.op (.bin .eql 3 (.tmp 63) (.const (.int .i64 0)) (.v 0 0) (.c (.int .i64 0))) <|
.done 0 [(.v 0 0)])) (.done 0 [(.c (.bool false))])) (.done 0 [(.c (.bool false))])) <|
.alt 0 (.fin [.tmp 2] [(.v 0 0)])
 (.fail))
 (.fail)))))
 (.fail))
theorem d121 (a0 : Value) : denF Tryz.f121 a121 [a0] = t121.sp 0 (rows [a0]) [] := by kernel_rfl
/-- bollard/bollardref03.number -/
def a122 : Ann := []
def t122 : T :=
.op (.call 173 [(.v 0 0), (.v 1 0), (.v 2 0), (.v 3 0)]) <|
.op (.extract (.v 0 0) 0) <|
.op (.extract (.v 1 0) 1) <|
.fin [.tmp 8] [(.v 1 0)]
theorem d122 (a0 a1 a2 a3 : Value) : denF Tryz.f122 a122 [a0, a1, a2, a3] = t122.sp 0 (rows [a0, a1, a2, a3]) [] := by kernel_rfl
/-- bollard/bollardref01.Seal -/
def a123 : Ann := []
def t123 : T :=
.op (.builtin .len [81] 3 [false] [(.v 0 0)]) <|
.op (.bin .lss 3 (.tmp 5) (.const (.int .i64 4)) (.v 0 0) (.c (.int .i64 4))) <|
.ite (.v 0 0) (.fin [.tmp 2, .tmp 3] [(.c (.slice none 0 0)), (.c (.int .i64 10))])
 (.op (.builtin .len [81] 3 [false] [(.v 2 0)]) <|
.op (.bin .sub 3 (.tmp 9) (.const (.int .i64 4)) (.v 0 0) (.c (.int .i64 4))) <|
.op (.builtin .len [81] 3 [false] [(.v 4 0)]) <|
.op (.bin .sub 3 (.tmp 13) (.const (.int .i64 4)) (.v 0 0) (.c (.int .i64 4))) <|
.op (.slice 81 (.v 6 0) none (some (.v 0 0)) none) <|
.op (.call 174 [(.v 0 0)]) <|
.op (.call 173 [(.v 8 0), (.v 4 0), (.c (.int .i64 4)), (.v 0 0)]) <|
.op (.extract (.v 0 0) 0) <|
.op (.extract (.v 1 0) 1) <|
.fin [.tmp 2, .tmp 3] [(.v 1 0), (.v 0 0)])
theorem d123 (a0 : Value) : denF Tryz.f123 a123 [a0] = t123.sp 0 (rows [a0]) [] := by kernel_rfl
/-- bollard/bollardref12.clash -/
def a124 : Ann := [(26, [(0, [9]), (1, []), (2, [])]), (6758, [(0, [18]), (1, []), (4, [])]), (865074, [(0, [36])])]
def t124 : T :=
.op (.builtin .len [51] 3 [false] [(.v 0 0)]) <|
.loop [(.c (.int .i64 0))] (
.op (.bin .lss 3 (.tmp 9) (.tmp 8) (.v 0 0) (.v 1 0)) <|
.ite (.v 0 0) (.op (.indexAt 51 (.v 3 0) (.v 1 0)) <|
.op (.load 48 (.v 0 0)) <|
.op (.alloc 48) <|
.op (.store 48 (.v 0 0) (.v 1 0)) <|
.op (.slice 51 (.v 7 0) none (some (.v 5 0)) none) <|
.op (.builtin .len [51] 3 [false] [(.v 0 0)]) <|
.loop [(.c (.int .i64 0))] (
.op (.bin .lss 3 (.tmp 18) (.tmp 17) (.v 0 0) (.v 1 0)) <|
.ite (.v 0 0) (.op (.indexAt 51 (.v 3 0) (.v 1 0)) <|
.op (.load 48 (.v 0 0)) <|
.op (.alloc 48) <|
.op (.store 48 (.v 0 0) (.v 1 0)) <|
.bind (.op (.fieldAt 48 (.v 9 0) 0) <|
.op (.load 3 (.v 0 0)) <|
.op (.bin .neq 3 (.tmp 23) (.const (.int .i64 0)) (.v 0 0) (.c (.int .i64 0))) <|
.ite (.v 0 0) (.op (.fieldAt 48 (.v 4 0) 0) <|
.op (.load 3 (.v 0 0)) <|
.op (.bin .neq 3 (.tmp 27) (.const (.int .i64 0)) (.v 0 0) (.c (.int .i64 0))) <|
.ite (.v 0 0) (.op (.fieldAt 48 (.v 15 0) 1) <|
.op (.load 9 (.v 0 0)) <|
.op (.fieldAt 48 (.v 9 0) 1) <|
.op (.load 9 (.v 0 0)) <|
.op (.bin .eql 9 (.tmp 32) (.tmp 34) (.v 2 0) (.v 0 0)) <|
.done 0 [(.v 0 0)]) (.done 0 [(.c (.bool false))])) (.done 0 [(.c (.bool false))])) <|
.alt 0 (.ite (.v 0 0) (.done 1 [(.c (.bool true))])
 (.op (.bin .add 3 (.tmp 18) (.const (.int .i64 1)) (.v 6 0) (.c (.int .i64 1))) <|
.done 0 [(.v 0 0)]))
 (.fail))
 (.done 4 [])) <|
.alt 0 (.fail)
 (.alt 1 (.doneRow 1 0)
 (.alt 4 (.op (.bin .add 3 (.tmp 9) (.const (.int .i64 1)) (.v 8 0) (.c (.int .i64 1))) <|
.done 0 [(.v 0 0)])
 (.fail))))
 (.done 2 [])) <|
.alt 0 (.fail)
 (.alt 1 (.finRow [.tmp 2] 0)
 (.alt 2 (.fin [.tmp 2] [(.c (.bool false))])
 (.fail)))
theorem d124 (a0 : Value) : denF Tryz.f124 a124 [a0] = t124.sp 0 (rows [a0]) [] := by kernel_rfl
/-- bollard/bollardref03.EncodeEntry -/
def a125 : Ann := [(60, [(0, [33])])]
def t125 : T :=
.op (.box 48 (.v 0 0)) <|
.op (.make 81 (.c (.int .i64 16)) (.c (.int .i64 16))) <|
.op (.load 48 (.v 1 0)) <|
.op (.build 48 []) <|
.op (.bin .eql 48 (.tmp 6) (.tmp 7) (.v 1 0) (.v 0 0)) <|
.ite (.v 0 0) (.fin [.tmp 2, .tmp 3] [(.v 3 0), (.c (.int .i64 0))])
 (.bind (.op (.fieldAt 48 (.v 4 0) 0) <|
.op (.load 3 (.v 0 0)) <|
.op (.bin .lss 3 (.tmp 11) (.const (.int .i64 1)) (.v 0 0) (.c (.int .i64 1))) <|
.ite (.v 0 0) (.done 0 [(.c (.bool true))]) (.op (.fieldAt 48 (.v 7 0) 0) <|
.op (.load 3 (.v 0 0)) <|
.op (.bin .gtr 3 (.tmp 15) (.const (.int .i64 511)) (.v 0 0) (.c (.int .i64 511))) <|
.ite (.v 0 0) (.done 0 [(.c (.bool true))]) (.op (.fieldAt 48 (.v 10 0) 1) <|
.op (.load 9 (.v 0 0)) <|
.op (.call 175 [(.v 0 0)]) <|
.op (.un .not (.v 0 0)) <|
.ite (.v 0 0) (.op (.fieldAt 48 (.v 14 0) 1) <|
.op (.load 9 (.v 0 0)) <|
.op (.bin .neq 9 (.tmp 25) (.const (.string ⟨#[46]⟩)) (.v 0 0) (.c (.string ⟨#[46]⟩))) <|
.ite (.v 0 0) (.op (.fieldAt 48 (.v 17 0) 1) <|
.op (.load 9 (.v 0 0)) <|
.op (.bin .neq 9 (.tmp 30) (.const (.string ⟨#[46, 46]⟩)) (.v 0 0) (.c (.string ⟨#[46, 46]⟩))) <|
.done 0 [(.v 0 0)]) (.done 0 [(.c (.bool false))])) (.done 0 [(.c (.bool false))])))) <|
.alt 0 (.ite (.v 0 0) (.fin [.tmp 2, .tmp 3] [(.c (.slice none 0 0)), (.c (.int .i64 1))])
 (.op (.fieldAt 48 (.v 5 0) 0) <|
.op (.load 3 (.v 0 0)) <|
.op (.call 122 [(.v 6 0), (.c (.int .i64 0)), (.c (.int .i64 2)), (.v 0 0)]) <|
.op (.fieldAt 48 (.v 8 0) 1) <|
.op (.load 9 (.v 0 0)) <|
.op (.builtin .len [9] 3 [false] [(.v 0 0)]) <|
.op (.call 122 [(.v 3 0), (.c (.int .i64 2)), (.c (.int .i64 1)), (.v 0 0)]) <|
.drew <|
.rd (.slice 81 (.v 0 0) (some (.c (.int .i64 3))) none none) <|
.rd (.fieldAt 48 (.v 13 0) 1) <|
.rd (.load 9 (.v 0 0)) <|
.op (.builtin .copy [81, 9] 3 [false, false] [(.v 2 0), (.v 0 0)]) <|
.fin [.tmp 2, .tmp 3] [(.v 4 0), (.c (.int .i64 0))]))
 (.fail))
theorem d125 (a0 : Value) : denF Tryz.f125 a125 [a0] = t125.sp 0 (rows [a0]) [] := by kernel_rfl
/-- bollard/disk.Of$1 -/
def a126 : Ann := []
def t126 : T :=
.op (.builtin .len [81] 3 [false] [(.v 0 0)]) <|
.op (.bin .neq 3 (.tmp 4) (.const (.int .i64 128)) (.v 0 0) (.c (.int .i64 128))) <|
.fin [.tmp 2] [(.v 0 0)]
theorem d126 (a0 : Value) : denF Tryz.f126 a126 [a0] = t126.sp 0 (rows [a0]) [] := by kernel_rfl
/-- slices.ContainsFunc[[][]byte,[]byte] -/
def a127 : Ann := []
def t127 : T :=
.op (.call 176 [(.v 0 0), (.v 1 0)]) <|
.op (.bin .geq 3 (.tmp 7) (.const (.int .i64 0)) (.v 0 0) (.c (.int .i64 0))) <|
.fin [.tmp 4] [(.v 0 0)]
theorem d127 (a0 a1 : Value) : denF Tryz.f127 a127 [a0, a1] = t127.sp 0 (rows [a0, a1]) [] := by kernel_rfl
/-- bollard/disk.image -/
def a128 : Ann := [(58, [(0, [3, 8]), (2, [3])])]
def t128 : T :=
.op (.builtin .len [89] 3 [false] [(.v 0 0)]) <|
.loop [(.c (.slice none 0 0)), (.c (.int .i64 0))] (
.op (.bin .lss 3 (.tmp 8) (.tmp 7) (.v 0 1) (.v 1 0)) <|
.ite (.v 0 0) (.op (.indexAt 89 (.v 3 0) (.v 1 1)) <|
.op (.load 81 (.v 0 0)) <|
.op (.call 129 [(.v 0 0)]) <|
.op (.buildSlice 89 1 [(0, (.v 0 0))]) <|
.op (.builtin .append [89, 89] 89 [false, false] [(.v 5 0), (.v 0 0)]) <|
.op (.bin .add 3 (.tmp 8) (.const (.int .i64 1)) (.v 6 1) (.c (.int .i64 1))) <|
.done 0 [(.v 1 0), (.v 0 0)])
 (.done 2 [(.v 1 0)])) <|
.alt 0 (.fail)
 (.alt 2 (.fin [.tmp 2] [(.v 0 0)])
 (.fail))
theorem d128 (a0 : Value) : denF Tryz.f128 a128 [a0] = t128.sp 0 (rows [a0]) [] := by kernel_rfl
/-- bytes.Clone -/
def a129 : Ann := []
def t129 : T :=
.op (.bin .eql 81 (.tmp 3) (.const (.slice none 0 0)) (.v 0 0) (.c (.slice none 0 0))) <|
.ite (.v 0 0) (.fin [.tmp 2] [(.c (.slice none 0 0))])
 (.op (.buildSlice 81 0 []) <|
.op (.builtin .append [81, 81] 81 [false, false] [(.v 0 0), (.v 2 0)]) <|
.fin [.tmp 2] [(.v 0 0)])
theorem d129 (a0 : Value) : denF Tryz.f129 a129 [a0] = t129.sp 0 (rows [a0]) [] := by kernel_rfl
/-- bollard/bollardref02.copied -/
def a130 : Ann := []
def t130 : T :=
.op (.buildSlice 81 0 []) <|
.op (.builtin .append [81, 81] 81 [false, false] [(.v 0 0), (.v 1 0)]) <|
.fin [.tmp 2] [(.v 0 0)]
theorem d130 (a0 : Value) : denF Tryz.f130 a130 [a0] = t130.sp 0 (rows [a0]) [] := by kernel_rfl
/-- bollard/cache.New -/
def a131 : Ann := [(28, [(0, [14])])]
def t131 : T :=
.op (.call 78 [(.v 0 0)]) <|
.op (.bin .eql 3 (.tmp 7) (.const (.int .i64 0)) (.v 0 0) (.c (.int .i64 0))) <|
.ite (.v 0 0) (.fin [.tmp 4, .tmp 5] [(.c (.pointer none)), (.c (.int .i64 2))])
 (.bind (.op (.bin .lss 3 (.tmp 9) (.const (.int .i64 1)) (.v 3 0) (.c (.int .i64 1))) <|
.ite (.v 0 0) (.done 0 [(.c (.bool true))]) (.op (.bin .gtr 3 (.tmp 12) (.const (.int .i64 64)) (.v 4 0) (.c (.int .i64 64))) <|
.done 0 [(.v 0 0)])) <|
.alt 0 (.ite (.v 0 0) (.fin [.tmp 4, .tmp 5] [(.c (.pointer none)), (.c (.int .i64 1))])
 (.op (.map 288 none) <|
.op (.build 290 [(0, (.v 4 0)), (1, (.v 5 0)), (2, (.v 0 0))]) <|
.op (.box 290 (.v 0 0)) <|
.fin [.tmp 4, .tmp 5] [(.v 0 0), (.c (.int .i64 0))]))
 (.fail))
theorem d131 (a0 a1 : Value) : denF Tryz.f131 a131 [a0, a1] = t131.sp 0 (rows [a0, a1]) [] := by kernel_rfl
/-- bollard/patch.New -/
def a132 : Ann := []
def t132 : T :=
.op (.map 187 none) <|
.op (.map 188 none) <|
.op (.build 190 [(1, (.v 1 0)), (2, (.v 0 0)), (3, (.c (.bool true)))]) <|
.op (.box 190 (.v 0 0)) <|
.fin [.tmp 0] [(.v 0 0)]
theorem d132 : denF Tryz.f132 a132 [] = t132.sp 0 (rows []) [] := by kernel_rfl
/-- bollard/bollardref06.New -/
def a133 : Ann := [(28, [(0, [13])])]
def t133 : T :=
.op (.bin .eql 61 (.tmp 6) (.const (.pointer none)) (.v 0 0) (.c (.pointer none))) <|
.ite (.v 0 0) (.fin [.tmp 4, .tmp 5] [(.c (.pointer none)), (.c (.int .i64 2))])
 (.bind (.op (.bin .lss 3 (.tmp 8) (.const (.int .i64 1)) (.v 2 0) (.c (.int .i64 1))) <|
.ite (.v 0 0) (.done 0 [(.c (.bool true))]) (.op (.bin .gtr 3 (.tmp 11) (.const (.int .i64 64)) (.v 3 0) (.c (.int .i64 64))) <|
.done 0 [(.v 0 0)])) <|
.alt 0 (.ite (.v 0 0) (.fin [.tmp 4, .tmp 5] [(.c (.pointer none)), (.c (.int .i64 1))])
 (.op (.build 293 [(0, (.v 2 0)), (1, (.v 3 0))]) <|
.op (.box 293 (.v 0 0)) <|
.fin [.tmp 4, .tmp 5] [(.v 0 0), (.c (.int .i64 0))]))
 (.fail))
theorem d133 (a0 a1 : Value) : denF Tryz.f133 a133 [a0, a1] = t133.sp 0 (rows [a0, a1]) [] := by kernel_rfl
/-- bollard/inode.fine -/
def a138 : Ann := [(28, [(0, [17])])]
def t138 : T :=
.op (.box 23 (.v 1 0)) <|
.op (.call 35 [(.v 1 0)]) <|
.op (.bin .eql 3 (.tmp 6) (.const (.int .i64 0)) (.v 0 0) (.c (.int .i64 0))) <|
.ite (.v 0 0) (.fin [.tmp 4] [(.c (.int .i64 2))])
 (.bind (.drew <|
.rd (.load 23 (.v 2 0)) <|
.op (.call 36 [(.v 0 0)]) <|
.rd (.bin .neq 42 (.tmp 9) (.const (.int .i64 0)) (.v 0 0) (.c (.int .i64 0))) <|
.ite (.v 0 0) (.done 0 [(.c (.bool true))]) (.rd (.load 23 (.v 5 0)) <|
.op (.call 35 [(.v 7 0)]) <|
.chk (.load 23 (.v 7 0)) (.v 1 0) <|
.op (.call 37 [(.v 1 0)]) <|
.rd (.bin .lss 3 (.tmp 13) (.tmp 15) (.v 1 0) (.v 0 0)) <|
.done 0 [(.v 0 0)])) <|
.alt 0 (.ite (.v 0 0) (.fin [.tmp 4] [(.c (.int .i64 170))])
 (.fin [.tmp 4] [(.c (.int .i64 0))]))
 (.fail))
theorem d138 (a0 a1 : Value) : denF Tryz.f138 a138 [a0, a1] = t138.sp 0 (rows [a0, a1]) [] := by kernel_rfl
/-- bollard/geom.split -/
def a145 : Ann := []
def t145 : T :=
.op (.bin .sub 3 (.tmp 10) (.const (.int .i64 1)) (.v 2 0) (.c (.int .i64 1))) <|
.op (.call 79 [(.v 1 0), (.c (.int .i64 0)), (.v 0 0)]) <|
.op (.un .not (.v 0 0)) <|
.ite (.v 0 0) (.fin [.tmp 6, .tmp 7, .tmp 8] [(.c (.int .i64 0)), (.c (.int .i64 0)), (.c (.bool false))])
 (.drew <|
.rd (.bin .quo 3 (.tmp 14) (.tmp 15) (.v 3 0) (.v 4 0)) <|
.rd (.bin .rem 3 (.tmp 17) (.tmp 18) (.v 4 0) (.v 5 0)) <|
.fin [.tmp 6, .tmp 7, .tmp 8] [(.v 1 0), (.v 0 0), (.c (.bool true))])
theorem d145 (a0 a1 a2 : Value) : denF Tryz.f145 a145 [a0, a1, a2] = t145.sp 0 (rows [a0, a1, a2]) [] := by kernel_rfl
/-- bollard/geom.Inodes -/
def a146 : Ann := []
def t146 : T :=
.op (.box 23 (.v 0 0)) <|
.op (.load 23 (.v 0 0)) <|
.op (.fieldAt 23 (.v 1 0) 2) <|
.op (.load 3 (.v 0 0)) <|
.op (.call 81 [(.v 2 0), (.v 0 0)]) <|
.fin [.tmp 2] [(.v 0 0)]
theorem d146 (a0 : Value) : denF Tryz.f146 a146 [a0] = t146.sp 0 (rows [a0]) [] := by kernel_rfl
/-- bollard/bollardref03.may -/
def a170 : Ann := [(6, [(0, [2])])]
def t170 : T :=
.op (.box 23 (.v 0 0)) <|
.bind (.op (.fieldAt 23 (.v 0 0) 0) <|
.op (.load 3 (.v 0 0)) <|
.op (.bin .geq 3 (.tmp 4) (.const (.int .i64 1)) (.v 0 0) (.c (.int .i64 1))) <|
.ite (.v 0 0) (.op (.fieldAt 23 (.v 3 0) 0) <|
.op (.load 3 (.v 0 0)) <|
.op (.bin .leq 3 (.tmp 8) (.const (.int .i64 8)) (.v 0 0) (.c (.int .i64 8))) <|
.ite (.v 0 0) (.op (.fieldAt 23 (.v 6 0) 1) <|
.op (.load 3 (.v 0 0)) <|
.op (.bin .geq 3 (.tmp 13) (.const (.int .i64 8)) (.v 0 0) (.c (.int .i64 8))) <|
.ite (.v 0 0) (.op (.fieldAt 23 (.v 9 0) 1) <|
.op (.load 3 (.v 0 0)) <|
.op (.bin .leq 3 (.tmp 18) (.const (.int .i64 256)) (.v 0 0) (.c (.int .i64 256))) <|
.ite (.v 0 0) (.op (.fieldAt 23 (.v 12 0) 2) <|
.op (.load 3 (.v 0 0)) <|
.op (.bin .geq 3 (.tmp 23) (.const (.int .i64 4)) (.v 0 0) (.c (.int .i64 4))) <|
.ite (.v 0 0) (.op (.fieldAt 23 (.v 15 0) 2) <|
.op (.load 3 (.v 0 0)) <|
.op (.bin .leq 3 (.tmp 28) (.const (.int .i64 64)) (.v 0 0) (.c (.int .i64 64))) <|
.ite (.v 0 0) (.op (.fieldAt 23 (.v 18 0) 2) <|
.op (.load 3 (.v 0 0)) <|
.op (.bin .rem 3 (.tmp 33) (.const (.int .i64 4)) (.v 0 0) (.c (.int .i64 4))) <|
.op (.bin .eql 3 (.tmp 34) (.const (.int .i64 0)) (.v 0 0) (.c (.int .i64 0))) <|
.ite (.v 0 0) (.op (.fieldAt 23 (.v 22 0) 1) <|
.op (.load 3 (.v 0 0)) <|
.op (.fieldAt 23 (.v 24 0) 2) <|
.op (.load 3 (.v 0 0)) <|
.op (.bin .quo 3 (.tmp 41) (.const (.int .i64 4)) (.v 0 0) (.c (.int .i64 4))) <|
.op (.bin .add 3 (.const (.int .i64 3)) (.tmp 42) (.c (.int .i64 3)) (.v 0 0)) <|
.op (.bin .geq 3 (.tmp 39) (.tmp 43) (.v 4 0) (.v 0 0)) <|
.done 0 [(.v 0 0)]) (.done 0 [(.c (.bool false))])) (.done 0 [(.c (.bool false))])) (.done 0 [(.c (.bool false))])) (.done 0 [(.c (.bool false))])) (.done 0 [(.c (.bool false))])) (.done 0 [(.c (.bool false))])) (.done 0 [(.c (.bool false))])) <|
.alt 0 (.fin [.tmp 2] [(.v 0 0)])
 (.fail)
theorem d170 (a0 : Value) : denF Tryz.f170 a170 [a0] = t170.sp 0 (rows [a0]) [] := by kernel_rfl
/-- bollard/bollardref05.Has -/
def a171 : Ann := [(6, [(0, [4])])]
def t171 : T :=
.bind (.op (.bin .geq 3 (.tmp 5) (.const (.int .i64 0)) (.v 1 0) (.c (.int .i64 0))) <|
.ite (.v 0 0) (.op (.bin .quo 3 (.tmp 8) (.const (.int .i64 8)) (.v 2 0) (.c (.int .i64 8))) <|
.op (.builtin .len [81] 3 [false] [(.v 2 0)]) <|
.op (.bin .lss 3 (.tmp 9) (.tmp 11) (.v 1 0) (.v 0 0)) <|
.ite (.v 0 0) (.op (.bin .quo 3 (.tmp 16) (.const (.int .i64 8)) (.v 5 0) (.c (.int .i64 8))) <|
.op (.indexAt 81 (.v 5 0) (.v 0 0)) <|
.op (.load 5 (.v 0 0)) <|
.op (.bin .rem 3 (.tmp 20) (.const (.int .i64 8)) (.v 8 0) (.c (.int .i64 8))) <|
.op (.bin .shr 5 (.tmp 19) (.tmp 21) (.v 1 0) (.v 0 0)) <|
.op (.bin .rem 5 (.tmp 22) (.const (.int .u8 2)) (.v 0 0) (.c (.int .u8 2))) <|
.op (.bin .eql 5 (.tmp 23) (.const (.int .u8 1)) (.v 0 0) (.c (.int .u8 1))) <|
.done 0 [(.v 0 0)]) (.done 0 [(.c (.bool false))])) (.done 0 [(.c (.bool false))])) <|
.alt 0 (.fin [.tmp 4] [(.v 0 0)])
 (.fail)
theorem d171 (a0 a1 : Value) : denF Tryz.f171 a171 [a0, a1] = t171.sp 0 (rows [a0, a1]) [] := by kernel_rfl
/-- bollard/bollardref03.address -/
def a172 : Ann := [(6, [(0, [2])])]
def t172 : T :=
.bind (.op (.bin .geq 3 (.tmp 3) (.const (.int .i64 0)) (.v 0 0) (.c (.int .i64 0))) <|
.ite (.v 0 0) (.op (.bin .lss 3 (.tmp 6) (.const (.int .i64 2048)) (.v 1 0) (.c (.int .i64 2048))) <|
.done 0 [(.v 0 0)]) (.done 0 [(.c (.bool false))])) <|
.alt 0 (.fin [.tmp 2] [(.v 0 0)])
 (.fail)
theorem d172 (a0 : Value) : denF Tryz.f172 a172 [a0] = t172.sp 0 (rows [a0]) [] := by kernel_rfl
/-- bollard/bollardref01.Put -/
def a173 : Ann := [(12, [(0, [32])]), (250, [(0, [3, 43]), (2, [])])]
def t173 : T :=
.bind (.op (.bin .lss 3 (.tmp 12) (.const (.int .i64 1)) (.v 2 0) (.c (.int .i64 1))) <|
.ite (.v 0 0) (.done 0 [(.c (.bool true))]) (.op (.bin .gtr 3 (.tmp 15) (.const (.int .i64 4)) (.v 3 0) (.c (.int .i64 4))) <|
.ite (.v 0 0) (.done 0 [(.c (.bool true))]) (.op (.bin .lss 3 (.tmp 19) (.const (.int .i64 0)) (.v 3 0) (.c (.int .i64 0))) <|
.ite (.v 0 0) (.done 0 [(.c (.bool true))]) (.op (.bin .lss 3 (.tmp 23) (.const (.int .i64 0)) (.v 6 0) (.c (.int .i64 0))) <|
.ite (.v 0 0) (.done 0 [(.c (.bool true))]) (.op (.bin .mul 3 (.const (.int .i64 8)) (.tmp 28) (.c (.int .i64 8)) (.v 6 0)) <|
.op (.bin .shl 3 (.const (.int .i64 1)) (.tmp 29) (.c (.int .i64 1)) (.v 0 0)) <|
.op (.bin .geq 3 (.tmp 27) (.tmp 30) (.v 9 0) (.v 0 0)) <|
.done 0 [(.v 0 0)]))))) <|
.alt 0 (.ite (.v 0 0) (.fin [.tmp 8, .tmp 9] [(.c (.slice none 0 0)), (.c (.int .i64 1))])
 (.op (.builtin .len [81] 3 [false] [(.v 1 0)]) <|
.op (.bin .sub 3 (.tmp 35) (.tmp 36) (.v 0 0) (.v 4 0)) <|
.op (.bin .gtr 3 (.tmp 33) (.tmp 37) (.v 4 0) (.v 0 0)) <|
.ite (.v 0 0) (.fin [.tmp 8, .tmp 9] [(.c (.slice none 0 0)), (.c (.int .i64 10))])
 (.op (.buildSlice 81 0 []) <|
.op (.builtin .append [81, 81] 81 [false, false] [(.v 0 0), (.v 5 0)]) <|
.loop [(.v 9 0), (.c (.int .i64 0))] (
.op (.bin .lss 3 (.tmp 43) (.tmp 42) (.v 0 1) (.v 9 0)) <|
.ite (.v 0 0) (.op (.bin .add 3 (.tmp 47) (.tmp 48) (.v 9 0) (.v 1 1)) <|
.op (.bin .rem 3 (.tmp 50) (.const (.int .i64 256)) (.v 2 0) (.c (.int .i64 256))) <|
.op (.conv 3 5 (.v 0 0)) <|
.op (.indexAt 81 (.v 5 0) (.v 2 0)) <|
.op (.store 5 (.v 0 0) (.v 1 0)) <|
.op (.bin .quo 3 (.tmp 54) (.const (.int .i64 256)) (.v 6 0) (.c (.int .i64 256))) <|
.op (.bin .add 3 (.tmp 43) (.const (.int .i64 1)) (.v 7 1) (.c (.int .i64 1))) <|
.done 0 [(.v 1 0), (.v 0 0)])
 (.done 2 [])) <|
.alt 0 (.fail)
 (.alt 2 (.fin [.tmp 8, .tmp 9] [(.v 1 0), (.c (.int .i64 0))])
 (.fail)))))
 (.fail)
theorem d173 (a0 a1 a2 a3 : Value) : denF Tryz.f173 a173 [a0, a1, a2, a3] = t173.sp 0 (rows [a0, a1, a2, a3]) [] := by kernel_rfl
/-- bollard/bollardref01.Sum -/
def a174 : Ann := [(58, [(0, [3, 4, 9]), (2, [3, 4])])]
def t174 : T :=
.op (.builtin .len [81] 3 [false] [(.v 0 0)]) <|
.loop [(.c (.int .i64 1)), (.c (.int .i64 0)), (.c (.int .i64 0))] (
.op (.bin .lss 3 (.tmp 9) (.tmp 8) (.v 0 2) (.v 1 0)) <|
.ite (.v 0 0) (.op (.indexAt 81 (.v 3 0) (.v 1 2)) <|
.op (.load 5 (.v 0 0)) <|
.op (.conv 5 3 (.v 0 0)) <|
.op (.bin .add 3 (.tmp 13) (.tmp 15) (.v 4 0) (.v 0 0)) <|
.op (.bin .rem 3 (.tmp 16) (.const (.int .i64 65521)) (.v 0 0) (.c (.int .i64 65521))) <|
.op (.bin .add 3 (.tmp 18) (.tmp 19) (.v 6 1) (.v 0 0)) <|
.op (.bin .rem 3 (.tmp 20) (.const (.int .i64 65521)) (.v 0 0) (.c (.int .i64 65521))) <|
.op (.bin .add 3 (.tmp 9) (.const (.int .i64 1)) (.v 8 2) (.c (.int .i64 1))) <|
.done 0 [(.v 3 0), (.v 1 0), (.v 0 0)])
 (.done 2 [(.v 1 0), (.v 1 1)])) <|
.alt 0 (.fail)
 (.alt 2 (.op (.bin .mul 3 (.tmp 23) (.const (.int .i64 65536)) (.v 0 1) (.c (.int .i64 65536))) <|
.op (.bin .add 3 (.tmp 24) (.tmp 25) (.v 0 0) (.v 1 0)) <|
.fin [.tmp 2] [(.v 0 0)])
 (.fail))
theorem d174 (a0 : Value) : denF Tryz.f174 a174 [a0] = t174.sp 0 (rows [a0]) [] := by kernel_rfl
/-- bollard/bollardref03.IsName -/
def a175 : Ann := [(12, [(0, [18])]), (58, [(0, [3]), (1, []), (2, [])]), (1864, [(0, [40])])]
def t175 : T :=
.bind (.op (.bin .eql 9 (.tmp 4) (.const (.string ⟨#[]⟩)) (.v 0 0) (.c (.string ⟨#[]⟩))) <|
.ite (.v 0 0) (.done 0 [(.c (.bool true))]) (.op (.builtin .len [9] 3 [false] [(.v 1 0)]) <|
.op (.bin .gtr 3 (.tmp 8) (.const (.int .i64 13)) (.v 0 0) (.c (.int .i64 13))) <|
.ite (.v 0 0) (.done 0 [(.c (.bool true))]) (.op (.bin .eql 9 (.tmp 12) (.const (.string ⟨#[46]⟩)) (.v 3 0) (.c (.string ⟨#[46]⟩))) <|
.ite (.v 0 0) (.done 0 [(.c (.bool true))]) (.op (.bin .eql 9 (.tmp 16) (.const (.string ⟨#[46, 46]⟩)) (.v 4 0) (.c (.string ⟨#[46, 46]⟩))) <|
.done 0 [(.v 0 0)])))) <|
.alt 0 (.ite (.v 0 0) (.fin [.tmp 2] [(.c (.bool false))])
 (.loop [(.c (.int .i64 0))] (
.op (.builtin .len [9] 3 [false] [(.v 2 0)]) <|
.op (.bin .lss 3 (.tmp 19) (.tmp 21) (.v 1 0) (.v 0 0)) <|
.ite (.v 0 0) (.bind (.op (.index 9 (.v 4 0) (.v 2 0)) <|
.op (.bin .lss 5 (.tmp 27) (.const (.int .u8 33)) (.v 0 0) (.c (.int .u8 33))) <|
.ite (.v 0 0) (.done 0 [(.c (.bool true))]) (.op (.index 9 (.v 6 0) (.v 4 0)) <|
.op (.bin .gtr 5 (.tmp 32) (.const (.int .u8 126)) (.v 0 0) (.c (.int .u8 126))) <|
.ite (.v 0 0) (.done 0 [(.c (.bool true))]) (.op (.index 9 (.v 8 0) (.v 6 0)) <|
.op (.bin .eql 5 (.tmp 38) (.const (.int .u8 47)) (.v 0 0) (.c (.int .u8 47))) <|
.done 0 [(.v 0 0)]))) <|
.alt 0 (.ite (.v 0 0) (.done 1 [(.c (.bool false))])
 (.op (.bin .add 3 (.tmp 23) (.const (.int .i64 1)) (.v 3 0) (.c (.int .i64 1))) <|
.done 0 [(.v 0 0)]))
 (.fail))
 (.done 2 [])) <|
.alt 0 (.fail)
 (.alt 1 (.finRow [.tmp 2] 0)
 (.alt 2 (.fin [.tmp 2] [(.c (.bool true))])
 (.fail)))))
 (.fail)
theorem d175 (a0 : Value) : denF Tryz.f175 a175 [a0] = t175.sp 0 (rows [a0]) [] := by kernel_rfl
/-- slices.IndexFunc[[][]byte,[]byte] -/
def a176 : Ann := [(26, [(0, [8]), (1, []), (2, [])])]
def t176 : T :=
.op (.builtin .len [89] 3 [false] [(.v 0 0)]) <|
.loop [(.c (.int .i64 0))] (
.op (.bin .lss 3 (.tmp 8) (.tmp 7) (.v 0 0) (.v 1 0)) <|
.ite (.v 0 0) (.op (.indexAt 89 (.v 3 0) (.v 1 0)) <|
.op (.load 81 (.v 0 0)) <|
.op (.callV (.v 6 0) [(.v 0 0)]) <|
.ite (.v 0 0) (.done 1 [(.v 4 0)])
 (.op (.bin .add 3 (.tmp 8) (.const (.int .i64 1)) (.v 4 0) (.c (.int .i64 1))) <|
.done 0 [(.v 0 0)]))
 (.done 2 [])) <|
.alt 0 (.fail)
 (.alt 1 (.finRow [.tmp 4] 0)
 (.alt 2 (.fin [.tmp 4] [(.c (.int .i64 (-1)))])
 (.fail)))
theorem d176 (a0 a1 : Value) : denF Tryz.f176 a176 [a0, a1] = t176.sp 0 (rows [a0, a1]) [] := by kernel_rfl
def tbl : FuncId → Option (Nat × T)
  | 3 => some (3, t3)
  | 4 => some (3, t4)
  | 5 => some (4, t5)
  | 6 => some (5, t6)
  | 7 => some (5, t7)
  | 8 => some (6, t8)
  | 9 => some (3, t9)
  | 10 => some (3, t10)
  | 11 => some (4, t11)
  | 12 => some (1, t12)
  | 13 => some (2, t13)
  | 14 => some (1, t14)
  | 15 => some (3, t15)
  | 19 => some (1, t19)
  | 20 => some (3, t20)
  | 21 => some (2, t21)
  | 26 => some (6, t26)
  | 33 => some (1, t33)
  | 34 => some (2, t34)
  | 35 => some (1, t35)
  | 36 => some (1, t36)
  | 37 => some (1, t37)
  | 42 => some (3, t42)
  | 50 => some (2, t50)
  | 51 => some (2, t51)
  | 52 => some (1, t52)
  | 69 => some (1, t69)
  | 70 => some (2, t70)
  | 71 => some (1, t71)
  | 72 => some (1, t72)
  | 73 => some (1, t73)
  | 74 => some (1, t74)
  | 75 => some (1, t75)
  | 76 => some (2, t76)
  | 77 => some (2, t77)
  | 78 => some (1, t78)
  | 79 => some (3, t79)
  | 80 => some (1, t80)
  | 81 => some (2, t81)
  | 85 => some (3, t85)
  | 90 => some (2, t90)
  | 91 => some (3, t91)
  | 118 => some (1, t118)
  | 119 => some (3, t119)
  | 120 => some (1, t120)
  | 121 => some (1, t121)
  | 122 => some (4, t122)
  | 123 => some (1, t123)
  | 124 => some (1, t124)
  | 125 => some (1, t125)
  | 126 => some (1, t126)
  | 127 => some (2, t127)
  | 128 => some (1, t128)
  | 129 => some (1, t129)
  | 130 => some (1, t130)
  | 131 => some (2, t131)
  | 132 => some (0, t132)
  | 133 => some (2, t133)
  | 138 => some (2, t138)
  | 145 => some (3, t145)
  | 146 => some (1, t146)
  | 170 => some (1, t170)
  | 171 => some (2, t171)
  | 172 => some (1, t172)
  | 173 => some (4, t173)
  | 174 => some (1, t174)
  | 175 => some (1, t175)
  | 176 => some (2, t176)
  | _ => none
theorem tblOk : TblOk Tryz.prog tbl := by
  intro f n t h
  unfold tbl at h
  split at h
  · cases h
    refine ⟨_, a3, Tryz.func3, by kernel_rfl, by kernel_rfl, fun args hl => ?_⟩
    obtain ⟨x0, x1, x2, rfl⟩ := args3 hl
    exact d3 x0 x1 x2
  · cases h
    refine ⟨_, a4, Tryz.func4, by kernel_rfl, by kernel_rfl, fun args hl => ?_⟩
    obtain ⟨x0, x1, x2, rfl⟩ := args3 hl
    exact d4 x0 x1 x2
  · cases h
    refine ⟨_, a5, Tryz.func5, by kernel_rfl, by kernel_rfl, fun args hl => ?_⟩
    obtain ⟨x0, x1, x2, x3, rfl⟩ := args4 hl
    exact d5 x0 x1 x2 x3
  · cases h
    refine ⟨_, a6, Tryz.func6, by kernel_rfl, by kernel_rfl, fun args hl => ?_⟩
    obtain ⟨x0, x1, x2, x3, x4, rfl⟩ := args5 hl
    exact d6 x0 x1 x2 x3 x4
  · cases h
    refine ⟨_, a7, Tryz.func7, by kernel_rfl, by kernel_rfl, fun args hl => ?_⟩
    obtain ⟨x0, x1, x2, x3, x4, rfl⟩ := args5 hl
    exact d7 x0 x1 x2 x3 x4
  · cases h
    refine ⟨_, a8, Tryz.func8, by kernel_rfl, by kernel_rfl, fun args hl => ?_⟩
    obtain ⟨x0, x1, x2, x3, x4, x5, rfl⟩ := args6 hl
    exact d8 x0 x1 x2 x3 x4 x5
  · cases h
    refine ⟨_, a9, Tryz.func9, by kernel_rfl, by kernel_rfl, fun args hl => ?_⟩
    obtain ⟨x0, x1, x2, rfl⟩ := args3 hl
    exact d9 x0 x1 x2
  · cases h
    refine ⟨_, a10, Tryz.func10, by kernel_rfl, by kernel_rfl, fun args hl => ?_⟩
    obtain ⟨x0, x1, x2, rfl⟩ := args3 hl
    exact d10 x0 x1 x2
  · cases h
    refine ⟨_, a11, Tryz.func11, by kernel_rfl, by kernel_rfl, fun args hl => ?_⟩
    obtain ⟨x0, x1, x2, x3, rfl⟩ := args4 hl
    exact d11 x0 x1 x2 x3
  · cases h
    refine ⟨_, a12, Tryz.func12, by kernel_rfl, by kernel_rfl, fun args hl => ?_⟩
    obtain ⟨x0, rfl⟩ := args1 hl
    exact d12 x0
  · cases h
    refine ⟨_, a13, Tryz.func13, by kernel_rfl, by kernel_rfl, fun args hl => ?_⟩
    obtain ⟨x0, x1, rfl⟩ := args2 hl
    exact d13 x0 x1
  · cases h
    refine ⟨_, a14, Tryz.func14, by kernel_rfl, by kernel_rfl, fun args hl => ?_⟩
    obtain ⟨x0, rfl⟩ := args1 hl
    exact d14 x0
  · cases h
    refine ⟨_, a15, Tryz.func15, by kernel_rfl, by kernel_rfl, fun args hl => ?_⟩
    obtain ⟨x0, x1, x2, rfl⟩ := args3 hl
    exact d15 x0 x1 x2
  · cases h
    refine ⟨_, a19, Tryz.func19, by kernel_rfl, by kernel_rfl, fun args hl => ?_⟩
    obtain ⟨x0, rfl⟩ := args1 hl
    exact d19 x0
  · cases h
    refine ⟨_, a20, Tryz.func20, by kernel_rfl, by kernel_rfl, fun args hl => ?_⟩
    obtain ⟨x0, x1, x2, rfl⟩ := args3 hl
    exact d20 x0 x1 x2
  · cases h
    refine ⟨_, a21, Tryz.func21, by kernel_rfl, by kernel_rfl, fun args hl => ?_⟩
    obtain ⟨x0, x1, rfl⟩ := args2 hl
    exact d21 x0 x1
  · cases h
    refine ⟨_, a26, Tryz.func26, by kernel_rfl, by kernel_rfl, fun args hl => ?_⟩
    obtain ⟨x0, x1, x2, x3, x4, x5, rfl⟩ := args6 hl
    exact d26 x0 x1 x2 x3 x4 x5
  · cases h
    refine ⟨_, a33, Tryz.func33, by kernel_rfl, by kernel_rfl, fun args hl => ?_⟩
    obtain ⟨x0, rfl⟩ := args1 hl
    exact d33 x0
  · cases h
    refine ⟨_, a34, Tryz.func34, by kernel_rfl, by kernel_rfl, fun args hl => ?_⟩
    obtain ⟨x0, x1, rfl⟩ := args2 hl
    exact d34 x0 x1
  · cases h
    refine ⟨_, a35, Tryz.func35, by kernel_rfl, by kernel_rfl, fun args hl => ?_⟩
    obtain ⟨x0, rfl⟩ := args1 hl
    exact d35 x0
  · cases h
    refine ⟨_, a36, Tryz.func36, by kernel_rfl, by kernel_rfl, fun args hl => ?_⟩
    obtain ⟨x0, rfl⟩ := args1 hl
    exact d36 x0
  · cases h
    refine ⟨_, a37, Tryz.func37, by kernel_rfl, by kernel_rfl, fun args hl => ?_⟩
    obtain ⟨x0, rfl⟩ := args1 hl
    exact d37 x0
  · cases h
    refine ⟨_, a42, Tryz.func42, by kernel_rfl, by kernel_rfl, fun args hl => ?_⟩
    obtain ⟨x0, x1, x2, rfl⟩ := args3 hl
    exact d42 x0 x1 x2
  · cases h
    refine ⟨_, a50, Tryz.func50, by kernel_rfl, by kernel_rfl, fun args hl => ?_⟩
    obtain ⟨x0, x1, rfl⟩ := args2 hl
    exact d50 x0 x1
  · cases h
    refine ⟨_, a51, Tryz.func51, by kernel_rfl, by kernel_rfl, fun args hl => ?_⟩
    obtain ⟨x0, x1, rfl⟩ := args2 hl
    exact d51 x0 x1
  · cases h
    refine ⟨_, a52, Tryz.func52, by kernel_rfl, by kernel_rfl, fun args hl => ?_⟩
    obtain ⟨x0, rfl⟩ := args1 hl
    exact d52 x0
  · cases h
    refine ⟨_, a69, Tryz.func69, by kernel_rfl, by kernel_rfl, fun args hl => ?_⟩
    obtain ⟨x0, rfl⟩ := args1 hl
    exact d69 x0
  · cases h
    refine ⟨_, a70, Tryz.func70, by kernel_rfl, by kernel_rfl, fun args hl => ?_⟩
    obtain ⟨x0, x1, rfl⟩ := args2 hl
    exact d70 x0 x1
  · cases h
    refine ⟨_, a71, Tryz.func71, by kernel_rfl, by kernel_rfl, fun args hl => ?_⟩
    obtain ⟨x0, rfl⟩ := args1 hl
    exact d71 x0
  · cases h
    refine ⟨_, a72, Tryz.func72, by kernel_rfl, by kernel_rfl, fun args hl => ?_⟩
    obtain ⟨x0, rfl⟩ := args1 hl
    exact d72 x0
  · cases h
    refine ⟨_, a73, Tryz.func73, by kernel_rfl, by kernel_rfl, fun args hl => ?_⟩
    obtain ⟨x0, rfl⟩ := args1 hl
    exact d73 x0
  · cases h
    refine ⟨_, a74, Tryz.func74, by kernel_rfl, by kernel_rfl, fun args hl => ?_⟩
    obtain ⟨x0, rfl⟩ := args1 hl
    exact d74 x0
  · cases h
    refine ⟨_, a75, Tryz.func75, by kernel_rfl, by kernel_rfl, fun args hl => ?_⟩
    obtain ⟨x0, rfl⟩ := args1 hl
    exact d75 x0
  · cases h
    refine ⟨_, a76, Tryz.func76, by kernel_rfl, by kernel_rfl, fun args hl => ?_⟩
    obtain ⟨x0, x1, rfl⟩ := args2 hl
    exact d76 x0 x1
  · cases h
    refine ⟨_, a77, Tryz.func77, by kernel_rfl, by kernel_rfl, fun args hl => ?_⟩
    obtain ⟨x0, x1, rfl⟩ := args2 hl
    exact d77 x0 x1
  · cases h
    refine ⟨_, a78, Tryz.func78, by kernel_rfl, by kernel_rfl, fun args hl => ?_⟩
    obtain ⟨x0, rfl⟩ := args1 hl
    exact d78 x0
  · cases h
    refine ⟨_, a79, Tryz.func79, by kernel_rfl, by kernel_rfl, fun args hl => ?_⟩
    obtain ⟨x0, x1, x2, rfl⟩ := args3 hl
    exact d79 x0 x1 x2
  · cases h
    refine ⟨_, a80, Tryz.func80, by kernel_rfl, by kernel_rfl, fun args hl => ?_⟩
    obtain ⟨x0, rfl⟩ := args1 hl
    exact d80 x0
  · cases h
    refine ⟨_, a81, Tryz.func81, by kernel_rfl, by kernel_rfl, fun args hl => ?_⟩
    obtain ⟨x0, x1, rfl⟩ := args2 hl
    exact d81 x0 x1
  · cases h
    refine ⟨_, a85, Tryz.func85, by kernel_rfl, by kernel_rfl, fun args hl => ?_⟩
    obtain ⟨x0, x1, x2, rfl⟩ := args3 hl
    exact d85 x0 x1 x2
  · cases h
    refine ⟨_, a90, Tryz.func90, by kernel_rfl, by kernel_rfl, fun args hl => ?_⟩
    obtain ⟨x0, x1, rfl⟩ := args2 hl
    exact d90 x0 x1
  · cases h
    refine ⟨_, a91, Tryz.func91, by kernel_rfl, by kernel_rfl, fun args hl => ?_⟩
    obtain ⟨x0, x1, x2, rfl⟩ := args3 hl
    exact d91 x0 x1 x2
  · cases h
    refine ⟨_, a118, Tryz.func118, by kernel_rfl, by kernel_rfl, fun args hl => ?_⟩
    obtain ⟨x0, rfl⟩ := args1 hl
    exact d118 x0
  · cases h
    refine ⟨_, a119, Tryz.func119, by kernel_rfl, by kernel_rfl, fun args hl => ?_⟩
    obtain ⟨x0, x1, x2, rfl⟩ := args3 hl
    exact d119 x0 x1 x2
  · cases h
    refine ⟨_, a120, Tryz.func120, by kernel_rfl, by kernel_rfl, fun args hl => ?_⟩
    obtain ⟨x0, rfl⟩ := args1 hl
    exact d120 x0
  · cases h
    refine ⟨_, a121, Tryz.func121, by kernel_rfl, by kernel_rfl, fun args hl => ?_⟩
    obtain ⟨x0, rfl⟩ := args1 hl
    exact d121 x0
  · cases h
    refine ⟨_, a122, Tryz.func122, by kernel_rfl, by kernel_rfl, fun args hl => ?_⟩
    obtain ⟨x0, x1, x2, x3, rfl⟩ := args4 hl
    exact d122 x0 x1 x2 x3
  · cases h
    refine ⟨_, a123, Tryz.func123, by kernel_rfl, by kernel_rfl, fun args hl => ?_⟩
    obtain ⟨x0, rfl⟩ := args1 hl
    exact d123 x0
  · cases h
    refine ⟨_, a124, Tryz.func124, by kernel_rfl, by kernel_rfl, fun args hl => ?_⟩
    obtain ⟨x0, rfl⟩ := args1 hl
    exact d124 x0
  · cases h
    refine ⟨_, a125, Tryz.func125, by kernel_rfl, by kernel_rfl, fun args hl => ?_⟩
    obtain ⟨x0, rfl⟩ := args1 hl
    exact d125 x0
  · cases h
    refine ⟨_, a126, Tryz.func126, by kernel_rfl, by kernel_rfl, fun args hl => ?_⟩
    obtain ⟨x0, rfl⟩ := args1 hl
    exact d126 x0
  · cases h
    refine ⟨_, a127, Tryz.func127, by kernel_rfl, by kernel_rfl, fun args hl => ?_⟩
    obtain ⟨x0, x1, rfl⟩ := args2 hl
    exact d127 x0 x1
  · cases h
    refine ⟨_, a128, Tryz.func128, by kernel_rfl, by kernel_rfl, fun args hl => ?_⟩
    obtain ⟨x0, rfl⟩ := args1 hl
    exact d128 x0
  · cases h
    refine ⟨_, a129, Tryz.func129, by kernel_rfl, by kernel_rfl, fun args hl => ?_⟩
    obtain ⟨x0, rfl⟩ := args1 hl
    exact d129 x0
  · cases h
    refine ⟨_, a130, Tryz.func130, by kernel_rfl, by kernel_rfl, fun args hl => ?_⟩
    obtain ⟨x0, rfl⟩ := args1 hl
    exact d130 x0
  · cases h
    refine ⟨_, a131, Tryz.func131, by kernel_rfl, by kernel_rfl, fun args hl => ?_⟩
    obtain ⟨x0, x1, rfl⟩ := args2 hl
    exact d131 x0 x1
  · cases h
    refine ⟨_, a132, Tryz.func132, by kernel_rfl, by kernel_rfl, fun args hl => ?_⟩
    obtain rfl : args = [] := by simpa using hl
    exact d132
  · cases h
    refine ⟨_, a133, Tryz.func133, by kernel_rfl, by kernel_rfl, fun args hl => ?_⟩
    obtain ⟨x0, x1, rfl⟩ := args2 hl
    exact d133 x0 x1
  · cases h
    refine ⟨_, a138, Tryz.func138, by kernel_rfl, by kernel_rfl, fun args hl => ?_⟩
    obtain ⟨x0, x1, rfl⟩ := args2 hl
    exact d138 x0 x1
  · cases h
    refine ⟨_, a145, Tryz.func145, by kernel_rfl, by kernel_rfl, fun args hl => ?_⟩
    obtain ⟨x0, x1, x2, rfl⟩ := args3 hl
    exact d145 x0 x1 x2
  · cases h
    refine ⟨_, a146, Tryz.func146, by kernel_rfl, by kernel_rfl, fun args hl => ?_⟩
    obtain ⟨x0, rfl⟩ := args1 hl
    exact d146 x0
  · cases h
    refine ⟨_, a170, Tryz.func170, by kernel_rfl, by kernel_rfl, fun args hl => ?_⟩
    obtain ⟨x0, rfl⟩ := args1 hl
    exact d170 x0
  · cases h
    refine ⟨_, a171, Tryz.func171, by kernel_rfl, by kernel_rfl, fun args hl => ?_⟩
    obtain ⟨x0, x1, rfl⟩ := args2 hl
    exact d171 x0 x1
  · cases h
    refine ⟨_, a172, Tryz.func172, by kernel_rfl, by kernel_rfl, fun args hl => ?_⟩
    obtain ⟨x0, rfl⟩ := args1 hl
    exact d172 x0
  · cases h
    refine ⟨_, a173, Tryz.func173, by kernel_rfl, by kernel_rfl, fun args hl => ?_⟩
    obtain ⟨x0, x1, x2, x3, rfl⟩ := args4 hl
    exact d173 x0 x1 x2 x3
  · cases h
    refine ⟨_, a174, Tryz.func174, by kernel_rfl, by kernel_rfl, fun args hl => ?_⟩
    obtain ⟨x0, rfl⟩ := args1 hl
    exact d174 x0
  · cases h
    refine ⟨_, a175, Tryz.func175, by kernel_rfl, by kernel_rfl, fun args hl => ?_⟩
    obtain ⟨x0, rfl⟩ := args1 hl
    exact d175 x0
  · cases h
    refine ⟨_, a176, Tryz.func176, by kernel_rfl, by kernel_rfl, fun args hl => ?_⟩
    obtain ⟨x0, x1, rfl⟩ := args2 hl
    exact d176 x0 x1
  · cases h
end Go.Proofs.YtbnaoejdpggekaaGreatDoor.Nn
